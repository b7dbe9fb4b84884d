import Derived.Test.YtpkmlogclnjijaaGreatAm41
set_option linter.unusedVariables false
/-! Functions, with what comes behind as an argument. -/
namespace Go.AM

noncomputable def noTup (v : AV) : Bool := match v with
  | .tuple _ => false
  | _ => true

structure HFn (P : Program) where
  r : RFn
  fc : KTC → FK
  ok : ∀ KC K, CSound KC K → FitsC P K (fc KC) r.code

/-- the results, one behind the other -/
noncomputable def rsC (e : Env) (k : KS) (l : List RRes) : (List AV → Kr) → Kr :=
  @List.rec RRes (fun _ => (List AV → Kr) → Kr) (fun c => c [])
    (fun r _ ih c => @RRes.rec (fun _ => Kr)
      (fun s => gt e s fun v => @Bool.rec (fun _ => Kr) (@Option.rec _ (fun _ => Kr) none (fun v => ih fun vs => c (v :: vs)) (evRes1 e k.t.get r)) (ih fun vs => c (v :: vs)) (noTup v))
      (fun _ _ _ => @Option.rec _ (fun _ => Kr) none (fun v => ih fun vs => c (v :: vs)) (evRes1 e k.t.get r)) r) l

theorem rsC_some {e : Env} {k : KS} {y : YY} : ∀ (l : List RRes) (c : List AV → Kr), rsC e k l c = some y → ∃ vs, evRess e k.t.get l = some vs ∧ c vs = some y
  | [], c, h => ⟨[], rfl, h⟩
  | r :: l, c, h => by
    have fin : @Option.rec _ (fun _ => Kr) none (fun v => rsC e k l fun vs => c (v :: vs)) (evRes1 e k.t.get r) = some y → ∃ vs, evRess e k.t.get (r :: l) = some vs ∧ c vs = some y := by
      intro h
      cases h1 : evRes1 e k.t.get r with
      | none => rw [h1] at h; simp at h
      | some v =>
        rw [h1] at h
        obtain ⟨vs, h2, h3⟩ := rsC_some l _ h
        exact ⟨v :: vs, by simp [evRess, h1, h2], h3⟩
    cases r with
    | cell s g n => exact fin h
    | tmp s =>
      have h : gt e s (fun v => @Bool.rec (fun _ => Kr) (@Option.rec _ (fun _ => Kr) none (fun v => rsC e k l fun vs => c (v :: vs)) (evRes1 e k.t.get (.tmp s))) (rsC e k l fun vs => c (v :: vs)) (noTup v)) = some y := h
      obtain ⟨v, hv, h⟩ := gt_some h
      cases hb : noTup v with
      | false => rw [hb] at h; exact fin h
      | true =>
        rw [hb] at h
        obtain ⟨vs, h2, h3⟩ := rsC_some l _ h
        have h1 : evRes1 e k.t.get (.tmp s) = some v := by
          have : e.ev (.t s) = some v := hv
          simp only [evRes1, Env.ev0, this]
          cases v with
          | tuple l => simp [noTup] at hb
          | _ => rfl
        exact ⟨v :: vs, by simp [evRess, h1, h2], h3⟩

noncomputable def hRun (fc : FK) (n : Nat) (r : RFn) (args : List AV) (k : KS) (cv cp : KV) : Kr :=
  @Bool.rec (fun _ => Kr) none
    (fCC n fc (argEnv 0 args) k
      (fun e k' => rsC e k' r.res fun vs => @Option.rec _ (fun _ => Kr) none (fun t => cv (packR vs) ⟨t, k'.nx⟩) (kFree e r.drop k'.t))
      (fun e k' => rsC e k' r.res fun vs => @Option.rec _ (fun _ => Kr) none (fun t => cv (packR vs) ⟨t, k'.nx⟩) (kFree e r.drop k'.t))
      (fun _ _ _ => none) cp)
    (Nat.beq args.length r.np)

theorem hRun_sound {P : Program} {KC : KTC} {K : KT} (hK : CSound KC K) {g : HFn P} {n : Nat} {args : List AV} {k : KS} {cv cp : KV} {y : YY} (h : hRun (g.fc KC) n g.r args k cv cp = some y) :
    ∃ o, kRunF P K n g.r args k = some o ∧ After o cv cp y := by
  unfold hRun at h
  unfold kRunF
  cases hb : Nat.beq args.length g.r.np with
  | false => rw [hb] at h; simp at h
  | true =>
    rw [hb] at h
    simp only [cond_true] at h ⊢
    have fin : ∀ {e : Env} {k' : KS}, (rsC e k' g.r.res fun vs => @Option.rec _ (fun _ => Kr) none (fun t => cv (packR vs) ⟨t, k'.nx⟩) (kFree e g.r.drop k'.t)) = some y →
        ∃ o, ((evRess e k'.t.get g.r.res).bind fun vs => (kFree e g.r.drop k'.t).map fun t => ((.val (packR vs), ⟨t, k'.nx⟩) : Out × KS)) = some o ∧ After o cv cp y := by
      intro e k' h
      obtain ⟨vs, h1, h⟩ := rsC_some _ _ h
      rw [h1]
      cases h2 : kFree e g.r.drop k'.t with
      | none => rw [h2] at h; simp at h
      | some t => rw [h2] at h; exact ⟨_, rfl, h⟩
    obtain ⟨⟨x, e1, k1⟩, hz, ha⟩ := fCC_sound n _ _ _ _ _ _ _ _ (g.ok KC K hK) h
    rw [hz]
    cases x with
    | norm => exact fin ha
    | ret => exact fin ha
    | exit i => exact absurd (show (none : Kr) = some y from ha) (by simp)
    | pan v => exact ⟨_, rfl, ha⟩

noncomputable def hCall {P : Program} (prog : Tr (HFn P)) (spec : Nat → Option (KTC → KTC)) (n : Nat) : KTC :=
  @Nat.rec (fun _ => KTC) (fun _ _ _ _ _ => none) (fun n ih f args k cv cp =>
    @Option.rec _ (fun _ => Kr) (@Option.rec _ (fun _ => Kr) none (fun g => hRun (g.fc ih) n g.r args k cv cp) (tg prog f)) (fun s => s ih f args k cv cp) (spec f)) n

def kCallH (P : Program) (prog : Nat → Option RFn) (spec : Nat → Option (KT → KT)) : Nat → KT
  | 0, _, _, _ => none
  | n + 1, f, args, k => match spec f with
    | some s => s (kCallH P prog spec n) f args k
    | none => match prog f with
      | some r => kRunF P (kCallH P prog spec n) n r args k
      | none => none

theorem kCallH_sound {P : Program} {prog : Nat → Option RFn} {specK : Nat → Option (KT → KT)} {spec : Nat → Option (CallT → CallT)} (hn : ∀ f, specK f = none → spec f = none)
    (hs : ∀ f s, specK f = some s → ∃ s', spec f = some s' ∧ ∀ K F, KSound K F → ∀ args k o k', s K f args k = some (o, k') → s' F f args k.st = some (o, k'.st)) :
    ∀ n, KSound (kCallH P prog specK n) (callF P prog spec n) := by
  intro n
  induction n with
  | zero => intro f args k o k' h; simp [kCallH] at h
  | succ n ih =>
    intro f args k o k' h
    simp only [kCallH] at h
    simp only [callF]
    split at h
    · rename_i s h1
      obtain ⟨s', h2, h3⟩ := hs f s h1
      rw [h2]
      exact h3 _ _ ih _ _ _ _ h
    · rename_i h1
      rw [hn f h1]
      simp only
      split at h
      · rename_i r h2
        rw [h2]
        exact kRunF_sound ih h
      · simp at h

def progH {P : Program} (t : Tr (HFn P)) (f : Nat) : Option RFn := (t.get f).map HFn.r

theorem hCall_csound {P : Program} {t : Tr (HFn P)} {specC : Nat → Option (KTC → KTC)} {specK : Nat → Option (KT → KT)} (hn : ∀ f, specC f = none → specK f = none)
    (hs : ∀ f s, specC f = some s → ∃ s', specK f = some s' ∧ ∀ KC K, CSound KC K → ∀ args k cv cp y, s KC f args k cv cp = some y → ∃ o, s' K f args k = some o ∧ After o cv cp y) :
    ∀ n, CSound (hCall t specC n) (kCallH P (progH t) specK n) := by
  intro n
  induction n with
  | zero => intro f args k cv cp y h; exact absurd (show (none : Kr) = some y from h) (by simp)
  | succ n ih =>
    intro f args k cv cp y h
    have h : @Option.rec _ (fun _ => Kr) (@Option.rec _ (fun _ => Kr) none (fun g => hRun (g.fc (hCall t specC n)) n g.r args k cv cp) (tg t f)) (fun s => s (hCall t specC n) f args k cv cp) (specC f) = some y := h
    simp only [kCallH]
    cases h1 : specC f with
    | some s =>
      rw [h1] at h
      obtain ⟨s', h2, h3⟩ := hs f s h1
      rw [h2]
      exact h3 _ _ ih _ _ _ _ _ h
    | none =>
      rw [h1] at h
      rw [hn f h1]
      simp only at h ⊢
      rw [tg_eq] at h
      cases h2 : t.get f with
      | none => rw [h2] at h; simp at h
      | some g =>
        rw [h2] at h
        have : progH t f = some g.r := by simp [progH, h2]
        rw [this]
        exact hRun_sound ih h

def catchC (KC : KTC) : KTC := fun _ args k cv _ =>
  match args with
  | [.nilFunc] => cv (.tuple [faultV 0 0, .bool false]) k
  | [.func g x y] => KC g (x.map (fun p => .ptr (some p)) ++ y.map (fun p => .ptr (some p))) k (fun _ k' => cv (.tuple [faultV 0 0, .bool false]) k') (fun v k' => match v with
    | .iface t (.agg cs) => match cs.toList with
      | [.int .i64 a, .int .i64 b] => if t = 292 then cv (.tuple [faultV a b, .bool true]) k' else none
      | _ => none
    | _ => none)
  | _ => none

def specHC (f : Nat) : Option (KTC → KTC) := bif Nat.beq f 197 then some catchC else none

theorem catchC_sound {KC : KTC} {K : KT} (hK : CSound KC K) {f : Nat} {args : List AV} {k : KS} {cv cp : KV} {y : YY} (h : catchC KC f args k cv cp = some y) : ∃ o, catchK K f args k = some o ∧ After o cv cp y := by
  unfold catchC at h
  unfold catchK
  split at h
  · exact ⟨_, rfl, h⟩
  · obtain ⟨⟨o, k1⟩, h1, h2⟩ := hK _ _ _ _ _ _ h
    simp only [h1]
    cases o with
    | val v => exact ⟨_, rfl, h2⟩
    | pan v =>
      simp only [After] at h2
      split at h2
      · split at h2
        · rename_i hcs
          simp only [hcs]
          split at h2
          · rename_i ht
            rw [if_pos ht]
            exact ⟨_, rfl, h2⟩
          · simp at h2
        · simp at h2
      · simp at h2
  · simp at h

theorem hCall_sound {t : Tr (HFn Go.Proofs.Tryz.prog)} (n : Nat) : CSound (hCall t specHC n) (kCallH Go.Proofs.Tryz.prog (progH t) specKC n) := by
  refine hCall_csound (fun f h => ?_) (fun f s h => ?_) n
  · unfold specHC at h
    unfold specKC
    cases hb : Nat.beq f 197 with
    | true => rw [hb] at h; simp at h
    | false => rfl
  · unfold specHC at h
    unfold specKC
    cases hb : Nat.beq f 197 with
    | false => rw [hb] at h; simp at h
    | true =>
      rw [hb] at h
      simp only [cond_true, Option.some.injEq] at h
      subst h
      exact ⟨_, rfl, fun KC K hK args k cv cp y h => catchC_sound hK h⟩

theorem kCallH_ksound {t : Tr (HFn Go.Proofs.Tryz.prog)} (n : Nat) : KSound (kCallH Go.Proofs.Tryz.prog (progH t) specKC n) (callF Go.Proofs.Tryz.prog (progH t) specC n) := by
  refine kCallH_sound (fun f h => ?_) (fun f s h => ?_) n
  · unfold specKC at h
    unfold specC
    cases hb : Nat.beq f 197 with
    | true => rw [hb] at h; simp at h
    | false => rfl
  · unfold specKC at h
    unfold specC
    cases hb : Nat.beq f 197 with
    | false => rw [hb] at h; simp at h
    | true =>
      rw [hb] at h
      simp only [cond_true, Option.some.injEq] at h
      subst h
      exact ⟨_, rfl, fun K F hK args k o k' h => catchK_sound hK h⟩

def TabOkH (P : Program) : List (Nat × HFn P) → Prop
  | [] => True
  | (f, g) :: l => (∃ fn, P.funcs[f]? = some fn ∧ chkF P fn g.r = true) ∧ TabOkH P l

theorem TabOkH.mem {P : Program} : ∀ {l : List (Nat × HFn P)}, TabOkH P l → ∀ f g, (f, g) ∈ l → ∃ fn, P.funcs[f]? = some fn ∧ chkF P fn g.r = true
  | (_, _) :: l, h, f, r, hm => by
    rcases List.mem_cons.1 hm with he | hm
    · simp only [Prod.mk.injEq] at he
      obtain ⟨rfl, rfl⟩ := he
      exact h.1
    · exact TabOkH.mem h.2 f r hm

theorem tableH_sound {l : List (Nat × HFn Go.Proofs.Tryz.prog)} {t : Tr (HFn Go.Proofs.Tryz.prog)} (ht : ofL l = some t) (hl : TabOkH Go.Proofs.Tryz.prog l) (hm : Go.Proofs.Tryz.prog.follows .mixedOrders = true) (n : Nat) :
    FSound Go.Proofs.Tryz.prog (callF Go.Proofs.Tryz.prog (progH t) specC n) :=
  callF_sound hm (fun f r hr => by
    unfold progH at hr
    cases hg : t.get f with
    | none => rw [hg] at hr; simp at hr
    | some g =>
      rw [hg] at hr
      simp only [Option.map_some, Option.some.injEq] at hr
      subst hr
      exact hl.mem f g (ofL_mem l t ht f g hg)) specC_sound n

/-- the end of a closed sentence: true was answered -/
def topV : KV := fun v _ => match v with
  | .sc (.bool true) => some (.ret, [], ⟨.nil, 0⟩)
  | _ => none

/-- What is computed from nothing holds in every world. -/
theorem closed_true {l : List (Nat × HFn Go.Proofs.Tryz.prog)} {t : Tr (HFn Go.Proofs.Tryz.prog)} (ht : ofL l = some t) (hl : TabOkH Go.Proofs.Tryz.prog l) (hm : Go.Proofs.Tryz.prog.follows .mixedOrders = true) {n f : Nat}
    (h : hCall t specHC n f [] ⟨.nil, 0⟩ topV (fun _ _ => none) = some (.ret, [], ⟨.nil, 0⟩)) (w : World) :
    Calls Go.Proofs.Tryz.prog f #[] w fun e w' => e = .returned (.bool true) ∧ Go.RowKit.Grown w w' := by
  obtain ⟨⟨o, k⟩, h1, h2⟩ := hCall_sound n _ _ _ _ _ _ h
  cases o with
  | pan v => exact absurd (show (none : Kr) = some _ from h2) (by simp)
  | val v =>
    have h2 : topV v k = some (.ret, [], ⟨.nil, 0⟩) := h2
    unfold topV at h2
    split at h2
    · have h3 := kCallH_ksound n _ _ _ _ _ h1
      exact calls_closed (tableH_sound ht hl hm n) h3 w
    · simp at h2

section
variable {P : Program} {K : KT}
theorem hk : FitsC P K .skip .skip := trivial
theorem hr : FitsC P K .ret .ret := trivial
theorem hx {i : Nat} : FitsC P K (.exit i) (.exit i) := rfl
theorem hs {a b : FK} {a' b' : RC} (h : FitsC P K a a') (h' : FitsC P K b b') : FitsC P K (.seq a b) (.seq a' b') := ⟨h, h'⟩
theorem hc {x : RX} {a b : FK} {a' b' : RC} (h : FitsC P K a a') (h' : FitsC P K b b') : FitsC P K (.cond x a b) (.cond x a' b') := ⟨rfl, h, h'⟩
theorem hb {i : Nat} {c : FK} {c' : RC} (h : FitsC P K c c') : FitsC P K (.block i c) (.block i c') := ⟨rfl, h⟩
theorem hl {l : List Nat} {c : FK} {c' : RC} (hn : nodB l = true) (h : FitsC P K c c') : FitsC P K (.loop l c) (.loop l c') := ⟨⟨rfl, hn⟩, h⟩
theorem hf {l : List Nat} {c : FK} {c' : RC} (h : FitsC P K c c') : FitsC P K (.free l c) (.free l c') := ⟨rfl, h⟩
end

end Go.AM
