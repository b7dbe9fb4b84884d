import Derived.Test.YtpkmlogclnjijaaGreatAm40
set_option linter.unusedVariables false
/-! The machine with what comes behind as an argument: nothing of what is done is kept. -/
namespace Go.AM

abbrev KN := Env → KS → Kr
abbrev KV := AV → KS → Kr
abbrev KTC := Nat → List AV → KS → KV → KV → Kr
abbrev YY := X × Env × KS

def After (o : Out × KS) (cv cp : KV) (y : YY) : Prop := match o with
  | (.val v, k) => cv v k = some y
  | (.pan v, k) => cp v k = some y

def CSound (KC : KTC) (K : KT) : Prop := ∀ f args k cv cp y, KC f args k cv cp = some y → ∃ o, K f args k = some o ∧ After o cv cp y

def cA (KC : KTC) (e : Env) (k : KS) (q : AC) (cv cp : KV) : Kr := match q with
  | .callf f args => (e.evs args).bind fun l => KC f l k cv cp
  | .callv x args => match e.ev x with
    | some (.func f a b) => (e.evs args).bind fun l => KC f (a.map (fun p => .ptr (some p)) ++ l ++ b.map (fun p => .ptr (some p))) k cv cp
    | _ => none
  | q => pCall (kA (fun _ _ _ => none) e k q) cv cp

theorem pCall_some {r : Option (Out × KS)} {cv cp : KV} {y : YY} (h : pCall r cv cp = some y) : ∃ o, r = some o ∧ After o cv cp y := by
  rcases r with _ | ⟨o, k⟩
  · simp [pCall] at h
  · cases o <;> exact ⟨_, rfl, h⟩

theorem cA_sound {KC : KTC} {K : KT} (hK : CSound KC K) {e : Env} {k : KS} {q : AC} {cv cp : KV} {y : YY} (h : cA KC e k q cv cp = some y) : ∃ o, kA K e k q = some o ∧ After o cv cp y := by
  cases q with
  | callf f args =>
    simp only [cA, Option.bind_eq_some_iff] at h
    obtain ⟨l, h1, h⟩ := h
    simp only [kA, h1, Option.bind_some]
    exact hK _ _ _ _ _ _ h
  | callv x args =>
    simp only [cA] at h
    simp only [kA]
    split at h
    · rename_i f a b hx
      simp only [Option.bind_eq_some_iff] at h
      obtain ⟨l, h1, h⟩ := h
      simp only [h1, Option.bind_some, hx]
      exact hK _ _ _ _ _ _ h
    · simp at h
  | _ => exact pCall_some h

def RAfter (z : YY) (c : KN) (p : KV) (y : YY) : Prop := match z with
  | (.norm, e, k) => c e k = some y
  | (.pan v, _, k) => p v k = some y
  | _ => False

theorem RAfter.sim {z z' : YY} {c : KN} {p : KV} {y : YY} (h : RAfter z c p y) (hs : Sim z z') : RAfter z' c p y := by
  obtain ⟨x, e, k⟩ := z
  cases x with
  | norm =>
    have := hs.eqn (by simp)
    subst this
    exact h
  | pan v =>
    obtain ⟨x2, e2, k2⟩ := z'
    have h3 : x2 = .pan v := hs.1
    have h4 : k2 = k := hs.2.1
    subst h3; subst h4
    exact h
  | _ => exact h.elim

def wReg (P : Program) (KC : KTC) (keep : List Nat) : List RI → Env → KS → KN → KV → Kr
  | [], e, k, c, _ => c (e.keep keep) k
  | o :: r, e, k, c, p => match wants e o.gd with
    | none => none
    | some false => wReg P KC keep r (e.put o.dst (.tuple [])) k c p
    | some true => match o.op with
      | .q q => (kQ P e q).bind fun v => wReg P KC keep r (e.put o.dst v) k c p
      | .rd q => (evR k.t.get e q).bind fun v => wReg P KC keep r (e.put o.dst v) k c p
      | .al q => pAl (evAl e k.nx q) k fun v k' => wReg P KC keep r (e.put o.dst v) k' c p
      | .ac q => cA KC e k q (fun v k' => wReg P KC keep r (e.put o.dst v) k' c p) p

theorem wReg_sound {P : Program} {KC : KTC} {K : KT} (hK : CSound KC K) {keep : List Nat} {c : KN} {p : KV} {y : YY} : ∀ (ops : List RI) (e : Env) (k : KS), wReg P KC keep ops e k c p = some y →
    ∃ z, kKeep keep (kRegN P K ops e k) = some z ∧ RAfter z c p y
  | [], e, k, h => ⟨_, rfl, h⟩
  | ⟨d, g, op⟩ :: r, e, k, h => by
    simp only [wReg] at h
    simp only [kRegN]
    split at h
    · simp at h
    · rename_i hw
      rw [hw]
      exact wReg_sound hK r _ _ h
    · rename_i hw
      rw [hw]
      cases op with
      | q q =>
        simp only [Option.bind_eq_some_iff] at h
        obtain ⟨v, h1, h⟩ := h
        simp only [h1, Option.bind_some]
        exact wReg_sound hK r _ _ h
      | rd q =>
        simp only [Option.bind_eq_some_iff] at h
        obtain ⟨v, h1, h⟩ := h
        simp only [h1, Option.bind_some]
        exact wReg_sound hK r _ _ h
      | al q =>
        simp only [pAl, Option.bind_eq_some_iff] at h
        obtain ⟨v, h1, t, h2, h⟩ := h
        simp only [h1, h2, Option.bind_some]
        exact wReg_sound hK r _ _ h
      | ac q =>
        simp only at h
        obtain ⟨⟨o, k1⟩, h1, h2⟩ := cA_sound hK h
        simp only [h1]
        cases o with
        | val v => exact wReg_sound hK r _ _ h2
        | pan v => exact ⟨_, rfl, h2⟩

def wLive (P : Program) (KC : KTC) (keep : List Nat) : Plan → Env → KS → Tr Blk → List (Tr Blk) → KN → KV → Kr
  | [], e, k, _, _, c, _ => c (e.keep keep) k
  | (_, r, u) :: rest, e, k, h, old, c, p =>
    match wants e r.gd with
    | none => none
    | some false => bif r.isAc then wLive P KC keep rest (e.put r.dst (.tuple [])) k k.t (h :: old) c p else wLive P KC keep rest (e.put r.dst (.tuple [])) k h old c p
    | some true => match r.op with
      | .q q => (kQ P e q).bind fun v => wLive P KC keep rest (e.put r.dst v) k h old c p
      | .rd q => (evR h.get e q).bind fun v => bif oldOk e q v (old.take u) then wLive P KC keep rest (e.put r.dst v) k h old c p else none
      | .al q => pAl (evAl e k.nx q) k fun v k' => wLive P KC keep rest (e.put r.dst v) k' h old c p
      | .ac q => cA KC e k q (fun v k' => wLive P KC keep rest (e.put r.dst v) k' k'.t (h :: old) c p) (fun v k' => (kDead old h P 1 rest (e.del r.dst) k').bind fun s => p v ⟨k'.t, s.nx⟩)

theorem wLive_sound {P : Program} {KC : KTC} {K : KT} (hK : CSound KC K) {keep : List Nat} {c : KN} {p : KV} {y : YY} : ∀ (plan : Plan) (e : Env) (k : KS) (h : Tr Blk) (old : List (Tr Blk)), wLive P KC keep plan e k h old c p = some y →
    ∃ z, kKeep keep (kLive P K plan e k h old) = some z ∧ RAfter z c p y
  | [], e, k, h, old, hh => ⟨_, rfl, hh⟩
  | (i, ⟨d, g, op⟩, u) :: r, e, k, h, old, hh => by
    simp only [wLive] at hh
    simp only [kLive]
    split at hh
    · simp at hh
    · rename_i hw
      rw [hw]
      simp only
      cases hac : RI.isAc ⟨d, g, op⟩ with
      | true => rw [hac] at hh; exact wLive_sound hK r _ _ _ _ hh
      | false => rw [hac] at hh; exact wLive_sound hK r _ _ _ _ hh
    · rename_i hw
      rw [hw]
      cases op with
      | q q =>
        simp only [Option.bind_eq_some_iff] at hh
        obtain ⟨v, h1, hh⟩ := hh
        simp only [h1, Option.bind_some]
        exact wLive_sound hK r _ _ _ _ hh
      | rd q =>
        simp only [Option.bind_eq_some_iff] at hh
        obtain ⟨v, h1, hh⟩ := hh
        simp only [h1, Option.bind_some]
        cases ho : oldOk e q v (List.take u old) with
        | true => rw [ho] at hh; exact wLive_sound hK r _ _ _ _ hh
        | false => rw [ho] at hh; simp at hh
      | al q =>
        simp only [pAl, Option.bind_eq_some_iff] at hh
        obtain ⟨v, h1, t, h2, hh⟩ := hh
        simp only [h1, h2, Option.bind_some]
        exact wLive_sound hK r _ _ _ _ hh
      | ac q =>
        simp only at hh
        obtain ⟨⟨o, k1⟩, h1, h2⟩ := cA_sound hK hh
        simp only [h1]
        cases o with
        | val v => exact wLive_sound hK r _ _ _ _ h2
        | pan v =>
          simp only [After, Option.bind_eq_some_iff] at h2
          obtain ⟨s, h3, h4⟩ := h2
          simp only [h3, Option.map_some]
          exact ⟨_, rfl, h4⟩

/-! Code. -/

abbrev RegC := Env → KS → KN → KV → Kr

inductive FK where
  | skip | ret
  | exit (id : Nat)
  | reg (f : RegC)
  | seq (a b : FK)
  | cond (c : RX) (a b : FK)
  | block (id : Nat) (c : FK)
  | loop (keep : List Nat) (c : FK)
  | free (l : List Nat) (c : FK)

/-- Have the slots this order? -/
noncomputable def shB (e : Env) : List Nat → Bool :=
  @List.rec (Nat × AV) (fun _ => List Nat → Bool) (fun l => @List.rec Nat (fun _ => Bool) true (fun _ _ _ => false) l)
    (fun p _ ih l => @List.rec Nat (fun _ => Bool) false (fun s r _ => @Prod.rec Nat AV (fun _ => Bool) (fun t _ => @Bool.rec (fun _ => Bool) false (ih r) (Nat.beq t s)) p) l) e

theorem shB_eq : ∀ (e : Env) (l : List Nat), shB e l = true → e.map (·.1) = l
  | [], [], _ => rfl
  | [], _ :: _, h => by simp [shB] at h
  | _ :: _, [], h => by simp [shB] at h
  | (t, v) :: e, s :: l, h => by
    have h0 : shB ((t, v) :: e) (s :: l) = @Bool.rec (fun _ => Bool) false (shB e l) (Nat.beq t s) := rfl
    rw [h0] at h
    cases hb : Nat.beq t s with
    | false => rw [hb] at h; simp at h
    | true =>
      rw [hb] at h
      have := Nat.eq_of_beq_eq_true hb
      subst this
      simp only [List.map_cons, shB_eq e l h]

noncomputable def keepF (e : Env) (l : List Nat) : Env := @Bool.rec (fun _ => Env) (e.keep l) e (shB e l)

theorem keep_skip {e : Env} {s : Nat} {v : AV} : ∀ l : List Nat, s ∉ l → Env.keep ((s, v) :: e) l = e.keep l
  | [], _ => rfl
  | t :: l, h => by
    simp only [List.mem_cons, not_or] at h
    have := keep_skip (e := e) (v := v) l h.2
    have g : Env.get ((s, v) :: e) t = e.get t := by simp only [Env.get, if_neg h.1]
    simp only [Env.keep] at this
    simp only [Env.keep, List.filterMap_cons, g, this]

theorem keep_self : ∀ (e : Env), (e.map (·.1)).Nodup → e.keep (e.map (·.1)) = e
  | [], _ => rfl
  | (s, v) :: e, h => by
    simp only [List.map_cons, List.nodup_cons] at h
    have h1 := keep_skip (e := e) (v := v) _ h.1
    have h2 := keep_self e h.2
    simp only [Env.keep] at h1 h2
    have g : Env.get ((s, v) :: e) s = some v := by simp only [Env.get, if_true]
    simp only [List.map_cons, Env.keep, List.filterMap_cons, g, Option.map_some, h1, h2]

def nodB : List Nat → Bool
  | [] => true
  | s :: l => !l.contains s && nodB l
theorem nodB_eq : ∀ {l : List Nat}, nodB l = true → l.Nodup
  | [], _ => List.nodup_nil
  | s :: l, h => by
    simp only [nodB, Bool.and_eq_true] at h
    rw [List.nodup_cons]
    refine ⟨?_, nodB_eq h.2⟩
    intro hm
    have := h.1
    simp [hm] at this

theorem keepF_eq {e : Env} {l : List Nat} (h : nodB l = true) : keepF e l = e.keep l := by
  unfold keepF
  cases hs : shB e l with
  | false => rfl
  | true =>
    have h1 := shB_eq e l hs
    have := nodB_eq h
    show e = e.keep l
    rw [← h1] at this ⊢
    exact (keep_self e this).symm

noncomputable def fCC (n : Nat) (fc : FK) : Env → KS → KN → KN → (Nat → KN) → KV → Kr :=
  @FK.rec (fun _ => Env → KS → KN → KN → (Nat → KN) → KV → Kr)
    (fun e k cn _ _ _ => cn e k)
    (fun e k _ cr _ _ => cr e k)
    (fun id e k _ _ cx _ => cx id e k)
    (fun f e k cn _ _ cp => f e k cn cp)
    (fun _ _ a b e k cn cr cx cp => a e k (fun e k => b e k cn cr cx cp) cr cx cp)
    (fun x _ _ a b e k cn cr cx cp => @RX.rec (fun _ => Kr) (fun s => gt e s fun v => onB v (a e k cn cr cx cp) (b e k cn cr cx cp)) (fun v => onB (.sc v) (a e k cn cr cx cp) (b e k cn cr cx cp)) none none none none none (fun _ => none) x)
    (fun id _ c e k cn cr cx cp => c e k cn cr (fun i e k => @Bool.rec (fun _ => Kr) (cx i e k) (cn e k) (Nat.beq i id)) cp)
    (fun keep _ c e k _ cr cx cp => @Nat.rec (fun _ => Env → KS → Kr) (fun _ _ => none) (fun _ ih e k => c (keepF e keep) k ih cr cx cp) n e k)
    (fun l _ c e k cn cr cx cp => c e k (fun e' k' => @Option.rec _ (fun _ => Kr) none (fun t => cn e' ⟨t, k'.nx⟩) (kFree e' l k'.t)) cr cx cp)
    fc

def FitsC (P : Program) (K : KT) : FK → RC → Prop
  | .skip, .skip => True
  | .ret, .ret => True
  | .exit i, .exit j => i = j
  | .reg f, .reg ops keep => ∀ e k c p y, f e k c p = some y → ∃ z, kKeep keep (kRegion P K ops e k) = some z ∧ RAfter z c p y
  | .reg f, .draw plan keep => ∀ e k c p y, f e k c p = some y → ∃ z, kKeep keep (kLive P K plan e k k.t []) = some z ∧ RAfter z c p y
  | .seq a b, .seq a' b' => FitsC P K a a' ∧ FitsC P K b b'
  | .cond c a b, .cond c' a' b' => c = c' ∧ FitsC P K a a' ∧ FitsC P K b b'
  | .block i c, .block j c' => i = j ∧ FitsC P K c c'
  | .loop l c, .loop l' c' => (l = l' ∧ nodB l = true) ∧ FitsC P K c c'
  | .free l c, .free l' c' => l = l' ∧ FitsC P K c c'
  | _, _ => False

def CAfter (z : YY) (cn cr : KN) (cx : Nat → KN) (cp : KV) (y : YY) : Prop := match z with
  | (.norm, e, k) => cn e k = some y
  | (.ret, e, k) => cr e k = some y
  | (.exit i, e, k) => cx i e k = some y
  | (.pan v, _, k) => cp v k = some y

theorem fCC_sound {P : Program} {K : KT} (n : Nat) {y : YY} : ∀ (fc : FK) (c : RC) (e : Env) (k : KS) (cn cr : KN) (cx : Nat → KN) (cp : KV), FitsC P K fc c → fCC n fc e k cn cr cx cp = some y →
    ∃ z, kC P K n c e k = some z ∧ CAfter z cn cr cx cp y := by
  have reg : ∀ {r : Kr} {cn cr : KN} {cx : Nat → KN} {cp : KV}, (∃ z, r = some z ∧ RAfter z cn cp y) → ∃ z, r = some z ∧ CAfter z cn cr cx cp y := by
    rintro r cn cr cx cp ⟨⟨x, e, k⟩, h1, h2⟩
    refine ⟨_, h1, ?_⟩
    cases x <;> first | exact h2 | exact h2.elim
  intro fc
  induction fc with
  | skip => intro c e k cn cr cx cp hf h; cases c <;> first | exact hf.elim | exact ⟨_, rfl, h⟩
  | ret => intro c e k cn cr cx cp hf h; cases c <;> first | exact hf.elim | exact ⟨_, rfl, h⟩
  | exit i =>
    intro c e k cn cr cx cp hf h
    cases c <;> first | exact hf.elim | skip
    rw [← (show _ = _ from hf)]; exact ⟨_, rfl, h⟩
  | reg f =>
    intro c e k cn cr cx cp hf h
    cases c <;> first | exact hf.elim | exact reg (hf e k cn cp y h)
  | seq a b iha ihb =>
    intro c e k cn cr cx cp hf h
    cases c <;> first | exact hf.elim | skip
    obtain ⟨h1, h2⟩ := hf
    obtain ⟨⟨x, e1, k1⟩, hz, ha⟩ := iha _ e k (fun e k => fCC n b e k cn cr cx cp) cr cx cp h1 h
    simp only [kC, hz]
    cases x with
    | norm => exact ihb _ _ _ _ _ _ _ h2 ha
    | _ => exact ⟨_, rfl, ha⟩
  | cond x a b iha ihb =>
    intro c e k cn cr cx cp hf h
    cases c <;> first | exact hf.elim | skip
    rename_i x' a' b'
    obtain ⟨rfl, h1, h2⟩ := hf
    have fin : ∀ v, e.ev x = some v → onB v (fCC n a e k cn cr cx cp) (fCC n b e k cn cr cx cp) = some y → ∃ z, kC P K n (.cond x a' b') e k = some z ∧ CAfter z cn cr cx cp y := by
      intro v hv h
      obtain ⟨t, rfl, h⟩ := onB_some h
      simp only [kC, hv]
      cases t with
      | true => exact iha _ _ _ _ _ _ _ h1 h
      | false => exact ihb _ _ _ _ _ _ _ h2 h
    cases x with
    | t s =>
      have h : gt e s (fun v => onB v (fCC n a e k cn cr cx cp) (fCC n b e k cn cr cx cp)) = some y := h
      obtain ⟨v, hv, h⟩ := gt_some h
      exact fin v hv h
    | k v => exact fin _ rfl h
    | _ => exact absurd (show (none : Kr) = some y from h) (by simp)
  | block i c ih =>
    intro c' e k cn cr cx cp hf h
    cases c' <;> first | exact hf.elim | skip
    rename_i j c'
    obtain ⟨h0, h1⟩ := hf
    subst h0
    obtain ⟨⟨x, e1, k1⟩, hz, ha⟩ := ih _ e k cn cr (fun j e k => @Bool.rec (fun _ => Kr) (cx j e k) (cn e k) (Nat.beq j i)) cp h1 h
    simp only [kC, hz]
    cases x with
    | exit j =>
      have ha : @Bool.rec (fun _ => Kr) (cx j e1 k1) (cn e1 k1) (Nat.beq j i) = some y := ha
      simp only
      cases hb : Nat.beq j i with
      | true => rw [hb] at ha; exact ⟨_, rfl, ha⟩
      | false => rw [hb] at ha; exact ⟨_, rfl, ha⟩
    | _ => exact ⟨_, rfl, ha⟩
  | loop l c ih =>
    intro c' e k cn cr cx cp hf h
    cases c' <;> first | exact hf.elim | skip
    rename_i l' c'
    obtain ⟨⟨h0, hn⟩, h1⟩ := hf
    subst h0
    have h : @Nat.rec (fun _ => Env → KS → Kr) (fun _ _ => none) (fun _ ih e k => fCC n c (keepF e l) k ih cr cx cp) n e k = some y := h
    simp only [kC]
    have key : ∀ m e k, @Nat.rec (fun _ => Env → KS → Kr) (fun _ _ => none) (fun _ ih e k => fCC n c (keepF e l) k ih cr cx cp) m e k = some y → ∃ z, kIter (fun e k => kC P K n c' (e.keep l) k) m e k = some z ∧ CAfter z cn cr cx cp y := by
      intro m
      induction m with
      | zero => intro e k h; simp at h
      | succ m ihm =>
        intro e k h
        have h : fCC n c (keepF e l) k (@Nat.rec (fun _ => Env → KS → Kr) (fun _ _ => none) (fun _ ih e k => fCC n c (keepF e l) k ih cr cx cp) m) cr cx cp = some y := h
        rw [keepF_eq hn] at h
        obtain ⟨⟨x, e1, k1⟩, hz, ha⟩ := ih _ _ _ _ _ _ _ h1 h
        simp only [kIter, hz]
        cases x with
        | norm => exact ihm _ _ ha
        | _ => exact ⟨_, rfl, ha⟩
    exact key n e k h
  | free l c ih =>
    intro c' e k cn cr cx cp hf h
    cases c' <;> first | exact hf.elim | skip
    rename_i l' c'
    obtain ⟨h0, h1⟩ := hf
    subst h0
    obtain ⟨⟨x, e1, k1⟩, hz, ha⟩ := ih _ e k (fun e' k' => @Option.rec _ (fun _ => Kr) none (fun t => cn e' ⟨t, k'.nx⟩) (kFree e' l k'.t)) cr cx cp h1 h
    simp only [kC, hz]
    cases x with
    | norm =>
      have ha : @Option.rec _ (fun _ => Kr) none (fun t => cn e1 ⟨t, k1.nx⟩) (kFree e1 l k1.t) = some y := ha
      simp only
      cases hk : kFree e1 l k1.t with
      | none => rw [hk] at ha; simp at ha
      | some t => rw [hk] at ha; exact ⟨_, rfl, ha⟩
    | _ => exact ⟨_, rfl, ha⟩

theorem wreg_fit {P : Program} {KC : KTC} {K : KT} (hK : CSound KC K) {ins keep : List Nat} {ops : List RI} {e l : Env} {k : KS} {c : KN} {p : KV} {y : YY} {r : Kr} (hc : insOk keep ins ops = true) (hl : e.keep ins = l)
    (he : r = wReg P KC keep ops l k c p) (h : r = some y) : ∃ z, kKeep keep (kRegion P K ops e k) = some z ∧ RAfter z c p y := by
  obtain ⟨z, h1, h2⟩ := wReg_sound hK ops l k (he.symm.trans h)
  obtain ⟨z', h3, h4⟩ := kReg_agr ops ins e l k z hc (agr_keep hl) h1
  exact ⟨z', h3, h2.sim h4⟩

theorem wdraw_fit {P : Program} {KC : KTC} {K : KT} (hK : CSound KC K) {ins keep : List Nat} {plan : Plan} {e l : Env} {k : KS} {c : KN} {p : KV} {y : YY} {r : Kr} (hc : insOkD keep ins plan = true) (hl : e.keep ins = l)
    (he : r = wLive P KC keep plan l k k.t [] c p) (h : r = some y) : ∃ z, kKeep keep (kLive P K plan e k k.t []) = some z ∧ RAfter z c p y := by
  obtain ⟨z, h1, h2⟩ := wLive_sound hK plan l k k.t [] (he.symm.trans h)
  exact ⟨z, (kLive_agr plan ins e l k k.t [] hc (agr_keep hl)).trans h1, h2⟩

theorem wslow_reg {P : Program} {KC : KTC} {K : KT} (hK : CSound KC K) {ops : List RI} {keep : List Nat} : FitsC P K (.reg fun e k c p => wReg P KC keep ops e k c p) (.reg ops keep) := fun e k c p y h => by
  obtain ⟨z, h1, h2⟩ := wReg_sound hK ops e k h
  have hn : ∀ (ops : List RI) (e : Env) (k : KS) (z : YY), kKeep keep (kRegN P K ops e k) = some z → ∃ z', kKeep keep (kRegion P K ops e k) = some z' ∧ Sim z z' := by
    intro ops
    induction ops with
    | nil => intro e k z h; exact ⟨z, h, Sim.refl z⟩
    | cons o r ih =>
      obtain ⟨d, g, op⟩ := o
      intro e k z h
      simp only [kRegN] at h
      simp only [kRegion]
      split at h
      · simp [kKeep] at h
      · rename_i hw
        rw [hw]
        exact ih _ _ _ h
      · rename_i hw
        rw [hw]
        cases op with
        | q q =>
          simp only at h ⊢
          cases hv : kQ P e q with
          | none => rw [hv] at h; simp [kKeep] at h
          | some v => rw [hv] at h; exact ih _ _ _ h
        | rd q =>
          simp only at h ⊢
          cases hv : evR k.t.get e q with
          | none => rw [hv] at h; simp [kKeep] at h
          | some v => rw [hv] at h; exact ih _ _ _ h
        | al q =>
          simp only at h ⊢
          cases hv : evAl e k.nx q with
          | none => rw [hv] at h; simp [kKeep] at h
          | some v =>
            rw [hv] at h
            simp only [Option.bind_some] at h ⊢
            cases ht : Tr.set 64 k.t k.nx (some v.2) with
            | none => rw [ht] at h; simp [kKeep] at h
            | some t => rw [ht] at h; exact ih _ _ _ h
        | ac q =>
          simp only at h ⊢
          rcases hv : kA K e k q with _ | ⟨o, k1⟩
          · rw [hv] at h; simp [kKeep] at h
          · rw [hv] at h
            cases o with
            | val v => exact ih _ _ _ h
            | pan v =>
              simp only [kKeep, Option.some.injEq] at h ⊢
              subst h
              exact ⟨(.pan v, e, k1), rfl, rfl, rfl, fun hn => absurd rfl (hn v)⟩
  obtain ⟨z', h3, h4⟩ := hn ops e k z h1
  exact ⟨z', h3, h2.sim h4⟩

theorem wslow_draw {P : Program} {KC : KTC} {K : KT} (hK : CSound KC K) {plan : Plan} {keep : List Nat} : FitsC P K (.reg fun e k c p => wLive P KC keep plan e k k.t [] c p) (.draw plan keep) := fun e k _ _ _ h => wLive_sound hK plan e k k.t [] h

/-- are the loops' lists without repetition? -/
def nodRC : RC → Bool
  | .seq a b => nodRC a && nodRC b
  | .cond _ a b => nodRC a && nodRC b
  | .block _ c => nodRC c
  | .loop l c => nodB l && nodRC c
  | .free _ c => nodRC c
  | _ => true

def wslow (P : Program) (KC : KTC) : RC → FK
  | .skip => .skip
  | .ret => .ret
  | .exit i => .exit i
  | .reg ops keep => .reg fun e k c p => wReg P KC keep ops e k c p
  | .draw plan keep => .reg fun e k c p => wLive P KC keep plan e k k.t [] c p
  | .seq a b => .seq (wslow P KC a) (wslow P KC b)
  | .cond x a b => .cond x (wslow P KC a) (wslow P KC b)
  | .block i c => .block i (wslow P KC c)
  | .loop l c => .loop l (wslow P KC c)
  | .free l c => .free l (wslow P KC c)

theorem wslow_fits {P : Program} {KC : KTC} {K : KT} (hK : CSound KC K) : ∀ c : RC, nodRC c = true → FitsC P K (wslow P KC c) c
  | .skip, _ => trivial
  | .ret, _ => trivial
  | .exit _, _ => rfl
  | .reg _ _, _ => wslow_reg hK
  | .draw _ _, _ => wslow_draw hK
  | .seq a b, h => by simp only [nodRC, Bool.and_eq_true] at h; exact ⟨wslow_fits hK a h.1, wslow_fits hK b h.2⟩
  | .cond _ a b, h => by simp only [nodRC, Bool.and_eq_true] at h; exact ⟨rfl, wslow_fits hK a h.1, wslow_fits hK b h.2⟩
  | .block _ c, h => ⟨rfl, wslow_fits hK c h⟩
  | .loop _ c, h => by simp only [nodRC, Bool.and_eq_true] at h; exact ⟨⟨rfl, h.1⟩, wslow_fits hK c h.2⟩
  | .free _ c, h => ⟨rfl, wslow_fits hK c h⟩

end Go.AM
