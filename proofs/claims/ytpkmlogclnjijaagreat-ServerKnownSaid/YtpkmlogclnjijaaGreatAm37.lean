import Derived.Test.YtpkmlogclnjijaaGreatAm35
import Derived.Test.YtpkmlogclnjijaaGreatAm36
set_option linter.unusedVariables false
/-! What the printed functions are put together of. -/
namespace Go.AM

def pAl (r : Option (AV × Blk)) (k : KS) (c : AV → KS → Kr) : Kr :=
  r.bind fun p => (Tr.set 64 k.t k.nx (some p.2)).bind fun t' => c p.1 ⟨t', k.nx + 1⟩

def pCall (r : Option (Out × KS)) (c p : AV → KS → Kr) : Kr := match r with
  | some (.val v, k') => c v k'
  | some (.pan v, k') => p v k'
  | none => none

/-- regions, with what is forgotten at the end -/
def zReg (P : Program) (K : KT) (keep : List Nat) : List RI → Env → KS → Kr
  | [], e, k => some (.norm, e.keep keep, k)
  | o :: r, e, k => match wants e o.gd with
    | none => none
    | some false => zReg P K keep r (e.put o.dst (.tuple [])) k
    | some true => match o.op with
      | .q q => (kQ P e q).bind fun v => zReg P K keep r (e.put o.dst v) k
      | .rd q => (evR k.t.get e q).bind fun v => zReg P K keep r (e.put o.dst v) k
      | .al q => pAl (evAl e k.nx q) k fun v k' => zReg P K keep r (e.put o.dst v) k'
      | .ac q => pCall (kA K e k q) (fun v k' => zReg P K keep r (e.put o.dst v) k') (fun v k' => some (.pan v, [], k'))

theorem zReg_eq {P : Program} {K : KT} {keep : List Nat} : ∀ (ops : List RI) (e : Env) (k : KS), zReg P K keep ops e k = kKeep keep (kRegN P K ops e k)
  | [], _, _ => rfl
  | ⟨d, g, op⟩ :: r, e, k => by
    simp only [zReg, kRegN]
    cases wants e g with
    | none => rfl
    | some b =>
      cases b with
      | false => exact zReg_eq r _ _
      | true =>
        cases op with
        | q q => simp only; cases kQ P e q with | none => rfl | some v => exact zReg_eq r _ _
        | rd q => simp only; cases evR k.t.get e q with | none => rfl | some v => exact zReg_eq r _ _
        | al q =>
          simp only [pAl]
          cases evAl e k.nx q with
          | none => rfl
          | some p =>
            simp only [Option.bind_some]
            cases Tr.set 64 k.t k.nx (some p.2) with
            | none => rfl
            | some t' => exact zReg_eq r _ _
        | ac q =>
          simp only
          rcases kA K e k q with _ | ⟨o, k1⟩
          · rfl
          · cases o with
            | val v => exact zReg_eq r _ _
            | pan v => rfl

def zLive (P : Program) (K : KT) (keep : List Nat) : Plan → Env → KS → Tr Blk → List (Tr Blk) → Kr
  | [], e, k, _, _ => some (.norm, e.keep keep, k)
  | (_, r, u) :: rest, e, k, h, old =>
    match wants e r.gd with
    | none => none
    | some false => bif r.isAc then zLive P K keep rest (e.put r.dst (.tuple [])) k k.t (h :: old) else zLive P K keep rest (e.put r.dst (.tuple [])) k h old
    | some true => match r.op with
      | .q q => (kQ P e q).bind fun v => zLive P K keep rest (e.put r.dst v) k h old
      | .rd q => (evR h.get e q).bind fun v => bif oldOk e q v (old.take u) then zLive P K keep rest (e.put r.dst v) k h old else none
      | .al q => pAl (evAl e k.nx q) k fun v k' => zLive P K keep rest (e.put r.dst v) k' h old
      | .ac q => pCall (kA K e k q) (fun v k' => zLive P K keep rest (e.put r.dst v) k' k'.t (h :: old)) (fun v k' => (kDead old h P 1 rest (e.del r.dst) k').map fun s => (.pan v, [], ⟨k'.t, s.nx⟩))

theorem zLive_eq {P : Program} {K : KT} {keep : List Nat} : ∀ (plan : Plan) (e : Env) (k : KS) (h : Tr Blk) (old : List (Tr Blk)), zLive P K keep plan e k h old = kKeep keep (kLive P K plan e k h old)
  | [], _, _, _, _ => rfl
  | (i, ⟨d, g, op⟩, u) :: r, e, k, h, old => by
    simp only [zLive, kLive]
    cases wants e g with
    | none => rfl
    | some b =>
      cases b with
      | false =>
        simp only
        cases RI.isAc ⟨d, g, op⟩ with
        | true => exact zLive_eq r _ _ _ _
        | false => exact zLive_eq r _ _ _ _
      | true =>
        cases op with
        | q q => simp only; cases kQ P e q with | none => rfl | some v => exact zLive_eq r _ _ _ _
        | rd q =>
          simp only
          cases evR h.get e q with
          | none => rfl
          | some v =>
            simp only [Option.bind_some]
            cases oldOk e q v (List.take u old) with
            | true => exact zLive_eq r _ _ _ _
            | false => rfl
        | al q =>
          simp only [pAl]
          cases evAl e k.nx q with
          | none => rfl
          | some p =>
            simp only [Option.bind_some]
            cases Tr.set 64 k.t k.nx (some p.2) with
            | none => rfl
            | some t' => exact zLive_eq r _ _ _ _
        | ac q =>
          simp only
          rcases kA K e k q with _ | ⟨o, k1⟩
          · rfl
          · cases o with
            | val v => exact zLive_eq r _ _ _ _
            | pan v =>
              simp only [pCall]
              cases kDead old h P 1 r (e.del d) k1 <;> rfl

theorem reg_fit' {P : Program} {K : KT} {ins keep : List Nat} {ops : List RI} {e l : Env} {k : KS} {y : X × Env × KS} {r : Kr} (hc : insOk keep ins ops = true) (hl : e.keep ins = l)
    (he : r = zReg P K keep ops l k) (h : r = some y) : ∃ z, kKeep keep (kRegion P K ops e k) = some z ∧ Sim y z := reg_fit hc hl (he.trans (zReg_eq ops l k)) h

theorem draw_fit' {P : Program} {K : KT} {ins keep : List Nat} {plan : Plan} {e l : Env} {k : KS} {y : X × Env × KS} {r : Kr} (hc : insOkD keep ins plan = true) (hl : e.keep ins = l)
    (he : r = zLive P K keep plan l k k.t []) (h : r = some y) : ∃ z, kKeep keep (kLive P K plan e k k.t []) = some z ∧ Sim y z := draw_fit hc hl (he.trans (zLive_eq plan l k k.t [])) h

/-- trap.Catch -/
def catchK (K : KT) : KT := fun _ args k =>
  match args with
  | [.nilFunc] => some (.val (.tuple [faultV 0 0, .bool false]), k)
  | [.func g x y] => match K g (x.map (fun p => .ptr (some p)) ++ y.map (fun p => .ptr (some p))) k with
    | some (.val _, k') => some (.val (.tuple [faultV 0 0, .bool false]), k')
    | some (.pan (.iface t (.agg cs)), k') => match cs.toList with
      | [.int .i64 a, .int .i64 b] => if t = 292 then some (.val (.tuple [faultV a b, .bool true]), k') else none
      | _ => none
    | _ => none
  | _ => none

theorem catchK_sound {K : KT} {F : CallT} (hK : KSound K F) {f : Nat} {args : List AV} {k k' : KS} {o : Out} (h : catchK K f args k = some (o, k')) : catchS F f args k.st = some (o, k'.st) := by
  unfold catchK at h
  unfold catchS
  split at h
  · simp only [Option.some.injEq, Prod.mk.injEq] at h
    obtain ⟨rfl, rfl⟩ := h; rfl
  · rename_i g x y
    split at h
    · rename_i v k1 h1
      simp only [Option.some.injEq, Prod.mk.injEq] at h
      obtain ⟨rfl, rfl⟩ := h
      simp only [hK _ _ _ _ _ h1]
    · rename_i t cs k1 h1
      simp only [hK _ _ _ _ _ h1]
      split at h
      · rename_i a b hcs
        simp only [hcs]
        split at h
        · rename_i ht
          simp only [Option.some.injEq, Prod.mk.injEq] at h
          obtain ⟨rfl, rfl⟩ := h
          rw [if_pos ht]
        · simp at h
      · simp at h
    · simp at h
  · simp at h

def specKC (f : Nat) : Option (KT → KT) := bif Nat.beq f 197 then some catchK else none

section
variable {P : Program} {K : KT}
theorem fk : Fits P K .skip .skip := trivial
theorem fr : Fits P K .ret .ret := trivial
theorem fx {i : Nat} : Fits P K (.exit i) (.exit i) := rfl
theorem fs {a b : FC} {a' b' : RC} (h : Fits P K a a') (h' : Fits P K b b') : Fits P K (.seq a b) (.seq a' b') := ⟨h, h'⟩
theorem fc {x : RX} {a b : FC} {a' b' : RC} (h : Fits P K a a') (h' : Fits P K b b') : Fits P K (.cond x a b) (.cond x a' b') := ⟨rfl, h, h'⟩
theorem fb {i : Nat} {c : FC} {c' : RC} (h : Fits P K c c') : Fits P K (.block i c) (.block i c') := ⟨rfl, h⟩
theorem fl {l : List Nat} {c : FC} {c' : RC} (h : Fits P K c c') : Fits P K (.loop l c) (.loop l c') := ⟨rfl, h⟩
theorem ff {l : List Nat} {c : FC} {c' : RC} (h : Fits P K c c') : Fits P K (.free l c) (.free l c') := ⟨rfl, h⟩
end

def TabOkG (P : Program) : List (Nat × GFn P) → Prop
  | [] => True
  | (f, g) :: l => (∃ fn, P.funcs[f]? = some fn ∧ chkF P fn g.r = true) ∧ TabOkG P l

theorem TabOkG.mem {P : Program} : ∀ {l : List (Nat × GFn P)}, TabOkG P l → ∀ f g, (f, g) ∈ l → ∃ fn, P.funcs[f]? = some fn ∧ chkF P fn g.r = true
  | (_, _) :: l, h, f, r, hm => by
    rcases List.mem_cons.1 hm with he | hm
    · simp only [Prod.mk.injEq] at he
      obtain ⟨rfl, rfl⟩ := he
      exact h.1
    · exact TabOkG.mem h.2 f r hm

def progR {P : Program} (t : Tr (GFn P)) (f : Nat) : Option RFn := (t.get f).map GFn.r

theorem tableG_sound {l : List (Nat × GFn Go.Proofs.Tryz.prog)} {t : Tr (GFn Go.Proofs.Tryz.prog)} (ht : ofL l = some t) (hl : TabOkG Go.Proofs.Tryz.prog l) (hm : Go.Proofs.Tryz.prog.follows .mixedOrders = true) (n : Nat) :
    FSound Go.Proofs.Tryz.prog (callF Go.Proofs.Tryz.prog (progR t) specC n) :=
  callF_sound hm (fun f r hr => by
    unfold progR at hr
    cases hg : t.get f with
    | none => rw [hg] at hr; simp at hr
    | some g =>
      rw [hg] at hr
      simp only [Option.map_some, Option.some.injEq] at hr
      subst hr
      exact hl.mem f g (ofL_mem l t ht f g hg)) specC_sound n

theorem fCall_sound {t : Tr (GFn Go.Proofs.Tryz.prog)} (n : Nat) : KSound (fCallF t specKC n) (callF Go.Proofs.Tryz.prog (progR t) specC n) := by
  refine fCallF_sound (fun f g h => by simp [progR, h]) (fun f h => ?_) (fun f s h => ?_) n
  · unfold specKC at h
    unfold specC
    cases hb : Nat.beq f 197 with
    | true => rw [hb] at h; simp at h
    | false => rfl
  · unfold specKC at h
    unfold specC
    cases hb : Nat.beq f 197 with
    | false => rw [hb] at h; simp at h
    | true =>
      rw [hb] at h
      simp only [cond_true, Option.some.injEq] at h
      subst h
      exact ⟨_, rfl, fun K F hK args k o k' h => catchK_sound hK h⟩

end Go.AM
