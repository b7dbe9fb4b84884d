import Derived.Test.YtpkmlogclnjijaaGreatAm23
set_option linter.unusedVariables false
namespace Go.AM

/-! A region that draws, evaluated in a canonical order. Each operation bears how many of the actors ahead of it, the last ones, need not be ahead of it. -/

abbrev Plan := List (Nat × RI × Nat)

def Env.del (e : Env) (d : Option Nat) : Env :=
  match d with
  | some d => e.filter fun p => p.1 != d
  | none => e

open Classical in
/-- What still may be done ahead of a panic. -/
noncomputable def evDead (P : Program) (h : Mem) (old : List Mem) : Nat → Plan → Env → St → Option St
  | _, [], _, st => some st
  | dm, (_, r, u) :: rest, e, st =>
    if r.isAc = true then evDead P h old (dm + 1) rest (e.del r.dst) st
    else if u < dm then evDead P h old dm rest (e.del r.dst) st
    else match wants e r.gd with
      | none => none
      | some false => evDead P h old dm rest (e.put r.dst (.tuple [])) st
      | some true => match r.op with
        | .q q => (evQ P e q).bind fun v => evDead P h old dm rest (e.put r.dst v) st
        | .rd q => (evR h e q).bind fun v => if ∀ m ∈ old.take (u - dm), evR m e q = some v then evDead P h old dm rest (e.put r.dst v) st else none
        | .al q => (evAl e st.nx q).bind fun (v, b) => evDead P h old dm rest (e.put r.dst v) ⟨st.H.upd st.nx b, st.nx + 1⟩
        | .ac _ => none

open Classical in
noncomputable def evLive (P : Program) (F : CallT) : Plan → Env → St → Mem → List Mem → Rs
  | [], e, st, _, _ => some (.norm, e, st)
  | (_, r, u) :: rest, e, st, h, old =>
    match wants e r.gd with
    | none => none
    | some false => if r.isAc = true then evLive P F rest (e.put r.dst (.tuple [])) st st.H (h :: old) else evLive P F rest (e.put r.dst (.tuple [])) st h old
    | some true => match r.op with
      | .q q => (evQ P e q).bind fun v => evLive P F rest (e.put r.dst v) st h old
      | .rd q => (evR h e q).bind fun v => if ∀ m ∈ old.take u, evR m e q = some v then evLive P F rest (e.put r.dst v) st h old else none
      | .al q => (evAl e st.nx q).bind fun (v, b) => evLive P F rest (e.put r.dst v) ⟨st.H.upd st.nx b, st.nx + 1⟩ h old
      | .ac q => match evA F e st q with
        | some (.val v, st') => evLive P F rest (e.put r.dst v) st' st'.H (h :: old)
        | some (.pan v, st') => (evDead P h old 1 rest (e.del r.dst) st').map fun s => (.pan v, [], ⟨st'.H, s.nx⟩)
        | none => none

noncomputable def evDraw (P : Program) (F : CallT) (plan : Plan) (e : Env) (st : St) : Rs := evLive P F plan e st st.H []

/-! The same, with what was done. -/

structure TE where
  i : Nat
  r : RI
  u : Nat
  dm : Nat
  e : Env
  s : St
  h : Mem
  old : List Mem
  res : Res

def TE.k (t : TE) : Nat := t.old.length + t.dm
def TE.top (t : TE) : Nat :=
  match t.res with
  | .al _ _ => t.s.nx + 1
  | .ac _ st' | .pan _ st' => st'.nx
  | _ => t.s.nx

def TE.ok (P : Program) (F : CallT) (t : TE) : Prop :=
  match t.res with
  | .skip => wants t.e t.r.gd = some false
  | .q v => wants t.e t.r.gd = some true ∧ ∃ q, t.r.op = .q q ∧ evQ P t.e q = some v
  | .rd v => wants t.e t.r.gd = some true ∧ ∃ q, t.r.op = .rd q ∧ ∀ m ∈ t.h :: t.old.take (t.u - t.dm), evR m t.e q = some v
  | .al v B => wants t.e t.r.gd = some true ∧ ∃ q, t.r.op = .al q ∧ evAl t.e t.s.nx q = some (v, B)
  | .ac v st' => wants t.e t.r.gd = some true ∧ ∃ q, t.r.op = .ac q ∧ evA F t.e t.s q = some (.val v, st')
  | .pan v st' => wants t.e t.r.gd = some true ∧ ∃ q, t.r.op = .ac q ∧ evA F t.e t.s q = some (.pan v, st')
  | .desc => t.r.isAc = true ∨ t.u < t.dm

/-- An operation done, and what comes of it. -/
structure Stp (P : Program) (F : CallT) (t : TE) (v : AV) (st' : St) (h' : Mem) (old' : List Mem) : Prop where
  ok : t.ok P F
  val : t.res.val = some v
  le : t.s.nx ≤ t.top
  top : t.top = st'.nx
  mem : (t.r.isAc = true ∧ h' = st'.H ∧ old' = t.h :: t.old ∧ t.dm = 0 ∧ (∀ y, st'.H y ≠ none → t.s.H y ≠ none ∨ (t.s.nx ≤ y ∧ y < st'.nx)) ∧ (t.res = .skip ∧ st' = t.s ∨ t.res = .ac v st')) ∨
    (t.r.isAc = false ∧ t.dm ≤ t.u ∧ h' = t.h ∧ old' = t.old ∧ ((st' = t.s ∧ (t.res = .skip ∨ t.res = .q v ∨ t.res = .rd v)) ∨ ∃ B, t.res = .al v B ∧ st'.H = t.s.H.upd t.s.nx B))

inductive DV (P : Program) (F : CallT) (h : Mem) (old : List Mem) : Nat → Plan → Env → St → List TE → St → Prop
  | nil {dm : Nat} {e : Env} {st : St} : DV P F h old dm [] e st [] st
  | desc {dm : Nat} {e : Env} {st sF : St} {tr : List TE} {i : Nat} {r : RI} {u : Nat} {rest : Plan} : r.isAc = true ∨ u < dm → DV P F h old (if r.isAc = true then dm + 1 else dm) rest (e.del r.dst) st tr sF → DV P F h old dm ((i, r, u) :: rest) e st (⟨i, r, u, dm, e, st, h, old, .desc⟩ :: tr) sF
  | step {dm : Nat} {e : Env} {st st' sF : St} {tr : List TE} {i : Nat} {r : RI} {u : Nat} {rest : Plan} {v : AV} {res : Res} : r.isAc = false → Stp P F ⟨i, r, u, dm, e, st, h, old, res⟩ v st' h old → DV P F h old dm rest (e.put r.dst v) st' tr sF → DV P F h old dm ((i, r, u) :: rest) e st (⟨i, r, u, dm, e, st, h, old, res⟩ :: tr) sF

inductive LV (P : Program) (F : CallT) : Plan → Env → St → Mem → List Mem → List TE → X → Env → St → Mem → List Mem → Prop
  | nil {e : Env} {st : St} {h : Mem} {old : List Mem} : LV P F [] e st h old [] .norm e st h old
  | step {e e1 : Env} {st st' s1 : St} {h h' h1 : Mem} {old old' o1 : List Mem} {tr : List TE} {x : X} {i : Nat} {r : RI} {u : Nat} {rest : Plan} {v : AV} {res : Res} : Stp P F ⟨i, r, u, 0, e, st, h, old, res⟩ v st' h' old' → LV P F rest (e.put r.dst v) st' h' old' tr x e1 s1 h1 o1 → LV P F ((i, r, u) :: rest) e st h old (⟨i, r, u, 0, e, st, h, old, res⟩ :: tr) x e1 s1 h1 o1
  | pan {e : Env} {st sF st' : St} {h : Mem} {old : List Mem} {tr : List TE} {i : Nat} {r : RI} {u : Nat} {rest : Plan} {q : AC} {v : AV} : r.isAc = true → st.nx ≤ st'.nx → (∀ y, st'.H y ≠ none → st.H y ≠ none ∨ (st.nx ≤ y ∧ y < st'.nx)) → wants e r.gd = some true → r.op = .ac q → evA F e st q = some (.pan v, st') → DV P F h old 1 rest (e.del r.dst) st' tr sF → LV P F ((i, r, u) :: rest) e st h old (⟨i, r, u, 0, e, st, h, old, .pan v st'⟩ :: tr) (.pan v) [] ⟨st'.H, sF.nx⟩ h old

theorem dead_trace {P : Program} {F : CallT} {h : Mem} {old : List Mem} : ∀ (plan : Plan) (dm : Nat) (e : Env) (st sF : St), evDead P h old dm plan e st = some sF → ∃ tr, DV P F h old dm plan e st tr sF := by
  intro plan
  induction plan with
  | nil => intro dm e st sF hh; simp only [evDead, Option.some.injEq] at hh; subst hh; exact ⟨[], .nil⟩
  | cons p rest ih =>
    obtain ⟨i, r, u⟩ := p
    intro dm e st sF hh
    unfold evDead at hh
    split at hh
    · rename_i hac
      obtain ⟨tr, ht⟩ := ih _ _ _ _ hh
      exact ⟨_, .desc (.inl hac) (by rw [if_pos hac]; exact ht)⟩
    · rename_i hac
      have hac' : r.isAc = false := by simpa using hac
      split at hh
      · rename_i hu
        obtain ⟨tr, ht⟩ := ih _ _ _ _ hh
        exact ⟨_, .desc (.inr hu) (by rw [if_neg hac]; exact ht)⟩
      · rename_i hu
        have hu : dm ≤ u := by omega
        split at hh
        · simp at hh
        · rename_i hw
          obtain ⟨tr, ht⟩ := ih _ _ _ _ hh
          exact ⟨_, .step (res := .skip) hac' ⟨hw, rfl, Nat.le_refl _, rfl, .inr ⟨hac', hu, rfl, rfl, .inl ⟨rfl, .inl rfl⟩⟩⟩ ht⟩
        · rename_i hw
          split at hh
          · rename_i q hq
            simp only [Option.bind_eq_some_iff] at hh
            obtain ⟨v, hv, hh⟩ := hh
            obtain ⟨tr, ht⟩ := ih _ _ _ _ hh
            exact ⟨_, .step (res := .q v) hac' ⟨⟨hw, q, hq, hv⟩, rfl, Nat.le_refl _, rfl, .inr ⟨hac', hu, rfl, rfl, .inl ⟨rfl, .inr (.inl rfl)⟩⟩⟩ ht⟩
          · rename_i q hq
            simp only [Option.bind_eq_some_iff] at hh
            obtain ⟨v, hv, hh⟩ := hh
            split at hh
            · rename_i hall
              obtain ⟨tr, ht⟩ := ih _ _ _ _ hh
              refine ⟨_, .step (res := .rd v) hac' ⟨⟨hw, q, hq, fun m hm => ?_⟩, rfl, Nat.le_refl _, rfl, .inr ⟨hac', hu, rfl, rfl, .inl ⟨rfl, .inr (.inr rfl)⟩⟩⟩ ht⟩
              rcases List.mem_cons.1 hm with rfl | hm
              · exact hv
              · exact hall m hm
            · simp at hh
          · rename_i q hq
            simp only [Option.bind_eq_some_iff] at hh
            obtain ⟨⟨v, b⟩, hv, hh⟩ := hh
            obtain ⟨tr, ht⟩ := ih _ _ _ _ hh
            exact ⟨_, .step (res := .al v b) hac' ⟨⟨hw, q, hq, hv⟩, rfl, by simp [TE.top], rfl, .inr ⟨hac', hu, rfl, rfl, .inr ⟨b, rfl, rfl⟩⟩⟩ ht⟩
          · simp at hh

theorem live_trace {P : Program} {F : CallT} (hF : FSound P F) : ∀ (plan : Plan) (e : Env) (st : St) (h : Mem) (old : List Mem) (x : X) (e1 : Env) (s1 : St), evLive P F plan e st h old = some (x, e1, s1) → ∃ tr h1 o1, LV P F plan e st h old tr x e1 s1 h1 o1 := by
  intro plan
  induction plan with
  | nil =>
    intro e st h old x e1 s1 hh
    simp only [evLive, Option.some.injEq, Prod.mk.injEq] at hh
    obtain ⟨rfl, rfl, rfl⟩ := hh
    exact ⟨_, _, _, .nil⟩
  | cons p rest ih =>
    obtain ⟨i, r, u⟩ := p
    intro e st h old x e1 s1 hh
    unfold evLive at hh
    split at hh
    · simp at hh
    · rename_i hw
      split at hh
      · rename_i hac
        obtain ⟨tr, h1, o1, ht⟩ := ih _ _ _ _ _ _ _ hh
        exact ⟨_, _, _, .step (res := .skip) ⟨hw, rfl, Nat.le_refl _, rfl, .inl ⟨hac, rfl, rfl, rfl, fun y hy => .inl hy, .inl ⟨rfl, rfl⟩⟩⟩ ht⟩
      · rename_i hac
        obtain ⟨tr, h1, o1, ht⟩ := ih _ _ _ _ _ _ _ hh
        exact ⟨_, _, _, .step (res := .skip) ⟨hw, rfl, Nat.le_refl _, rfl, .inr ⟨by simpa using hac, Nat.zero_le _, rfl, rfl, .inl ⟨rfl, .inl rfl⟩⟩⟩ ht⟩
    · rename_i hw
      split at hh
      · rename_i q hq
        simp only [Option.bind_eq_some_iff] at hh
        obtain ⟨v, hv, hh⟩ := hh
        obtain ⟨tr, h1, o1, ht⟩ := ih _ _ _ _ _ _ _ hh
        exact ⟨_, _, _, .step (res := .q v) ⟨⟨hw, q, hq, hv⟩, rfl, Nat.le_refl _, rfl, .inr ⟨by simp [RI.isAc, hq], Nat.zero_le _, rfl, rfl, .inl ⟨rfl, .inr (.inl rfl)⟩⟩⟩ ht⟩
      · rename_i q hq
        simp only [Option.bind_eq_some_iff] at hh
        obtain ⟨v, hv, hh⟩ := hh
        split at hh
        · rename_i hall
          obtain ⟨tr, h1, o1, ht⟩ := ih _ _ _ _ _ _ _ hh
          refine ⟨_, _, _, .step (res := .rd v) ⟨⟨hw, q, hq, fun m hm => ?_⟩, rfl, Nat.le_refl _, rfl, .inr ⟨by simp [RI.isAc, hq], Nat.zero_le _, rfl, rfl, .inl ⟨rfl, .inr (.inr rfl)⟩⟩⟩ ht⟩
          rcases List.mem_cons.1 hm with rfl | hm
          · exact hv
          · exact hall m hm
        · simp at hh
      · rename_i q hq
        simp only [Option.bind_eq_some_iff] at hh
        obtain ⟨⟨v, b⟩, hv, hh⟩ := hh
        obtain ⟨tr, h1, o1, ht⟩ := ih _ _ _ _ _ _ _ hh
        exact ⟨_, _, _, .step (res := .al v b) ⟨⟨hw, q, hq, hv⟩, rfl, by simp [TE.top], rfl, .inr ⟨by simp [RI.isAc, hq], Nat.zero_le _, rfl, rfl, .inr ⟨b, rfl, rfl⟩⟩⟩ ht⟩
      · rename_i q hq
        split at hh
        · rename_i v st' hv
          obtain ⟨tr, h1, o1, ht⟩ := ih _ _ _ _ _ _ _ hh
          exact ⟨_, _, _, .step (res := .ac v st') ⟨⟨hw, q, hq, hv⟩, rfl, nxA hF hv, rfl, .inl ⟨by simp [RI.isAc, hq], rfl, rfl, rfl, domA hF hv, .inr rfl⟩⟩ ht⟩
        · rename_i v st' hv
          simp only [Option.map_eq_some_iff, Prod.mk.injEq] at hh
          obtain ⟨sF, hd, rfl, rfl, rfl⟩ := hh
          obtain ⟨tr, ht⟩ := dead_trace (F := F) _ _ _ _ _ hd
          exact ⟨_, _, _, .pan (by simp [RI.isAc, hq]) (nxA hF hv) (domA hF hv) hw hq hv ht⟩
        · simp at hh

end Go.AM
