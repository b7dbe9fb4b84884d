import Derived.Test.YtpkmlogclnjijaaGreatAm34
set_option linter.unusedVariables false
namespace Go.AM

/-- a table as a tree -/
def ofL {α : Type} : List (Nat × α) → Option (Tr α)
  | [] => some .nil
  | (i, a) :: l => (ofL l).bind fun t => Tr.set 64 t i (some a)

theorem ofL_mem {α : Type} : ∀ (l : List (Nat × α)) (t : Tr α), ofL l = some t → ∀ f r, t.get f = some r → (f, r) ∈ l
  | [], t, h, f, r, hg => by simp only [ofL, Option.some.injEq] at h; subst h; simp [Tr.get] at hg
  | (i, a) :: l, t, h, f, r, hg => by
    simp only [ofL, Option.bind_eq_some_iff] at h
    obtain ⟨t0, h0, h1⟩ := h
    rw [Tr.get_set _ _ _ _ _ h1] at hg
    split at hg
    · rename_i he
      simp only [Option.some.injEq] at hg
      subst hg; subst he
      exact List.mem_cons_self
    · exact List.mem_cons_of_mem _ (ofL_mem l t0 h0 f r hg)

def TabOk (P : Program) : List (Nat × RFn) → Prop
  | [] => True
  | (f, r) :: l => (∃ fn, P.funcs[f]? = some fn ∧ chkF P fn r = true) ∧ TabOk P l

theorem TabOk.mem {P : Program} : ∀ {l : List (Nat × RFn)}, TabOk P l → ∀ f r, (f, r) ∈ l → ∃ fn, P.funcs[f]? = some fn ∧ chkF P fn r = true
  | (_, _) :: l, h, f, r, hm => by
    rcases List.mem_cons.1 hm with he | hm
    · simp only [Prod.mk.injEq] at he
      obtain ⟨rfl, rfl⟩ := he
      exact h.1
    · exact TabOk.mem h.2 f r hm

/-- trap.Catch alone is done by a law of its own. -/
def specC (f : Nat) : Option (CallT → CallT) := bif Nat.beq f 197 then some catchS else none

theorem specC_sound (f : Nat) (s : CallT → CallT) (F : CallT) (h : specC f = some s) (hF : FSound Go.Proofs.Tryz.prog F) : FSound1 Go.Proofs.Tryz.prog (s F) f := by
  unfold specC at h
  cases hb : Nat.beq f 197 with
  | false => rw [hb] at h; simp at h
  | true =>
    rw [hb] at h
    simp only [cond_true, Option.some.injEq] at h
    subst h
    have := Nat.eq_of_beq_eq_true hb
    subst this
    exact catch_sound hF

/-- Every call that the table's code and Catch's law give is sound. -/
theorem table_sound {l : List (Nat × RFn)} {t : Tr RFn} (ht : ofL l = some t) (hl : TabOk Go.Proofs.Tryz.prog l) (hm : Go.Proofs.Tryz.prog.follows .mixedOrders = true) (n : Nat) : FSound Go.Proofs.Tryz.prog (callF Go.Proofs.Tryz.prog t.get specC n) :=
  callF_sound hm (fun f r hr => hl.mem f r (ofL_mem l t ht f r hr)) specC_sound n

end Go.AM
