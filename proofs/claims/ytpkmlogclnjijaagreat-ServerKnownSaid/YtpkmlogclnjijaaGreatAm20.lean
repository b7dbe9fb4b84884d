import Derived.Test.YtpkmlogclnjijaaGreatAma
import Derived.Orders
set_option linter.unusedVariables false
namespace Go.AM

/-! Which slots an operation asks for. -/

def RX.slots : RX → List Nat
  | .t n => [n]
  | _ => []
def slotsL (l : List RX) : List Nat := l.flatMap RX.slots
def slotsO : Option RX → List Nat
  | some x => x.slots
  | none => []

def QO.slots : QO → List Nat
  | .mov x | .nchk x | .fld _ _ x | .fldv _ _ _ _ x | .nil _ _ x | .un _ x | .conv _ _ x | .ext _ x | .len _ x | .capn x | .mki _ x => x.slots
  | .pick c a b => c.slots ++ (a.slots ++ b.slots)
  | .ixs _ x i | .ixa _ _ x i | .ixv _ _ _ x i | .bin _ _ x i => x.slots ++ i.slots
  | .bld _ ps => slotsL (ps.map (·.2))
  | .slc _ x lo hi | .slca _ _ x lo hi => x.slots ++ (slotsO lo ++ slotsO hi)
  | .mm _ xs => slotsL xs
  | .xf _ xs => slotsL xs
  | .mkf _ a b => slotsL a ++ slotsL b

def RD.slots : RD → List Nat
  | .ld _ _ x | .cvs x | .lenm x => x.slots
  | .look _ _ m k => m.slots ++ k.slots

def AL.slots : AL → List Nat
  | .alloc _ | .mkM => []
  | .box x => x.slots
  | .bldS _ _ _ ps => slotsL (ps.map (·.2))
  | .mkS _ _ _ l c => l.slots ++ c.slots

def AC.slots : AC → List Nat
  | .st _ x v => x.slots ++ v.slots
  | .mset m k v => m.slots ++ (k.slots ++ v.slots)
  | .mdel m k => m.slots ++ k.slots
  | .app _ _ _ s x | .appz _ _ _ s x | .cpy _ s x => s.slots ++ x.slots
  | .callf _ args => slotsL args
  | .callv x args => x.slots ++ slotsL args
  | .pan x => x.slots

def RO.slots : RO → List Nat
  | .q o => o.slots
  | .rd o => o.slots
  | .al o => o.slots
  | .ac o => o.slots

def RI.slots (r : RI) : List Nat := r.op.slots ++ (match r.gd with | some (s, _) => [s] | none => [])

section
variable {e e' : Env}

theorem ev_congr {x : RX} (h : ∀ s ∈ x.slots, e.get s = e'.get s) : e.ev x = e'.ev x := by
  cases x <;> simp [Env.ev, RX.slots] at * <;> exact h

theorem ev0_congr {x : RX} (h : ∀ s ∈ x.slots, e.get s = e'.get s) : e.ev0 x = e'.ev0 x := by
  unfold Env.ev0; rw [ev_congr h]

theorem evs_congr : ∀ {l : List RX}, (∀ s ∈ slotsL l, e.get s = e'.get s) → e.evs l = e'.evs l
  | [], _ => rfl
  | x :: l, h => by
    simp only [slotsL, List.flatMap_cons, List.mem_append] at h
    simp only [Env.evs]
    rw [ev_congr fun s hs => h s (.inl hs), evs_congr fun s hs => h s (.inr hs)]

theorem parts_congr : ∀ {l : List (Nat × RX)}, (∀ s ∈ slotsL (l.map (·.2)), e.get s = e'.get s) → e.parts l = e'.parts l
  | [], _ => rfl
  | (i, x) :: l, h => by
    simp only [slotsL, List.map_cons, List.flatMap_cons, List.mem_append] at h
    simp only [Env.parts]
    rw [ev0_congr fun s hs => h s (.inl hs), parts_congr fun s hs => h s (.inr hs)]

theorem bnd_congr {d t : Nat} {x : Option RX} (h : ∀ s ∈ slotsO x, e.get s = e'.get s) : bnd e d t x = bnd e' d t x := by
  cases x with
  | none => rfl
  | some x => simp only [bnd]; rw [ev_congr h]

theorem evQ_congr {P : Program} {q : QO} (h : ∀ s ∈ q.slots, e.get s = e'.get s) : evQ P e q = evQ P e' q := by
  cases q <;> simp only [QO.slots, List.mem_append] at h <;> simp only [evQ] <;> first
    | (rw [ev_congr h]; done)
    | (rw [evs_congr h]; done)
    | (rw [parts_congr h]; done)
    | (rw [ev_congr fun s hs => h s (.inl hs), ev_congr fun s hs => h s (.inr hs)]; done)
    | (rw [ev_congr fun s hs => h s (.inl hs), ev_congr fun s hs => h s (.inr (.inl hs)), ev_congr fun s hs => h s (.inr (.inr hs))]; done)
    | (rw [evs_congr fun s hs => h s (.inl hs), evs_congr fun s hs => h s (.inr hs)]; done)
    | (have h1 := fun d t => bnd_congr (d := d) (t := t) fun s hs => h s (.inr (.inl hs))
       have h2 := fun d t => bnd_congr (d := d) (t := t) fun s hs => h s (.inr (.inr hs))
       simp only [ev_congr fun s hs => h s (.inl hs), h1, h2])

theorem evR_congr {H : Mem} {q : RD} (h : ∀ s ∈ q.slots, e.get s = e'.get s) : evR H e q = evR H e' q := by
  cases q <;> simp only [RD.slots, List.mem_append] at h <;> simp only [evR] <;> first
    | (rw [ev_congr h]; done)
    | (rw [ev_congr fun s hs => h s (.inl hs), ev_congr fun s hs => h s (.inr hs)]; done)

theorem evAl_congr {n : Nat} {q : AL} (h : ∀ s ∈ q.slots, e.get s = e'.get s) : evAl e n q = evAl e' n q := by
  cases q <;> simp only [AL.slots, List.mem_append] at h <;> simp only [evAl] <;> first
    | (rw [ev0_congr h]; done)
    | (rw [parts_congr h]; done)
    | (rw [ev_congr fun s hs => h s (.inl hs), ev_congr fun s hs => h s (.inr hs)]; done)

theorem evA_congr {F : CallT} {st : St} {q : AC} (h : ∀ s ∈ q.slots, e.get s = e'.get s) : evA F e st q = evA F e' st q := by
  cases q <;> simp only [AC.slots, List.mem_append] at h <;> simp only [evA] <;> first
    | (rw [ev_congr h]; done)
    | (rw [evs_congr h]; done)
    | (rw [ev_congr fun s hs => h s (.inl hs), ev0_congr fun s hs => h s (.inr hs)]; done)
    | (rw [ev_congr fun s hs => h s (.inl hs), ev_congr fun s hs => h s (.inr hs)]; done)
    | (rw [ev_congr fun s hs => h s (.inl hs), evs_congr fun s hs => h s (.inr hs)]; done)
    | (rw [ev_congr fun s hs => h s (.inl hs), ev_congr fun s hs => h s (.inr (.inl hs)), ev0_congr fun s hs => h s (.inr (.inr hs))]; done)

theorem wants_congr {g : Option (Nat × Bool)} (h : ∀ s ∈ (match g with | some (s, _) => [s] | none => []), e.get s = e'.get s) : wants e g = wants e' g := by
  cases g with
  | none => rfl
  | some p => simp only [wants]; rw [h p.1 (by simp)]

theorem get_keep {l : List Nat} {s : Nat} (hs : s ∈ l) : (e.keep l).get s = e.get s := by
  induction l with
  | nil => simp at hs
  | cons t l ih =>
    simp only [Env.keep, List.filterMap_cons]
    cases ht : e.get t with
    | none =>
      simp only [Option.map_none]
      by_cases hst : s = t
      · subst hst
        by_cases hin : s ∈ l
        · exact ih hin
        · rw [ht]
          have : ∀ l' : List Nat, s ∉ l' → Env.get (l'.filterMap fun s => (e.get s).map fun v => (s, v)) s = none := by
            intro l'
            induction l' with
            | nil => intro _; rfl
            | cons q l' ih' =>
              intro hq
              simp only [List.mem_cons, not_or] at hq
              simp only [List.filterMap_cons]
              cases hv : e.get q with
              | none => simp; exact ih' hq.2
              | some v => simp [Env.get, Ne.symm hq.1]; exact ih' hq.2
          exact this l hin
      · exact ih (by simpa [hst] using hs)
    | some v =>
      simp only [Option.map_some, Env.get]
      by_cases hst : t = s
      · subst hst; simp [ht]
      · simp only [hst, if_false]; exact ih (by simpa [Ne.symm hst] using hs)
end

theorem RelEnv.keep {m : Mp} {e : Env} {t : Array Value} {l : List Nat} (h : ∀ s ∈ l, ∀ v, e.get s = some v → RelV m v (t.getD s undef)) : RelEnv m (e.keep l) t := by
  intro s v hv
  have hin : s ∈ l := by
    induction l with
    | nil => simp [Env.keep, Env.get] at hv
    | cons q l ih =>
      simp only [Env.keep, List.filterMap_cons] at hv
      cases hq : e.get q with
      | none => rw [hq] at hv; simp only [Option.map_none] at hv; exact List.mem_cons_of_mem _ (ih (fun s hs => h s (List.mem_cons_of_mem _ hs)) hv)
      | some u =>
        rw [hq] at hv
        simp only [Option.map_some, Env.get] at hv
        split at hv
        · rename_i he; subst he; exact List.mem_cons_self ..
        · exact List.mem_cons_of_mem _ (ih (fun s hs => h s (List.mem_cons_of_mem _ hs)) hv)
  rw [get_keep hin] at hv
  exact h s hin v hv

end Go.AM
