import Derived.Test.YtpkmlogclnjijaaGreatAm30
set_option linter.unusedVariables false
namespace Go.AM

def wrap64 (n : Int) : Int :=
  match n with
  | .ofNat m => bif Nat.ble m 9223372036854775807 then .ofNat m else IntKind.i64.wrap (.ofNat m)
  | .negSucc m => bif Nat.ble m 9223372036854775807 then .negSucc m else IntKind.i64.wrap (.negSucc m)

theorem bcond {α : Type} {b : Bool} {x y z : α} (h1 : b = true → x = z) (h2 : b = false → y = z) : (bif b then x else y) = z := by
  cases b with
  | true => exact h1 rfl
  | false => exact h2 rfl

theorem wrap64_eq (n : Int) : wrap64 n = IntKind.i64.wrap n := by
  have key : ∀ n : Int, -9223372036854775808 ≤ n → n ≤ 9223372036854775807 → IntKind.i64.wrap n = n := by
    intro n h1 h2
    have : IntKind.i64.wrap n = if n % 18446744073709551616 ≥ 9223372036854775808 then n % 18446744073709551616 - 18446744073709551616 else n % 18446744073709551616 := by
      unfold IntKind.wrap; simp [IntKind.bits, IntKind.signed]
    rw [this]
    split <;> omega
  unfold wrap64
  split
  · rename_i m
    refine bcond (fun h => ?_) (fun _ => rfl)
    have h1 : m ≤ 9223372036854775807 := Nat.ble_eq.mp h
    have h2 : Int.ofNat m = (m : Int) := rfl
    rw [h2]
    exact (key _ (by omega) (by omega)).symm
  · rename_i m
    refine bcond (fun h => ?_) (fun _ => rfl)
    have h1 : m ≤ 9223372036854775807 := Nat.ble_eq.mp h
    have h2 : Int.negSucc m = -(m : Int) - 1 := by rw [Int.negSucc_eq]; omega
    rw [h2]
    exact (key _ (by omega) (by omega)).symm

def kBin (P : Program) (op : BinOp) (t : Nat) (x y : AV) : Option AV :=
  match x, y with
  | .sc (.int .i64 a), .sc (.int .i64 b) => match op with
    | .add => some (.sc (.int .i64 (wrap64 (a + b))))
    | .sub => some (.sc (.int .i64 (wrap64 (a - b))))
    | .mul => some (.sc (.int .i64 (wrap64 (a * b))))
    | .eql => some (.sc (.bool (a == b)))
    | .neq => some (.sc (.bool (a != b)))
    | .lss => some (.sc (.bool (a < b)))
    | .leq => some (.sc (.bool (a ≤ b)))
    | .gtr => some (.sc (.bool (a > b)))
    | .geq => some (.sc (.bool (a ≥ b)))
    | _ => evBin P op t (.sc (.int .i64 a)) (.sc (.int .i64 b))
  | x, y => evBin P op t x y

theorem kBin_eq (P : Program) (op : BinOp) (t : Nat) (x y : AV) : kBin P op t x y = evBin P op t x y := by
  unfold kBin
  split
  · split <;> first
      | rfl
      | (simp only [wrap64_eq]; rfl)
  · rfl

mutual
def avEq : AV → AV → Bool
  | .sc a, .sc b => vEq a b
  | .ptr a, .ptr b => decide (a = b)
  | .slice none n, .slice none m => n == m
  | .slice (some a) n, .slice (some b) m => decide (a.b = b.b) && (decide (a.p = b.p) && (decide (a.i = b.i) && (decide (a.k = b.k) && (decide (a.tot = b.tot) && n == m))))
  | .map a, .map b => decide (a = b)
  | .nilFunc, .nilFunc => true
  | .nilIface, .nilIface => true
  | .agg s cs, .agg s' cs' => decide (s = s') && avEqs cs cs'
  | .arr k cs, .arr k' cs' => k == k' && avEqs cs cs'
  | .tuple cs, .tuple cs' => avEqs cs cs'
  | _, _ => false
def avEqs : List AV → List AV → Bool
  | [], [] => true
  | a :: as, b :: bs => avEq a b && avEqs as bs
  | _, _ => false
end

mutual
theorem avEq_eq : ∀ (a b : AV), avEq a b = true → a = b
  | .sc a, b, h => by
    cases b <;> simp only [avEq, Bool.false_eq_true] at h
    rw [vEq_eq h]
  | .ptr a, b, h => by
    cases b <;> simp only [avEq, Bool.false_eq_true, decide_eq_true_eq] at h
    rw [h]
  | .slice none n, b, h => by
    cases b with
    | slice s m => cases s <;> simp only [avEq, Bool.false_eq_true, beq_iff_eq] at h; rw [h]
    | _ => simp [avEq] at h
  | .slice (some a) n, b, h => by
    cases b with
    | slice s m =>
      cases s with
      | none => simp [avEq] at h
      | some s =>
        simp only [avEq, Bool.and_eq_true, decide_eq_true_eq, beq_iff_eq] at h
        obtain ⟨h1, h2, h3, h4, h5, h6⟩ := h
        cases a; cases s
        simp_all
    | _ => simp [avEq] at h
  | .map a, b, h => by
    cases b <;> simp only [avEq, Bool.false_eq_true, decide_eq_true_eq] at h
    rw [h]
  | .func _ _ _, b, h => by cases b <;> simp [avEq] at h
  | .iface _ _, b, h => by cases b <;> simp [avEq] at h
  | .nilFunc, b, h => by cases b <;> simp [avEq] at h; rfl
  | .nilIface, b, h => by cases b <;> simp [avEq] at h; rfl
  | .agg s cs, b, h => by
    cases b <;> simp only [avEq, Bool.false_eq_true, Bool.and_eq_true, decide_eq_true_eq] at h
    rw [h.1, avEqs_eq _ _ h.2]
  | .arr k cs, b, h => by
    cases b <;> simp only [avEq, Bool.false_eq_true, Bool.and_eq_true, beq_iff_eq] at h
    rw [h.1, avEqs_eq _ _ h.2]
  | .tuple cs, b, h => by
    cases b <;> simp only [avEq, Bool.false_eq_true] at h
    rw [avEqs_eq _ _ h]
theorem avEqs_eq : ∀ (a b : List AV), avEqs a b = true → a = b
  | [], [], _ => rfl
  | [], _ :: _, h => by simp [avEqs] at h
  | _ :: _, [], h => by simp [avEqs] at h
  | a :: as, b :: bs, h => by
    simp only [avEqs, Bool.and_eq_true] at h
    rw [avEq_eq a b h.1, avEqs_eq as bs h.2]
end

structure KS where
  t : Tr Blk
  nx : Nat

def KS.st (k : KS) : St := ⟨k.t.get, k.nx⟩

abbrev KT := Nat → List AV → KS → Option (Out × KS)
abbrev Kr := Option (X × Env × KS)

def kQ (P : Program) (e : Env) : QO → Option AV
  | .bin op t x y => (e.ev x).bind fun a => (e.ev y).bind fun b => kBin P op t a b
  | q => evQ P e q

theorem kQ_eq (P : Program) (e : Env) (q : QO) : kQ P e q = evQ P e q := by
  cases q <;> first
    | rfl
    | simp only [kQ, evQ, kBin_eq]

def kA (K : KT) (e : Env) (k : KS) : AC → Option (Out × KS)
  | .callf f args => (e.evs args).bind fun l => K f l k
  | .callv x args => match e.ev x with
    | some (.func f a b) => (e.evs args).bind fun l => K f (a.map (fun p => .ptr (some p)) ++ l ++ b.map (fun p => .ptr (some p))) k
    | _ => none
  | q => match wA e k.t.get k.nx q with
    | some (o, ws, nx') => (k.t.sets ws).map fun t' => (o, ⟨t', nx'⟩)
    | none => none

def KSound (K : KT) (F : CallT) : Prop := ∀ f args k o k', K f args k = some (o, k') → F f args k.st = some (o, k'.st)

theorem kA_sound {K : KT} {F : CallT} (hK : KSound K F) {e : Env} {k k' : KS} {q : AC} {o : Out} (h : kA K e k q = some (o, k')) : evA F e k.st q = some (o, k'.st) := by
  have base : (match wA e k.t.get k.nx q with | some (o, ws, nx') => (k.t.sets ws).map fun t' => (o, (⟨t', nx'⟩ : KS)) | none => none) = some (o, k') → evA F e k.st q = some (o, k'.st) := by
    intro h
    split at h
    · rename_i o1 ws nx' hw
      simp only [Option.map_eq_some_iff, Prod.mk.injEq] at h
      obtain ⟨t', h1, rfl, rfl⟩ := h
      have := wA_sound (F := F) (st := k.st) hw
      rw [this]
      simp only [KS.st, Tr.sets_get _ _ _ h1]
    · simp at h
  cases q with
  | callf f args =>
    simp only [kA, Option.bind_eq_some_iff] at h
    obtain ⟨l, h1, h2⟩ := h
    simp only [evA, h1, Option.bind_some]
    exact hK _ _ _ _ _ h2
  | callv x args =>
    simp only [kA] at h
    split at h
    · rename_i f a b hx
      simp only [Option.bind_eq_some_iff] at h
      obtain ⟨l, h1, h2⟩ := h
      simp only [evA, hx, h1, Option.bind_some]
      exact hK _ _ _ _ _ h2
    · simp at h
  | _ => exact base h

def kRegion (P : Program) (K : KT) : List RI → Env → KS → Kr
  | [], e, k => some (.norm, e, k)
  | o :: r, e, k => match wants e o.gd with
    | none => none
    | some false => kRegion P K r (e.put o.dst (.tuple [])) k
    | some true => match o.op with
      | .q q => (kQ P e q).bind fun v => kRegion P K r (e.put o.dst v) k
      | .rd q => (evR k.t.get e q).bind fun v => kRegion P K r (e.put o.dst v) k
      | .al q => (evAl e k.nx q).bind fun (v, b) => (Tr.set 64 k.t k.nx (some b)).bind fun t' => kRegion P K r (e.put o.dst v) ⟨t', k.nx + 1⟩
      | .ac q => match kA K e k q with
        | some (.val v, k') => kRegion P K r (e.put o.dst v) k'
        | some (.pan v, k') => some (.pan v, e, k')
        | none => none

theorem set_upd {t t' : Tr Blk} {n : Nat} {b : Blk} (h : Tr.set 64 t n (some b) = some t') : t'.get = Mem.upd t.get n b :=
  funext fun m => by rw [Tr.get_set _ _ _ _ _ h m]; rfl

section
variable {P : Program} {K : KT} {F : CallT} (hK : KSound K F)
include hK

theorem kRegion_sound : ∀ (l : List RI) (e : Env) (k : KS) (x : X) (e' : Env) (k' : KS), kRegion P K l e k = some (x, e', k') → evRegion P F l e k.st = some (x, e', k'.st)
  | [], e, k, x, e', k', h => by
    simp only [kRegion, Option.some.injEq, Prod.mk.injEq] at h
    obtain ⟨rfl, rfl, rfl⟩ := h; rfl
  | o :: r, e, k, x, e', k', h => by
    simp only [kRegion] at h
    simp only [evRegion]
    split at h
    · simp at h
    · rename_i hw
      rw [hw]
      exact kRegion_sound r _ _ _ _ _ h
    · rename_i hw
      rw [hw]
      simp only
      split at h
      · rename_i q hq
        rw [hq]
        simp only [Option.bind_eq_some_iff] at h
        obtain ⟨v, h1, h⟩ := h
        rw [kQ_eq] at h1
        simp only [h1, Option.bind_some]
        exact kRegion_sound r _ _ _ _ _ h
      · rename_i q hq
        rw [hq]
        simp only [Option.bind_eq_some_iff] at h
        obtain ⟨v, h1, h⟩ := h
        have : evR k.st.H e q = some v := h1
        simp only [this, Option.bind_some]
        exact kRegion_sound r _ _ _ _ _ h
      · rename_i q hq
        rw [hq]
        simp only [Option.bind_eq_some_iff] at h
        obtain ⟨⟨v, b⟩, h1, t', h2, h⟩ := h
        have h3 : evAl e k.st.nx q = some (v, b) := h1
        simp only [h3, Option.bind_some]
        have := kRegion_sound r _ _ _ _ _ h
        simp only [KS.st, set_upd h2] at this
        exact this
      · rename_i q hq
        rw [hq]
        simp only
        split at h
        · rename_i v k1 h1
          rw [kA_sound hK h1]
          exact kRegion_sound r _ _ _ _ _ h
        · rename_i v k1 h1
          rw [kA_sound hK h1]
          simp only [Option.some.injEq, Prod.mk.injEq] at h
          obtain ⟨rfl, rfl, rfl⟩ := h
          rfl
        · simp at h

end

/-! Regions that draw. -/

def oldOk (e : Env) (q : RD) (v : AV) : List (Tr Blk) → Bool
  | [] => true
  | m :: r => (match evR m.get e q with | some v' => avEq v' v | none => false) && oldOk e q v r

theorem oldOk_sound {e : Env} {q : RD} {v : AV} : ∀ {l : List (Tr Blk)}, oldOk e q v l = true → ∀ m ∈ l.map Tr.get, evR m e q = some v
  | [], _ => by simp
  | t :: r, h => by
    simp only [oldOk, Bool.and_eq_true] at h
    intro m hm
    simp only [List.map_cons, List.mem_cons] at hm
    rcases hm with rfl | hm
    · have h1 := h.1
      split at h1
      · rename_i v' hv
        rw [hv, avEq_eq _ _ h1]
      · simp at h1
    · exact oldOk_sound h.2 m hm

def kDead (old : List (Tr Blk)) (h : Tr Blk) (P : Program) : Nat → Plan → Env → KS → Option KS
  | _, [], _, k => some k
  | dm, (_, r, u) :: rest, e, k =>
    if r.isAc = true then kDead old h P (dm + 1) rest (e.del r.dst) k
    else if u < dm then kDead old h P dm rest (e.del r.dst) k
    else match wants e r.gd with
      | none => none
      | some false => kDead old h P dm rest (e.put r.dst (.tuple [])) k
      | some true => match r.op with
        | .q q => (kQ P e q).bind fun v => kDead old h P dm rest (e.put r.dst v) k
        | .rd q => (evR h.get e q).bind fun v => bif oldOk e q v (old.take (u - dm)) then kDead old h P dm rest (e.put r.dst v) k else none
        | _ => none

def kLive (P : Program) (K : KT) : Plan → Env → KS → Tr Blk → List (Tr Blk) → Kr
  | [], e, k, _, _ => some (.norm, e, k)
  | (_, r, u) :: rest, e, k, h, old =>
    match wants e r.gd with
    | none => none
    | some false => bif r.isAc then kLive P K rest (e.put r.dst (.tuple [])) k k.t (h :: old) else kLive P K rest (e.put r.dst (.tuple [])) k h old
    | some true => match r.op with
      | .q q => (kQ P e q).bind fun v => kLive P K rest (e.put r.dst v) k h old
      | .rd q => (evR h.get e q).bind fun v => bif oldOk e q v (old.take u) then kLive P K rest (e.put r.dst v) k h old else none
      | .al q => (evAl e k.nx q).bind fun (v, b) => (Tr.set 64 k.t k.nx (some b)).bind fun t' => kLive P K rest (e.put r.dst v) ⟨t', k.nx + 1⟩ h old
      | .ac q => match kA K e k q with
        | some (.val v, k') => kLive P K rest (e.put r.dst v) k' k'.t (h :: old)
        | some (.pan v, k') => (kDead old h P 1 rest (e.del r.dst) k').map fun s => (.pan v, [], ⟨k'.t, s.nx⟩)
        | none => none

theorem kDead_sound {P : Program} {old : List (Tr Blk)} {h : Tr Blk} : ∀ (plan : Plan) (dm : Nat) (e : Env) (k k' : KS), kDead old h P dm plan e k = some k' → evDead P h.get (old.map Tr.get) dm plan e k.st = some k'.st := by
  intro plan
  induction plan with
  | nil => intro dm e k k' hh; simp only [kDead, Option.some.injEq] at hh; subst hh; rfl
  | cons p rest ih =>
    obtain ⟨i, r, u⟩ := p
    intro dm e k k' hh
    simp only [kDead] at hh
    simp only [evDead]
    split at hh
    · rename_i hac
      rw [if_pos hac]; exact ih _ _ _ _ hh
    · rename_i hac
      rw [if_neg hac]
      split at hh
      · rename_i hu
        rw [if_pos hu]; exact ih _ _ _ _ hh
      · rename_i hu
        rw [if_neg hu]
        split at hh
        · simp at hh
        · rename_i hw
          rw [hw]; exact ih _ _ _ _ hh
        · rename_i hw
          rw [hw]
          simp only
          split at hh
          · rename_i q hq
            rw [hq]
            simp only [Option.bind_eq_some_iff] at hh
            obtain ⟨v, h1, hh⟩ := hh
            rw [kQ_eq] at h1
            simp only [h1, Option.bind_some]
            exact ih _ _ _ _ hh
          · rename_i q hq
            rw [hq]
            simp only [Option.bind_eq_some_iff] at hh
            obtain ⟨v, h1, hh⟩ := hh
            cases hc : oldOk e q v (old.take (u - dm)) with
            | false => rw [hc] at hh; simp at hh
            | true =>
              rw [hc] at hh
              simp only [cond_true] at hh
              simp only [h1, Option.bind_some]
              rw [if_pos (by rw [← List.map_take]; exact oldOk_sound hc)]
              exact ih _ _ _ _ hh
          · simp at hh

section
variable {P : Program} {K : KT} {F : CallT} (hK : KSound K F)
include hK

theorem kLive_sound : ∀ (plan : Plan) (e : Env) (k : KS) (h : Tr Blk) (old : List (Tr Blk)) (x : X) (e' : Env) (k' : KS), kLive P K plan e k h old = some (x, e', k') → evLive P F plan e k.st h.get (old.map Tr.get) = some (x, e', k'.st) := by
  intro plan
  induction plan with
  | nil =>
    intro e k h old x e' k' hh
    simp only [kLive, Option.some.injEq, Prod.mk.injEq] at hh
    obtain ⟨rfl, rfl, rfl⟩ := hh
    rfl
  | cons p rest ih =>
    obtain ⟨i, r, u⟩ := p
    intro e k h old x e' k' hh
    simp only [kLive] at hh
    simp only [evLive]
    split at hh
    · simp at hh
    · rename_i hw
      rw [hw]
      simp only
      cases hac : r.isAc with
      | true => rw [hac] at hh; simp only [cond_true] at hh; rw [if_pos rfl]; exact ih _ _ _ _ _ _ _ hh
      | false => rw [hac] at hh; simp only [cond_false] at hh; rw [if_neg (by simp)]; exact ih _ _ _ _ _ _ _ hh
    · rename_i hw
      rw [hw]
      simp only
      split at hh
      · rename_i q hq
        rw [hq]
        simp only [Option.bind_eq_some_iff] at hh
        obtain ⟨v, h1, hh⟩ := hh
        rw [kQ_eq] at h1
        simp only [h1, Option.bind_some]
        exact ih _ _ _ _ _ _ _ hh
      · rename_i q hq
        rw [hq]
        simp only [Option.bind_eq_some_iff] at hh
        obtain ⟨v, h1, hh⟩ := hh
        cases hc : oldOk e q v (old.take u) with
        | false => rw [hc] at hh; simp at hh
        | true =>
          rw [hc] at hh
          simp only [cond_true] at hh
          simp only [h1, Option.bind_some]
          rw [if_pos (by rw [← List.map_take]; exact oldOk_sound hc)]
          exact ih _ _ _ _ _ _ _ hh
      · rename_i q hq
        rw [hq]
        simp only [Option.bind_eq_some_iff] at hh
        obtain ⟨⟨v, b⟩, h1, t', h2, hh⟩ := hh
        have h3 : evAl e k.st.nx q = some (v, b) := h1
        simp only [h3, Option.bind_some]
        have := ih _ _ _ _ _ _ _ hh
        simp only [KS.st, set_upd h2] at this
        exact this
      · rename_i q hq
        rw [hq]
        simp only
        split at hh
        · rename_i v k1 h1
          rw [kA_sound hK h1]
          exact ih _ _ _ _ _ _ _ hh
        · rename_i v k1 h1
          rw [kA_sound hK h1]
          simp only [Option.map_eq_some_iff, Prod.mk.injEq] at hh
          obtain ⟨s, h2, rfl, rfl, rfl⟩ := hh
          simp only
          rw [kDead_sound _ _ _ _ _ h2]
          rfl
        · simp at hh

end

/-! Code. -/

def kIter (f : Env → KS → Kr) : Nat → Env → KS → Kr
  | 0, _, _ => none
  | n + 1, e, k => match f e k with
    | some (.norm, e', k') => kIter f n e' k'
    | r => r

def kKeep (keep : List Nat) : Kr → Kr
  | some (.norm, e, k) => some (.norm, e.keep keep, k)
  | r => r

def kFree (e : Env) : List Nat → Tr Blk → Option (Tr Blk)
  | [], t => some t
  | s :: l, t => match e.get s with
    | some (.ptr (some (b, []))) => (Tr.set 64 t b none).bind fun t => kFree e l t
    | some (.slice (some s) _) => match s.p with
      | [] => (Tr.set 64 t s.b none).bind fun t => kFree e l t
      | _ => kFree e l t
    | some (.map (some r)) => (Tr.set 64 t r none).bind fun t => kFree e l t
    | _ => kFree e l t

def kC (P : Program) (K : KT) (n : Nat) : RC → Env → KS → Kr
  | .skip, e, k => some (.norm, e, k)
  | .ret, e, k => some (.ret, e, k)
  | .exit id, e, k => some (.exit id, e, k)
  | .reg ops keep, e, k => kKeep keep (kRegion P K ops e k)
  | .draw plan keep, e, k => kKeep keep (kLive P K plan e k k.t [])
  | .seq a b, e, k => match kC P K n a e k with
    | some (.norm, e', k') => kC P K n b e' k'
    | r => r
  | .cond c a b, e, k => match e.ev c with
    | some (.sc (.bool t)) => bif t then kC P K n a e k else kC P K n b e k
    | _ => none
  | .block id c, e, k => match kC P K n c e k with
    | some (.exit id', e', k') => bif Nat.beq id' id then some (.norm, e', k') else some (.exit id', e', k')
    | r => r
  | .loop keep c, e, k => kIter (fun e k => kC P K n c (e.keep keep) k) n e k
  | .free l c, e, k => match kC P K n c e k with
    | some (.norm, e', k') => (kFree e' l k'.t).map fun t => (.norm, e', ⟨t, k'.nx⟩)
    | r => r

theorem kFree_sound {e : Env} : ∀ (l : List Nat) (t t' : Tr Blk), kFree e l t = some t' → t'.get = freeL e l t.get := by
  have sd : ∀ {t t' : Tr Blk} {n : Nat}, Tr.set 64 t n none = some t' → t'.get = Mem.del t.get n := fun h => funext fun m => by rw [Tr.get_set _ _ _ _ _ h m]; rfl
  intro l
  induction l with
  | nil => intro t t' h; simp only [kFree, Option.some.injEq] at h; subst h; rfl
  | cons s l ih =>
    intro t t' h
    simp only [kFree] at h
    simp only [freeL, free1]
    split at h
    · rename_i b hs
      simp only [Option.bind_eq_some_iff] at h
      obtain ⟨t1, h1, h2⟩ := h
      rw [ih _ _ h2, sd h1, hs]
    · rename_i s0 n hs
      split at h
      · rename_i hp
        simp only [Option.bind_eq_some_iff] at h
        obtain ⟨t1, h1, h2⟩ := h
        rw [ih _ _ h2, sd h1, hs]
        simp only [hp, if_true]
      · rename_i hp
        rw [ih _ _ h, hs]
        simp only
        rw [if_neg (fun h => hp h)]
    · rename_i r hs
      simp only [Option.bind_eq_some_iff] at h
      obtain ⟨t1, h1, h2⟩ := h
      rw [ih _ _ h2, sd h1, hs]
    · rename_i h1 h2 h3
      rw [ih _ _ h]
      congr 1
      split
      · rename_i b hb; exact absurd hb (h1 b)
      · rename_i s0 n hb; exact absurd hb (h2 s0 n)
      · rename_i r hb; exact absurd hb (h3 r)
      · rfl

section
variable {P : Program} {K : KT} {F : CallT} (hK : KSound K F)

theorem kKeep_sound {keep : List Nat} {r : Kr} {r' : Rs} {x : X} {e : Env} {k : KS} (hr : ∀ x e k, r = some (x, e, k) → r' = some (x, e, k.st)) (h : kKeep keep r = some (x, e, k)) : keepR keep r' = some (x, e, k.st) := by
  unfold kKeep at h
  split at h
  · simp only [Option.some.injEq, Prod.mk.injEq] at h
    obtain ⟨rfl, rfl, rfl⟩ := h
    rw [hr _ _ _ rfl]; rfl
  · rename_i hne
    rw [hr _ _ _ h]
    unfold keepR
    split
    · rename_i e0 st0 he
      simp only [Option.some.injEq, Prod.mk.injEq] at he
      obtain ⟨rfl, rfl, rfl⟩ := he
      exact absurd h (hne _ _)
    · rfl

theorem kIter_sound {f : Env → KS → Kr} {g : Env → St → Rs} (hf : ∀ e k x e' k', f e k = some (x, e', k') → g e k.st = some (x, e', k'.st)) : ∀ (n : Nat) (e : Env) (k : KS) (x : X) (e' : Env) (k' : KS), kIter f n e k = some (x, e', k') → iter g n e k.st = some (x, e', k'.st) := by
  intro n
  induction n with
  | zero => intro e k x e' k' h; simp [kIter] at h
  | succ n ih =>
    intro e k x e' k' h
    simp only [kIter] at h
    simp only [iter]
    split at h
    · rename_i e1 k1 h1
      rw [hf _ _ _ _ _ h1]
      exact ih _ _ _ _ _ h
    · rename_i hne
      rw [hf _ _ _ _ _ h]
      cases x with
      | norm => exact absurd h (hne _ _)
      | _ => rfl

include hK

theorem kC_sound {n : Nat} : ∀ (c : RC) (e : Env) (k : KS) (x : X) (e' : Env) (k' : KS), kC P K n c e k = some (x, e', k') → evC P F n c e k.st = some (x, e', k'.st) := by
  intro c
  induction c with
  | skip => intro e k x e' k' h; simp only [kC, Option.some.injEq, Prod.mk.injEq] at h; obtain ⟨rfl, rfl, rfl⟩ := h; rfl
  | ret => intro e k x e' k' h; simp only [kC, Option.some.injEq, Prod.mk.injEq] at h; obtain ⟨rfl, rfl, rfl⟩ := h; rfl
  | exit id => intro e k x e' k' h; simp only [kC, Option.some.injEq, Prod.mk.injEq] at h; obtain ⟨rfl, rfl, rfl⟩ := h; rfl
  | reg ops keep =>
    intro e k x e' k' h
    simp only [kC] at h
    exact kKeep_sound (fun x e1 k1 h => kRegion_sound hK _ _ _ _ _ _ h) h
  | draw ops keep =>
    intro e k x e' k' h
    simp only [kC] at h
    exact kKeep_sound (fun x e1 k1 h => by unfold evDraw; exact kLive_sound hK _ _ _ _ [] _ _ _ h) h
  | seq a b iha ihb =>
    intro e k x e' k' h
    simp only [kC] at h
    simp only [evC]
    split at h
    · rename_i e1 k1 h1
      rw [iha _ _ _ _ _ h1]
      exact ihb _ _ _ _ _ h
    · rename_i hne
      rw [iha _ _ _ _ _ h]
      cases x with
      | norm => exact absurd h (hne _ _)
      | _ => rfl
  | cond c a b iha ihb =>
    intro e k x e' k' h
    simp only [kC] at h
    simp only [evC]
    split at h
    · rename_i t ht
      rw [ht]
      cases t with
      | true => exact iha _ _ _ _ _ h
      | false => exact ihb _ _ _ _ _ h
    · simp at h
  | block id c ih =>
    intro e k x e' k' h
    simp only [kC] at h
    simp only [evC]
    split at h
    · rename_i i2 e1 k1 h1
      rw [ih _ _ _ _ _ h1]
      simp only
      cases hb : Nat.beq i2 id with
      | true =>
        rw [hb] at h
        simp only [cond_true, Option.some.injEq, Prod.mk.injEq] at h
        obtain ⟨rfl, rfl, rfl⟩ := h
        rw [if_pos (Nat.eq_of_beq_eq_true hb)]
      | false =>
        rw [hb] at h
        simp only [cond_false, Option.some.injEq, Prod.mk.injEq] at h
        obtain ⟨rfl, rfl, rfl⟩ := h
        rw [if_neg (Nat.ne_of_beq_eq_false hb)]
    · rename_i hne
      rw [ih _ _ _ _ _ h]
      cases x with
      | exit i => exact absurd h (hne _ _ _)
      | _ => rfl
  | loop keep c ih =>
    intro e k x e' k' h
    simp only [kC] at h
    simp only [evC]
    exact kIter_sound (fun e k x e' k' h => ih _ _ _ _ _ h) n _ _ _ _ _ h
  | free l c ih =>
    intro e k x e' k' h
    simp only [kC] at h
    simp only [evC]
    split at h
    · rename_i e1 k1 h1
      rw [ih _ _ _ _ _ h1]
      simp only [Option.map_eq_some_iff, Prod.mk.injEq] at h
      obtain ⟨t, h2, rfl, rfl, rfl⟩ := h
      simp only [KS.st, kFree_sound _ _ _ h2]
    · rename_i hne
      rw [ih _ _ _ _ _ h]
      cases x with
      | norm => exact absurd h (hne _ _)
      | _ => rfl

end

/-! Functions. -/

def kRunF (P : Program) (K : KT) (n : Nat) (r : RFn) (args : List AV) (k : KS) : Option (Out × KS) :=
  bif Nat.beq args.length r.np then
    match kC P K n r.code (argEnv 0 args) k with
    | some (.norm, e, k') => (evRess e k'.t.get r.res).bind fun vs => (kFree e r.drop k'.t).map fun t => (.val (packR vs), ⟨t, k'.nx⟩)
    | some (.ret, e, k') => (evRess e k'.t.get r.res).bind fun vs => (kFree e r.drop k'.t).map fun t => (.val (packR vs), ⟨t, k'.nx⟩)
    | some (.pan v, _, k') => some (.pan v, k')
    | _ => none
  else none

def kCallF (P : Program) (prog : Tr RFn) (spec : Nat → Option (KT → KT)) : Nat → KT
  | 0, _, _, _ => none
  | n + 1, f, args, k => match spec f with
    | some s => s (kCallF P prog spec n) f args k
    | none => match prog.get f with
      | some r => kRunF P (kCallF P prog spec n) n r args k
      | none => none

theorem kRunF_sound {P : Program} {K : KT} {F : CallT} (hK : KSound K F) {n : Nat} {r : RFn} {args : List AV} {k k' : KS} {o : Out} (h : kRunF P K n r args k = some (o, k')) : runF P F n r args k.st = some (o, k'.st) := by
  unfold kRunF at h
  unfold runF
  cases hb : Nat.beq args.length r.np with
  | false => rw [hb] at h; simp at h
  | true =>
    rw [hb] at h
    simp only [cond_true] at h
    rw [if_pos (Nat.eq_of_beq_eq_true hb)]
    split at h
    · rename_i e k1 h1
      rw [kC_sound hK _ _ _ _ _ _ h1]
      simp only [Option.bind_eq_some_iff, Option.map_eq_some_iff, Prod.mk.injEq] at h
      obtain ⟨vs, h2, t, h3, rfl, rfl⟩ := h
      simp only [KS.st, kFree_sound _ _ _ h3]
      rw [h2]; rfl
    · rename_i e k1 h1
      rw [kC_sound hK _ _ _ _ _ _ h1]
      simp only [Option.bind_eq_some_iff, Option.map_eq_some_iff, Prod.mk.injEq] at h
      obtain ⟨vs, h2, t, h3, rfl, rfl⟩ := h
      simp only [KS.st, kFree_sound _ _ _ h3]
      rw [h2]; rfl
    · rename_i v e k1 h1
      rw [kC_sound hK _ _ _ _ _ _ h1]
      simp only [Option.some.injEq, Prod.mk.injEq] at h
      obtain ⟨rfl, rfl⟩ := h
      rfl
    · simp at h

theorem kCallF_sound {P : Program} {prog : Tr RFn} {specK : Nat → Option (KT → KT)} {spec : Nat → Option (CallT → CallT)} (hn : ∀ f, specK f = none → spec f = none)
    (hs : ∀ f s, specK f = some s → ∃ s', spec f = some s' ∧ ∀ K F, KSound K F → ∀ args k o k', s K f args k = some (o, k') → s' F f args k.st = some (o, k'.st)) :
    ∀ n, KSound (kCallF P prog specK n) (callF P prog.get spec n) := by
  intro n
  induction n with
  | zero => intro f args k o k' h; simp [kCallF] at h
  | succ n ih =>
    intro f args k o k' h
    simp only [kCallF] at h
    simp only [callF]
    split at h
    · rename_i s h1
      obtain ⟨s', h2, h3⟩ := hs f s h1
      rw [h2]
      exact h3 _ _ ih _ _ _ _ h
    · rename_i h1
      rw [hn f h1]
      simp only
      split at h
      · rename_i r h2
        rw [h2]
        exact kRunF_sound ih h
      · simp at h

end Go.AM
