import Derived.Test.YtpkmlogclnjijaaGreatAm37
set_option linter.unusedVariables false
/-! Fast primitives, and that they are the slow ones. -/
namespace Go.AM

noncomputable def tg {α : Type} (t : Tr α) : Nat → Option α :=
  @Tr.rec α (fun _ => Nat → Option α) (fun _ => none) (fun v _ _ ihl ihr n => @Nat.rec (fun _ => Option α) v (fun m _ => @Bool.rec (fun _ => Option α) (ihr (Nat.div m 2)) (ihl (Nat.div m 2)) (Nat.beq (Nat.mod m 2) 0)) n) t

theorem tg_eq {α : Type} : ∀ (t : Tr α) (n : Nat), tg t n = t.get n
  | .nil, _ => rfl
  | .node v l r, 0 => rfl
  | .node v l r, n + 1 => by
    have h1 : tg (.node v l r) (n + 1) = @Bool.rec (fun _ => Option α) (tg r (n / 2)) (tg l (n / 2)) (Nat.beq (n % 2) 0) := rfl
    have h2 : (Tr.node v l r).get (n + 1) = bif Nat.beq (n % 2) 0 then l.get (n / 2) else r.get (n / 2) := rfl
    rw [h1, h2, tg_eq l, tg_eq r]
    cases Nat.beq (n % 2) 0 <;> rfl

/-- the same with what comes behind -/
noncomputable def tgC {α β : Type} (t : Tr α) (n : Nat) (c : Option α → β) : β :=
  @Tr.rec α (fun _ => Nat → β) (fun _ => c none) (fun v _ _ ihl ihr n => @Nat.rec (fun _ => β) (c v) (fun m _ => @Bool.rec (fun _ => β) (ihr (Nat.div m 2)) (ihl (Nat.div m 2)) (Nat.beq (Nat.mod m 2) 0)) n) t n

theorem tgC_eq {α β : Type} (c : Option α → β) : ∀ (t : Tr α) (n : Nat), tgC t n c = c (t.get n)
  | .nil, _ => rfl
  | .node v l r, 0 => rfl
  | .node v l r, n + 1 => by
    have h1 : tgC (.node v l r) (n + 1) c = @Bool.rec (fun _ => β) (tgC r (n / 2) c) (tgC l (n / 2) c) (Nat.beq (n % 2) 0) := rfl
    have h2 : (Tr.node v l r).get (n + 1) = bif Nat.beq (n % 2) 0 then l.get (n / 2) else r.get (n / 2) := rfl
    rw [h1, h2, tgC_eq c l, tgC_eq c r]
    cases Nat.beq (n % 2) 0 <;> rfl

noncomputable def tsC {α β : Type} (x : Option α) (d : Nat) : Tr α → Nat → (Tr α → Option β) → Option β :=
  @Nat.rec (fun _ => Tr α → Nat → (Tr α → Option β) → Option β) (fun _ _ _ => none)
    (fun _ ih t n c => @Nat.rec (fun _ => Option β)
      (@Tr.rec α (fun _ => Option β) (c (.node x .nil .nil)) (fun _ l r _ _ => c (.node x l r)) t)
      (fun m _ => @Bool.rec (fun _ => Option β)
        (@Tr.rec α (fun _ => Option β) (ih .nil (Nat.div m 2) fun t' => c (.node none .nil t')) (fun v l r _ _ => ih r (Nat.div m 2) fun t' => c (.node v l t')) t)
        (@Tr.rec α (fun _ => Option β) (ih .nil (Nat.div m 2) fun t' => c (.node none t' .nil)) (fun v l r _ _ => ih l (Nat.div m 2) fun t' => c (.node v t' r)) t)
        (Nat.beq (Nat.mod m 2) 0)) n) d

theorem tsC_eq {α β : Type} (x : Option α) : ∀ (d : Nat) (t : Tr α) (n : Nat) (c : Tr α → Option β), tsC x d t n c = (Tr.set d t n x).bind c
  | 0, _, _, _ => rfl
  | d + 1, .nil, 0, c => rfl
  | d + 1, .node v l r, 0, c => rfl
  | d + 1, .nil, n + 1, c => by
    have h1 : tsC x (d + 1) .nil (n + 1) c = @Bool.rec (fun _ => Option β) (tsC x d .nil (n / 2) fun t' => c (.node none .nil t')) (tsC x d .nil (n / 2) fun t' => c (.node none t' .nil)) (Nat.beq (n % 2) 0) := rfl
    rw [h1, tsC_eq x d, tsC_eq x d]
    simp only [Tr.set]
    cases Nat.beq (n % 2) 0 <;> cases Tr.set d .nil (n / 2) x <;> rfl
  | d + 1, .node v l r, n + 1, c => by
    have h1 : tsC x (d + 1) (.node v l r) (n + 1) c = @Bool.rec (fun _ => Option β) (tsC x d r (n / 2) fun t' => c (.node v l t')) (tsC x d l (n / 2) fun t' => c (.node v t' r)) (Nat.beq (n % 2) 0) := rfl
    rw [h1, tsC_eq x d, tsC_eq x d]
    simp only [Tr.set]
    cases Nat.beq (n % 2) 0 with
    | true => cases Tr.set d l (n / 2) x <;> rfl
    | false => cases Tr.set d r (n / 2) x <;> rfl

noncomputable def nthC {α β : Type} (cs : List α) (i : Nat) (c : α → Option β) : Option β :=
  @List.rec α (fun _ => Nat → Option β) (fun _ => none) (fun v _ ih n => @Nat.rec (fun _ => Option β) (c v) (fun m _ => ih m) n) cs i

theorem nthC_eq {α β : Type} (c : α → Option β) : ∀ (cs : List α) (i : Nat), nthC cs i c = (cs[i]?).bind c
  | [], _ => rfl
  | v :: r, 0 => rfl
  | v :: r, n + 1 => by
    have h1 : nthC (v :: r) (n + 1) c = nthC r n c := rfl
    rw [h1, nthC_eq c r n, List.getElem?_cons_succ]

/-- the place's old value and the list with the new one -/
noncomputable def setC {α β : Type} (x : α) (cs : List α) : Nat → (α → List α → Option β) → Option β :=
  @List.rec α (fun _ => Nat → (α → List α → Option β) → Option β) (fun _ _ => none)
    (fun v r ih n c => @Nat.rec (fun _ => Option β) (c v (x :: r)) (fun m _ => ih m fun o r' => c o (v :: r')) n) cs

theorem setC_eq {α β : Type} (x : α) : ∀ (cs : List α) (i : Nat) (c : α → List α → Option β), setC x cs i c = (cs[i]?).bind fun o => c o (cs.set i x)
  | [], _, _ => rfl
  | v :: r, 0, _ => rfl
  | v :: r, n + 1, c => by
    have h1 : setC x (v :: r) (n + 1) c = setC x r n (fun o r' => c o (v :: r')) := rfl
    rw [h1, setC_eq x r n, List.getElem?_cons_succ]; rfl

/-- a number is made before it is handed on -/
noncomputable def fN {β : Type} (n : Nat) (c : Nat → β) : β := @Nat.rec (fun _ => β) (c Nat.zero) (fun m _ => c (Nat.succ m)) n
theorem fN_eq {β : Type} (n : Nat) (c : Nat → β) : fN n c = c n := by cases n <;> rfl
noncomputable def fI {β : Type} (i : Int) (c : Int → β) : β := @Int.rec (fun _ => β) (fun n => fN n fun n => c (.ofNat n)) (fun n => fN n fun n => c (.negSucc n)) i
theorem fI_eq {β : Type} (i : Int) (c : Int → β) : fI i c = c i := by
  cases i with
  | ofNat n => exact fN_eq n (fun n => c (.ofNat n))
  | negSucc n => exact fN_eq n (fun n => c (.negSucc n))
noncomputable def fB {β : Type} (b : Bool) (c : Bool → β) : β := @Bool.rec (fun _ => β) (c false) (c true) b
theorem fB_eq {β : Type} (b : Bool) (c : Bool → β) : fB b c = c b := by cases b <;> rfl

noncomputable def kix (k : IntKind) : Nat := @IntKind.rec (fun _ => Nat) 0 1 2 3 4 5 6 7 k
noncomputable def kmax (k : IntKind) : Nat := @IntKind.rec (fun _ => Nat) 127 32767 2147483647 9223372036854775807 255 65535 4294967295 18446744073709551615 k

theorem kix_eq {k k' : IntKind} (h : Nat.beq (kix k) (kix k') = true) : k = k' := by
  cases k <;> cases k' <;> first | rfl | exact absurd h (by decide)

theorem wrap_le {k : IntKind} {n : Nat} (h : n ≤ kmax k) : k.wrap (n : Int) = n := by
  cases k <;> simp only [kmax] at h <;> simp [IntKind.wrap, IntKind.bits, IntKind.signed] <;> omega

/-- two numbers, none of them negative -/
noncomputable def two (a b : AV) (s : Kr) (c : IntKind → Nat → IntKind → Nat → Kr) : Kr := match a, b with
  | .sc (.int k (.ofNat x)), .sc (.int k' (.ofNat y)) => c k x k' y
  | _, _ => s

theorem two_eq {a b : AV} {s : Kr} {c : IntKind → Nat → IntKind → Nat → Kr} (h : ∀ k x k' y, a = .sc (.int k (.ofNat x)) → b = .sc (.int k' (.ofNat y)) → c k x k' y = s) : two a b s c = s := by
  unfold two
  split
  · exact h _ _ _ _ rfl rfl
  · rfl

noncomputable def ifB (b : Bool) (x y : Kr) : Kr := @Bool.rec (fun _ => Kr) y x b
theorem ifB_eq {b : Bool} {x y : Kr} (h : b = true → x = y) : ifB b x y = y := by
  cases b with
  | true => exact h rfl
  | false => rfl

noncomputable abbrev sBin (op : BinOp) (t : Nat) (a b : AV) (c : AV → Kr) : Kr := (kBin Go.Proofs.Tryz.prog op t a b).bind c

/-- an operation whose value is a number of the same kind -/
noncomputable def arith (op : BinOp) (f : Nat → Nat → Nat) (ok : Nat → Nat → Bool) (t : Nat) (a b : AV) (c : AV → Kr) : Kr :=
  two a b (sBin op t a b c) fun k x k' y => ifB (Nat.beq (kix k) (kix k')) (ifB (ok x y) (fN (f x y) fun z => ifB (Nat.ble z (kmax k)) (c (.sc (.int k (.ofNat z)))) (sBin op t a b c)) (sBin op t a b c)) (sBin op t a b c)

theorem arith_eq {op : BinOp} {f : Nat → Nat → Nat} {ok : Nat → Nat → Bool} {t : Nat} {a b : AV} {c : AV → Kr}
    (h : ∀ k x y, ok x y = true → f x y ≤ kmax k → evBin Go.Proofs.Tryz.prog op t (.sc (.int k (.ofNat x))) (.sc (.int k (.ofNat y))) = some (.sc (.int k (.ofNat (f x y))))) : arith op f ok t a b c = sBin op t a b c := by
  unfold arith
  refine two_eq fun k x k' y ha hb => ?_
  refine ifB_eq fun h1 => ifB_eq fun h2 => ?_
  rw [fN_eq]
  refine ifB_eq fun h3 => ?_
  have := kix_eq h1
  subst this
  subst ha; subst hb
  simp only [sBin, kBin_eq, h k x y h2 (Nat.ble_eq.mp h3), Option.bind_some]

section
open Go.Proofs
theorem ev_arith {P : Program} {op : BinOp} {t : Nat} {k : IntKind} {x y : Int} {z : Int} (h : ∀ k, pureRun P (do eqGuard op t (.const (.int k x)) (.const (.int k y)) (.int k x) (.int k y); binOp op t (.int k x) (.int k y)) = some (.int k (k.wrap z))) (n : Nat) (hz : z = n) (hn : n ≤ kmax k) :
    evBin P op t (.sc (.int k x)) (.sc (.int k y)) = some (.sc (.int k (.ofNat n))) := by
  simp only [evBin, pv, Option.bind_some, h, hz, wrap_le hn]
  rfl

theorem add_ev {P : Program} {t : Nat} {k : IntKind} {x y : Nat} (h : Nat.add x y ≤ kmax k) : evBin P .add t (.sc (.int k (.ofNat x))) (.sc (.int k (.ofNat y))) = some (.sc (.int k (.ofNat (Nat.add x y)))) :=
  ev_arith (z := (x : Int) + y) (fun k => by cases k <;> rfl) _ rfl h
theorem mul_ev {P : Program} {t : Nat} {k : IntKind} {x y : Nat} (h : Nat.mul x y ≤ kmax k) : evBin P .mul t (.sc (.int k (.ofNat x))) (.sc (.int k (.ofNat y))) = some (.sc (.int k (.ofNat (Nat.mul x y)))) :=
  ev_arith (z := (x : Int) * y) (fun k => by cases k <;> rfl) _ rfl h
theorem sub_ev {P : Program} {t : Nat} {k : IntKind} {x y : Nat} (h0 : Nat.ble y x = true) (h : Nat.sub x y ≤ kmax k) : evBin P .sub t (.sc (.int k (.ofNat x))) (.sc (.int k (.ofNat y))) = some (.sc (.int k (.ofNat (Nat.sub x y)))) :=
  ev_arith (z := (x : Int) - y) (fun k => by cases k <;> rfl) _ (by have := Nat.ble_eq.mp h0; show (x : Int) - y = ((x - y : Nat) : Int); omega) h
end

noncomputable def xAdd := arith .add Nat.add (fun _ _ => true)
noncomputable def xMul := arith .mul Nat.mul (fun _ _ => true)
noncomputable def xSub := arith .sub Nat.sub (fun x y => Nat.ble y x)
theorem xAdd_eq : xAdd = sBin .add := by funext t a b c; exact arith_eq fun k x y _ h => add_ev h
theorem xMul_eq : xMul = sBin .mul := by funext t a b c; exact arith_eq fun k x y _ h => mul_ev h
theorem xSub_eq : xSub = sBin .sub := by funext t a b c; exact arith_eq fun k x y h0 h => sub_ev h0 h

theorem div_ev {P : Program} {t : Nat} {k : IntKind} {x y : Nat} (h0 : Nat.ble 1 y = true) (h : Nat.div x y ≤ kmax k) : evBin P .quo t (.sc (.int k (.ofNat x))) (.sc (.int k (.ofNat y))) = some (.sc (.int k (.ofNat (Nat.div x y)))) := by
  have hy : y ≠ 0 := by have := Nat.ble_eq.mp h0; omega
  obtain ⟨m, rfl⟩ : ∃ m, y = m + 1 := ⟨y - 1, by omega⟩
  refine ev_arith (z := Int.tdiv x ((m + 1 : Nat) : Int)) (fun k => ?_) _ rfl h
  cases k <;> rfl
theorem rem_ev {P : Program} {t : Nat} {k : IntKind} {x y : Nat} (h0 : Nat.ble 1 y = true) : evBin P .rem t (.sc (.int k (.ofNat x))) (.sc (.int k (.ofNat y))) = some (.sc (.int k (.ofNat (Nat.mod x y)))) := by
  have hy : y ≠ 0 := by have := Nat.ble_eq.mp h0; omega
  obtain ⟨m, rfl⟩ : ∃ m, y = m + 1 := ⟨y - 1, by omega⟩
  cases k <;> rfl
noncomputable def xQuo := arith .quo Nat.div (fun _ y => Nat.ble 1 y)
noncomputable def xRem := arith .rem Nat.mod (fun _ y => Nat.ble 1 y)
theorem xQuo_eq : xQuo = sBin .quo := by funext t a b c; exact arith_eq fun k x y h0 h => div_ev h0 h
theorem xRem_eq : xRem = sBin .rem := by funext t a b c; exact arith_eq fun k x y h0 h => rem_ev h0

/-- comparisons -/
noncomputable def comp (op : BinOp) (f : Nat → Nat → Bool) (t : Nat) (a b : AV) (c : AV → Kr) : Kr :=
  two a b (sBin op t a b c) fun k x k' y => ifB (Nat.beq (kix k) (kix k')) (fB (f x y) fun z => c (.sc (.bool z))) (sBin op t a b c)

theorem comp_eq {op : BinOp} {f : Nat → Nat → Bool} {t : Nat} {a b : AV} {c : AV → Kr}
    (h : ∀ k x y, evBin Go.Proofs.Tryz.prog op t (.sc (.int k (.ofNat x))) (.sc (.int k (.ofNat y))) = some (.sc (.bool (f x y)))) : comp op f t a b c = sBin op t a b c := by
  unfold comp
  refine two_eq fun k x k' y ha hb => ?_
  refine ifB_eq fun h1 => ?_
  rw [fB_eq]
  have := kix_eq h1
  subst this
  subst ha; subst hb
  simp only [sBin, kBin_eq, h, Option.bind_some]

theorem cmp_ev {P : Program} {op : BinOp} {t : Nat} {k : IntKind} {x y : Int} {z z' : Bool} (h : ∀ k, pureRun P (do eqGuard op t (.const (.int k x)) (.const (.int k y)) (.int k x) (.int k y); binOp op t (.int k x) (.int k y)) = some (.bool z)) (hz : z = z') :
    evBin P op t (.sc (.int k x)) (.sc (.int k y)) = some (.sc (.bool z')) := by
  subst hz
  simp only [evBin, pv, Option.bind_some, h]
  rfl

theorem nb {x y : Nat} : ((x : Int) == y) = Nat.beq x y := by
  cases h : Nat.beq x y with
  | true => rw [Nat.eq_of_beq_eq_true h]; simp
  | false => have := Nat.ne_of_beq_eq_false h; rw [beq_eq_false_iff_ne]; omega
theorem nle {x y : Nat} : decide ((x : Int) ≤ y) = Nat.ble x y := by
  cases h : Nat.ble x y with
  | true => have := Nat.ble_eq.mp h; rw [decide_eq_true_eq]; omega
  | false => have : ¬ x ≤ y := fun h' => by rw [Nat.ble_eq.mpr h'] at h; simp at h
             rw [decide_eq_false_iff_not]; omega
theorem nlt {x y : Nat} : decide ((x : Int) < y) = Nat.ble (Nat.succ x) y := by
  rw [← nle]; congr 1

noncomputable def xEql := comp .eql Nat.beq
noncomputable def xNeq := comp .neq (fun x y => Bool.not (Nat.beq x y))
noncomputable def xLss := comp .lss (fun x y => Nat.ble (Nat.succ x) y)
noncomputable def xLeq := comp .leq Nat.ble
noncomputable def xGtr := comp .gtr (fun x y => Nat.ble (Nat.succ y) x)
noncomputable def xGeq := comp .geq (fun x y => Nat.ble y x)
theorem xEql_eq : xEql = sBin .eql := by funext t a b c; exact comp_eq fun k x y => cmp_ev (z := (x : Int) == y) (fun k => by cases k <;> rfl) nb
theorem xNeq_eq : xNeq = sBin .neq := by funext t a b c; exact comp_eq fun k x y => cmp_ev (z := (x : Int) != y) (fun k => by cases k <;> rfl) (by rw [bne, nb])
theorem xLss_eq : xLss = sBin .lss := by funext t a b c; exact comp_eq fun k x y => cmp_ev (z := decide ((x : Int) < y)) (fun k => by cases k <;> rfl) nlt
theorem xLeq_eq : xLeq = sBin .leq := by funext t a b c; exact comp_eq fun k x y => cmp_ev (z := decide ((x : Int) ≤ y)) (fun k => by cases k <;> rfl) nle
theorem xGtr_eq : xGtr = sBin .gtr := by funext t a b c; exact comp_eq fun k x y => cmp_ev (z := decide ((x : Int) > y)) (fun k => by cases k <;> rfl) nlt
theorem xGeq_eq : xGeq = sBin .geq := by funext t a b c; exact comp_eq fun k x y => cmp_ev (z := decide ((x : Int) ≥ y)) (fun k => by cases k <;> rfl) nle

end Go.AM
