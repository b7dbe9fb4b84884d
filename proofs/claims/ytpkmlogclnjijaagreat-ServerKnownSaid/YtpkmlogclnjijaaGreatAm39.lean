import Derived.Test.YtpkmlogclnjijaaGreatAm38
set_option linter.unusedVariables false
namespace Go.AM

/-! Bits. -/

noncomputable def kbits (k : IntKind) : Nat := @IntKind.rec (fun _ => Nat) 8 16 32 64 8 16 32 64 k

theorem kmax_lt {k : IntKind} {n : Nat} (h : n ≤ kmax k) : n < 2 ^ k.bits := by
  cases k <;> simp only [kmax] at h <;> simp [IntKind.bits] <;> omega

theorem and_ev {P : Program} {t : Nat} {k : IntKind} {x y : Nat} (h0 : (Nat.ble x (kmax k) && Nat.ble y (kmax k)) = true) : evBin P .and t (.sc (.int k (.ofNat x))) (.sc (.int k (.ofNat y))) = some (.sc (.int k (.ofNat (Nat.land x y)))) := by
  simp only [Bool.and_eq_true] at h0
  have hx := Nat.ble_eq.mp h0.1
  have hy := Nat.ble_eq.mp h0.2
  have h1 : (BitVec.ofInt k.bits (Int.ofNat x) &&& BitVec.ofInt k.bits (Int.ofNat y)).toNat = Nat.land x y := by
    have e1 : BitVec.ofInt k.bits (Int.ofNat x) = BitVec.ofNat k.bits x := BitVec.ofInt_natCast _ _
    have e2 : BitVec.ofInt k.bits (Int.ofNat y) = BitVec.ofNat k.bits y := BitVec.ofInt_natCast _ _
    rw [e1, e2, BitVec.toNat_and, BitVec.toNat_ofNat, BitVec.toNat_ofNat, Nat.mod_eq_of_lt (kmax_lt hx), Nat.mod_eq_of_lt (kmax_lt hy)]; rfl
  have h2 : Nat.land x y ≤ kmax k := Nat.le_trans (Nat.and_le_left) hx
  have h3 : pureRun P (do eqGuard .and t (.const (.int k (.ofNat x))) (.const (.int k (.ofNat y))) (.int k (.ofNat x)) (.int k (.ofNat y)); binOp .and t (.int k (.ofNat x)) (.int k (.ofNat y))) = some (.int k (k.wrap ((BitVec.ofInt k.bits (Int.ofNat x) &&& BitVec.ofInt k.bits (Int.ofNat y)).toNat))) := by
    cases k <;> rfl
  simp only [evBin, pv, Option.bind_some, h3, h1, wrap_le h2]
  rfl

theorem or_ev {P : Program} {t : Nat} {k : IntKind} {x y : Nat} (h0 : (Nat.ble x (kmax k) && Nat.ble y (kmax k)) = true) (h2 : Nat.lor x y ≤ kmax k) : evBin P .or t (.sc (.int k (.ofNat x))) (.sc (.int k (.ofNat y))) = some (.sc (.int k (.ofNat (Nat.lor x y)))) := by
  simp only [Bool.and_eq_true] at h0
  have hx := Nat.ble_eq.mp h0.1
  have hy := Nat.ble_eq.mp h0.2
  have h1 : (BitVec.ofInt k.bits (Int.ofNat x) ||| BitVec.ofInt k.bits (Int.ofNat y)).toNat = Nat.lor x y := by
    have e1 : BitVec.ofInt k.bits (Int.ofNat x) = BitVec.ofNat k.bits x := BitVec.ofInt_natCast _ _
    have e2 : BitVec.ofInt k.bits (Int.ofNat y) = BitVec.ofNat k.bits y := BitVec.ofInt_natCast _ _
    rw [e1, e2, BitVec.toNat_or, BitVec.toNat_ofNat, BitVec.toNat_ofNat, Nat.mod_eq_of_lt (kmax_lt hx), Nat.mod_eq_of_lt (kmax_lt hy)]; rfl
  have h3 : pureRun P (do eqGuard .or t (.const (.int k (.ofNat x))) (.const (.int k (.ofNat y))) (.int k (.ofNat x)) (.int k (.ofNat y)); binOp .or t (.int k (.ofNat x)) (.int k (.ofNat y))) = some (.int k (k.wrap ((BitVec.ofInt k.bits (Int.ofNat x) ||| BitVec.ofInt k.bits (Int.ofNat y)).toNat))) := by
    cases k <;> rfl
  simp only [evBin, pv, Option.bind_some, h3, h1, wrap_le h2]
  rfl

noncomputable def xAnd (t : Nat) (a b : AV) (c : AV → Kr) : Kr :=
  two a b (sBin .and t a b c) fun k x k' y => ifB (Nat.beq (kix k) (kix k')) (ifB (Nat.ble x (kmax k) && Nat.ble y (kmax k)) (fN (Nat.land x y) fun z => c (.sc (.int k (.ofNat z)))) (sBin .and t a b c)) (sBin .and t a b c)
theorem xAnd_eq : xAnd = sBin .and := by
  funext t a b c
  unfold xAnd
  refine two_eq fun k x k' y ha hb => ?_
  refine ifB_eq fun h1 => ifB_eq fun h2 => ?_
  rw [fN_eq]
  have := kix_eq h1
  subst this
  subst ha; subst hb
  simp only [sBin, kBin_eq, and_ev h2, Option.bind_some]

noncomputable def xOr (t : Nat) (a b : AV) (c : AV → Kr) : Kr :=
  two a b (sBin .or t a b c) fun k x k' y => ifB (Nat.beq (kix k) (kix k')) (ifB (Nat.ble x (kmax k) && Nat.ble y (kmax k)) (fN (Nat.lor x y) fun z => ifB (Nat.ble z (kmax k)) (c (.sc (.int k (.ofNat z)))) (sBin .or t a b c)) (sBin .or t a b c)) (sBin .or t a b c)
theorem xOr_eq : xOr = sBin .or := by
  funext t a b c
  unfold xOr
  refine two_eq fun k x k' y ha hb => ?_
  refine ifB_eq fun h1 => ifB_eq fun h2 => ?_
  rw [fN_eq]
  refine ifB_eq fun h3 => ?_
  have := kix_eq h1
  subst this
  subst ha; subst hb
  simp only [sBin, kBin_eq, or_ev h2 (Nat.ble_eq.mp h3), Option.bind_some]

theorem shl_ev {P : Program} {t : Nat} {k k' : IntKind} {x y : Nat} (h0 : Nat.ble y (kbits k) = true) (h2 : Nat.mul x (Nat.pow 2 y) ≤ kmax k) : evBin P .shl t (.sc (.int k (.ofNat x))) (.sc (.int k' (.ofNat y))) = some (.sc (.int k (.ofNat (Nat.mul x (Nat.pow 2 y))))) := by
  have hb : kbits k = k.bits := by cases k <;> rfl
  have h0 := Nat.ble_eq.mp h0
  have h1 : pureRun P (do eqGuard .shl t (.const (.int k (.ofNat x))) (.const (.int k' (.ofNat y))) (.int k (.ofNat x)) (.int k' (.ofNat y)); binOp .shl t (.int k (.ofNat x)) (.int k' (.ofNat y))) = pureRun P (Op.shift .shl k (.ofNat x) k' (.ofNat y)) := rfl
  have h3 : pureRun P (Op.shift .shl k (.ofNat x) k' (.ofNat y)) = some (.int k (k.wrap (((Nat.mul x (Nat.pow 2 y) : Nat)) : Int))) := by
    unfold Op.shift
    rw [if_neg (by simp)]
    have : min (Int.ofNat y).toNat k.bits = y := by rw [← hb]; exact Nat.min_eq_left h0
    simp only [this]
    show some (Value.int k (k.wrap _)) = _
    congr 3
  simp only [evBin, pv, Option.bind_some, h1, h3, wrap_le h2]
  rfl

theorem shr_ev {P : Program} {t : Nat} {k k' : IntKind} {x y : Nat} (h0 : Nat.ble y (kbits k) = true) : evBin P .shr t (.sc (.int k (.ofNat x))) (.sc (.int k' (.ofNat y))) = some (.sc (.int k (.ofNat (Nat.div x (Nat.pow 2 y))))) := by
  have hb : kbits k = k.bits := by cases k <;> rfl
  have h0 := Nat.ble_eq.mp h0
  have h1 : pureRun P (do eqGuard .shr t (.const (.int k (.ofNat x))) (.const (.int k' (.ofNat y))) (.int k (.ofNat x)) (.int k' (.ofNat y)); binOp .shr t (.int k (.ofNat x)) (.int k' (.ofNat y))) = pureRun P (Op.shift .shr k (.ofNat x) k' (.ofNat y)) := rfl
  have h3 : pureRun P (Op.shift .shr k (.ofNat x) k' (.ofNat y)) = some (.int k (((Nat.div x (Nat.pow 2 y) : Nat)) : Int)) := by
    unfold Op.shift
    rw [if_neg (by simp)]
    have : min (Int.ofNat y).toNat k.bits = y := by rw [← hb]; exact Nat.min_eq_left h0
    simp only [this]
    show some (Value.int k _) = _
    congr 2
    show Int.fdiv (x : Int) (2 ^ y) = ((x / 2 ^ y : Nat) : Int)
    rw [Int.fdiv_eq_ediv_of_nonneg _ (by exact_mod_cast Nat.zero_le (2 ^ y))]
    simp
  simp only [evBin, pv, Option.bind_some, h1, h3]
  rfl

noncomputable def xShl (t : Nat) (a b : AV) (c : AV → Kr) : Kr :=
  two a b (sBin .shl t a b c) fun k x _ y => ifB (Nat.ble y (kbits k)) (fN (Nat.mul x (Nat.pow 2 y)) fun z => ifB (Nat.ble z (kmax k)) (c (.sc (.int k (.ofNat z)))) (sBin .shl t a b c)) (sBin .shl t a b c)
theorem xShl_eq : xShl = sBin .shl := by
  funext t a b c
  unfold xShl
  refine two_eq fun k x k' y ha hb => ?_
  refine ifB_eq fun h1 => ?_
  rw [fN_eq]
  refine ifB_eq fun h3 => ?_
  subst ha; subst hb
  simp only [sBin, kBin_eq, shl_ev h1 (Nat.ble_eq.mp h3), Option.bind_some]

noncomputable def xShr (t : Nat) (a b : AV) (c : AV → Kr) : Kr :=
  two a b (sBin .shr t a b c) fun k x _ y => ifB (Nat.ble y (kbits k)) (fN (Nat.div x (Nat.pow 2 y)) fun z => c (.sc (.int k (.ofNat z)))) (sBin .shr t a b c)
theorem xShr_eq : xShr = sBin .shr := by
  funext t a b c
  unfold xShr
  refine two_eq fun k x k' y ha hb => ?_
  refine ifB_eq fun h1 => ?_
  rw [fN_eq]
  subst ha; subst hb
  simp only [sBin, kBin_eq, shr_ev h1, Option.bind_some]

/-! Conversions among whole numbers. -/

noncomputable def cK (s d : Nat) : Option IntKind := match Go.Proofs.Tryz.prog.underlying s, Go.Proofs.Tryz.prog.underlying d with
  | some _, some (.int k) => some k
  | _, _ => none

noncomputable abbrev sConv (s d : Nat) (a : AV) (c : AV → Kr) : Kr := (evConv Go.Proofs.Tryz.prog s d a).bind c

theorem pureRun_bind {P : Program} {α β : Type} (f : α → Sem β) (s : Sem α) : pureRun P (s >>= f) = (pureRun P s).bind fun a => pureRun P (f a) := by
  induction s with
  | program k ih => exact ih P
  | mark m k ih => exact ih
  | _ => rfl

theorem pureRun_und {P : Program} {t : Nat} {d : TypeDesc} (h : P.underlying t = some d) : pureRun P (underlying t) = some d := by
  have : pureRun P (underlying t) = pureRun P (match P.underlying t with | some d => (pure d : Sem TypeDesc) | none => stuck "no such type") := rfl
  rw [this, h]; rfl

theorem conv_ev {P : Program} {s d : Nat} {ts : TypeDesc} {k k' : IntKind} {n : Int} (h1 : P.underlying s = some ts) (h2 : P.underlying d = some (.int k)) : evConv P s d (.sc (.int k' n)) = some (.sc (.int k (k.wrap n))) := by
  have h3 : pureRun P (convert s d (.int k' n)) = some (.int k (k.wrap n)) := by
    unfold convert
    rw [pureRun_bind, pureRun_und h1]
    simp only [Option.bind_some]
    rw [pureRun_bind, pureRun_und h2]
    simp only [Option.bind_some]
    cases ts <;> rfl
  simp only [evConv, h3, Option.bind_some]
  rfl

noncomputable def xConv (s d : Nat) (a : AV) (c : AV → Kr) : Kr := match a with
  | .sc (.int _ (.ofNat x)) => @Option.rec IntKind (fun _ => Kr) (sConv s d a c) (fun k => ifB (Nat.ble x (kmax k)) (c (.sc (.int k (.ofNat x)))) (sConv s d a c)) (cK s d)
  | _ => sConv s d a c
theorem xConv_eq : xConv = sConv := by
  funext s d a c
  unfold xConv
  split
  · rename_i k' x
    cases hc : cK s d with
    | none => rfl
    | some k =>
      refine ifB_eq fun h => ?_
      unfold cK at hc
      split at hc
      · rename_i h1 h2
        simp only [Option.some.injEq] at hc
        subst hc
        have := wrap_le (Nat.ble_eq.mp h)
        simp only [sConv, conv_ev h1 h2]
        show _ = c (.sc (.int _ (IntKind.wrap _ (x : Int))))
        rw [this]; rfl
      · simp at hc
  · rfl

noncomputable abbrev sMM (mx : Bool) (a b : AV) (c : AV → Kr) : Kr := (evMM Go.Proofs.Tryz.prog mx [a, b]).bind c
noncomputable def xMM (mx : Bool) (a b : AV) (c : AV → Kr) : Kr :=
  two a b (sMM mx a b c) fun k x _ y => fB (@Bool.rec (fun _ => Bool) (Nat.ble (Nat.succ y) x) (Nat.ble (Nat.succ x) y) mx) fun z => @Bool.rec (fun _ => Kr) (c (.sc (.int k (.ofNat x)))) (c (.sc (.int k (.ofNat y)))) z
theorem xMM_eq : xMM = sMM := by
  funext mx a b c
  unfold xMM
  refine two_eq fun k x k' y ha hb => ?_
  rw [fB_eq]
  subst ha; subst hb
  cases mx with
  | true =>
    have h1 : evMM Go.Proofs.Tryz.prog true [.sc (.int k (.ofNat x)), .sc (.int k' (.ofNat y))] = some (.sc (.int k (if (Int.ofNat y) > (Int.ofNat x) then .ofNat y else .ofNat x))) := rfl
    simp only [sMM, h1, Option.bind_some]
    show @Bool.rec (fun _ => Kr) _ _ (Nat.ble (Nat.succ x) y) = _
    rw [← nlt]
    by_cases h : (x : Int) < y
    · rw [decide_eq_true h]
      rw [if_pos (show Int.ofNat y > Int.ofNat x from h)]
    · rw [decide_eq_false h]
      rw [if_neg (show ¬ Int.ofNat y > Int.ofNat x from h)]
  | false =>
    have h1 : evMM Go.Proofs.Tryz.prog false [.sc (.int k (.ofNat x)), .sc (.int k' (.ofNat y))] = some (.sc (.int k (if (Int.ofNat y) < (Int.ofNat x) then .ofNat y else .ofNat x))) := rfl
    simp only [sMM, h1, Option.bind_some]
    show @Bool.rec (fun _ => Kr) _ _ (Nat.ble (Nat.succ y) x) = _
    rw [← nlt]
    by_cases h : (y : Int) < x
    · rw [decide_eq_true h]
      rw [if_pos (show Int.ofNat y < Int.ofNat x from h)]
    · rw [decide_eq_false h]
      rw [if_neg (show ¬ Int.ofNat y < Int.ofNat x from h)]

end Go.AM
