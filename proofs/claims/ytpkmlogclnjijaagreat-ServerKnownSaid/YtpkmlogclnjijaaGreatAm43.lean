import Derived.Test.YtpkmlogclnjijaaGreatAm42
set_option linter.unusedVariables false
/-! Appending. -/
namespace Go.AM

/-- the first n, made at once, and the rest behind them -/
noncomputable def takeC (cs : List AV) : Nat → List AV → (List AV → Kr) → Kr :=
  @List.rec AV (fun _ => Nat → List AV → (List AV → Kr) → Kr)
    (fun n l c => @Nat.rec (fun _ => Kr) (c l) (fun _ _ => none) n)
    (fun x _ ih n l c => @Nat.rec (fun _ => Kr) (c l) (fun m _ => ih m l fun r => c (x :: r)) n) cs

theorem takeC_eq : ∀ (cs : List AV) (n : Nat) (l : List AV) (c : List AV → Kr), takeC cs n l c = if n ≤ cs.length then c (cs.take n ++ l) else none
  | [], 0, _, _ => rfl
  | [], n + 1, _, _ => by
    rw [if_neg (by simp)]; rfl
  | _ :: _, 0, _, _ => by
    rw [if_pos (by simp)]; rfl
  | x :: cs, n + 1, l, c => by
    have h1 : takeC (x :: cs) (n + 1) l c = takeC cs n l fun r => c (x :: r) := rfl
    rw [h1, takeC_eq cs n l]
    by_cases h : n ≤ cs.length
    · rw [if_pos h, if_pos (by simp; omega)]; rfl
    · rw [if_neg h, if_neg (by simp; omega)]

noncomputable abbrev sApp (k : KS) (kk bytes : Nat) (s x : AV) (c p : KV) : Kr := pCall (kA (fun _ _ _ => none) [(0, s), (1, x)] k (.app true kk bytes (.t 0) (.t 1))) c p

/-- one element of size one behind a slice that begins its block -/
noncomputable def xApp (k : KS) (kk bytes : Nat) (s x : AV) (c p : KV) : Kr := match s with
  | .slice (some ⟨b, [], 0, 1, none⟩) n => match x with
    | .slice (some ⟨b', [], 0, 1, _⟩) 1 => ifB (Nat.beq kk 1) (ifB (Nat.ble (Nat.mul (Nat.add (Nat.add (Nat.succ n) (Nat.div (Nat.succ n) 4)) 512) bytes) 281474976710656) (tgC k.t b fun o => match o with
      | some (.tree (.arr 1 cs)) => tgC k.t b' fun o' => match o' with
        | some (.tree (.arr 1 [v])) => takeC cs n [v] fun cs' => tsC none 64 k.t b fun t1 => tsC (some (.tree (.arr 1 cs'))) 64 t1 k.nx fun t2 => tsC none 64 t2 b' fun t3 => c (.slice (some ⟨k.nx, [], 0, 1, none⟩) (Nat.succ n)) ⟨t3, Nat.succ k.nx⟩
        | _ => sApp k kk bytes s x c p
      | _ => sApp k kk bytes s x c p) (sApp k kk bytes s x c p)) (sApp k kk bytes s x c p)
    | _ => sApp k kk bytes s x c p
  | _ => sApp k kk bytes s x c p

theorem xApp_eq : xApp = sApp := by
  funext k kk bytes s x c p
  unfold xApp
  simp only [tgC_eq]
  split
  · rename_i b n
    split
    · rename_i b' tot
      refine ifB_eq fun h1 => ifB_eq fun h2 => ?_
      split
      · rename_i cs hb
        split
        · rename_i v hb'
          have h1 := Nat.eq_of_beq_eq_true h1
          subst h1
          have hroom : room (n + 1) bytes := by
            have := Nat.ble_eq.mp h2
            unfold room
            exact this
          rw [takeC_eq]
          have hsrc : srcElems k.t.get 1 (.slice (some ⟨b', [], 0, 1, tot⟩) 1) = some [v] := by
            simp only [srcElems, if_true, elems, ldPtr, hb', getAt]
            rfl
          have hx : Env.ev [(0, AV.slice (some ⟨b, [], 0, 1, none⟩) n), (1, AV.slice (some ⟨b', [], 0, 1, tot⟩) 1)] (.t 0) = some (.slice (some ⟨b, [], 0, 1, none⟩) n) := rfl
          have hy : Env.ev [(0, AV.slice (some ⟨b, [], 0, 1, none⟩) n), (1, AV.slice (some ⟨b', [], 0, 1, tot⟩) 1)] (.t 1) = some (.slice (some ⟨b', [], 0, 1, tot⟩) 1) := rfl
          by_cases hn : n ≤ cs.length
          · rw [if_pos hn]
            have hw : wApp k.t.get k.nx 1 bytes (.slice (some ⟨b, [], 0, 1, none⟩) n) [v] = some (.slice (some ⟨k.nx, [], 0, 1, none⟩) (n + 1), [(b, none), (k.nx, some (.tree (.arr 1 (cs.take n ++ [v]))))], k.nx + 1) := by
              simp only [wApp]
              rw [if_pos ⟨trivial, hroom⟩]
              simp only [hb]
              rw [if_pos ⟨trivial, by omega⟩]
              simp
            have hwA : wA [(0, AV.slice (some ⟨b, [], 0, 1, none⟩) n), (1, AV.slice (some ⟨b', [], 0, 1, tot⟩) 1)] k.t.get k.nx (.app true 1 bytes (.t 0) (.t 1)) = some (.val (.slice (some ⟨k.nx, [], 0, 1, none⟩) (n + 1)), [(b, none), (k.nx, some (.tree (.arr 1 (cs.take n ++ [v])))), (b', none)], k.nx + 1) := by
              simp only [wA, hx, hy, hsrc, Option.bind_some, hw, Option.map_some]
              rfl
            simp only [sApp, kA, hwA, Tr.sets]
            rw [tsC_eq]
            cases h3 : Tr.set 64 k.t b none with
            | none => rfl
            | some t1 =>
              simp only [Option.bind_some]
              rw [tsC_eq]
              cases h4 : Tr.set 64 t1 k.nx (some (.tree (.arr 1 (cs.take n ++ [v])))) with
              | none => rfl
              | some t2 =>
                simp only [Option.bind_some]
                rw [tsC_eq]
                cases h5 : Tr.set 64 t2 b' none with
                | none => rfl
                | some t3 => rfl
          · rw [if_neg hn]
            have hw : wApp k.t.get k.nx 1 bytes (.slice (some ⟨b, [], 0, 1, none⟩) n) [v] = none := by
              simp only [wApp]
              rw [if_pos ⟨trivial, hroom⟩]
              simp only [hb]
              rw [if_neg (by omega)]
            have hwA : wA [(0, AV.slice (some ⟨b, [], 0, 1, none⟩) n), (1, AV.slice (some ⟨b', [], 0, 1, tot⟩) 1)] k.t.get k.nx (.app true 1 bytes (.t 0) (.t 1)) = none := by
              simp only [wA, hx, hy, hsrc, Option.bind_some, hw, Option.map_none]
            simp only [sApp, kA, hwA]
            rfl
        · rfl
      · rfl
    · rfl
  · rfl

/-- a block is made -/
noncomputable def xNew (v : AV) (b : Blk) (k : KS) (c : KV) : Kr := tsC (some b) 64 k.t k.nx fun t' => c v ⟨t', Nat.succ k.nx⟩

theorem xNew_eq {r : Option (AV × Blk)} {v : AV} {b : Blk} {k : KS} {c : KV} (h : r = some (v, b)) : pAl r k c = xNew v b k c := by
  subst h
  show ((Tr.set 64 k.t k.nx (some b)).bind fun t' => c v ⟨t', k.nx + 1⟩) = _
  rw [xNew, tsC_eq]

noncomputable abbrev sBld1 (z x : AV) (k : KS) (c : KV) : Kr := pAl (evAl [(0, x)] k.nx (.bldS 1 1 z [(0, .t 0)])) k c
noncomputable def xBld1 (z x : AV) (k : KS) (c : KV) : Kr := @Bool.rec (fun _ => Kr) (sBld1 z x k c) (fN k.nx fun n => xNew (.slice (some ⟨n, [], 0, 1, none⟩) 1) (.tree (.arr 1 [x])) ⟨k.t, n⟩ c) (scB x)

theorem xBld1_eq : xBld1 = sBld1 := by
  funext z x k c
  unfold xBld1
  cases h : scB x with
  | false => rfl
  | true =>
    obtain ⟨h1, _, h2, _⟩ := scB_props h
    show fN k.nx _ = _
    rw [fN_eq]
    have he : Env.ev0 [(0, x)] (.t 0) = some x := by
      have : Env.ev [(0, x)] (.t 0) = some x := rfl
      unfold Env.ev0
      rw [this]
      cases x with
      | tuple l => exact absurd rfl (h2 l)
      | _ => rfl
    refine (xNew_eq ?_).symm
    simp only [evAl, Env.parts, he, Option.bind_some, Option.map_some, putParts, h1]
    rfl

noncomputable abbrev sAlloc (z : AV) (k : KS) (c : KV) : Kr := pAl (evAl [] k.nx (.alloc z)) k c
noncomputable def xAlloc (z : AV) (k : KS) (c : KV) : Kr := fN k.nx fun n => xNew (.ptr (some (n, []))) (.tree z) ⟨k.t, n⟩ c
theorem xAlloc_eq : xAlloc = sAlloc := by
  funext z k c
  unfold xAlloc
  rw [fN_eq]
  exact (xNew_eq rfl).symm

end Go.AM
