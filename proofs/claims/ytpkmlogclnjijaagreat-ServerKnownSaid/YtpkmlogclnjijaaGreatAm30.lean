import Derived.Test.YtpkmlogclnjijaaGreatAm29
set_option linter.unusedVariables false
namespace Go.AM

/-! A machine for the kernel: the same evaluator, over memory in a tree, without questions that cannot be decided. -/

inductive Tr (α : Type) where
  | nil
  | node (v : Option α) (l r : Tr α)

def Tr.get {α : Type} : Tr α → Nat → Option α
  | .nil, _ => none
  | .node v l r, n => match n with
    | 0 => v
    | n + 1 => bif Nat.beq (n % 2) 0 then l.get (n / 2) else r.get (n / 2)

def Tr.set {α : Type} : Nat → Tr α → Nat → Option α → Option (Tr α)
  | 0, _, _, _ => none
  | d + 1, t, n, x => match n, t with
    | 0, .nil => some (.node x .nil .nil)
    | 0, .node _ l r => some (.node x l r)
    | n + 1, .nil => bif Nat.beq (n % 2) 0 then (Tr.set d .nil (n / 2) x).map fun t => .node none t .nil else (Tr.set d .nil (n / 2) x).map fun t => .node none .nil t
    | n + 1, .node v l r => bif Nat.beq (n % 2) 0 then (Tr.set d l (n / 2) x).map fun t => .node v t r else (Tr.set d r (n / 2) x).map fun t => .node v l t

theorem Tr.get_nil {α : Type} (n : Nat) : (Tr.nil : Tr α).get n = none := rfl

theorem Tr.get_succ {α : Type} (v : Option α) (l r : Tr α) (n : Nat) : (Tr.node v l r).get (n + 1) = if n % 2 = 0 then l.get (n / 2) else r.get (n / 2) := by
  show (bif Nat.beq (n % 2) 0 then _ else _) = _
  by_cases h : n % 2 = 0
  · rw [h]; rfl
  · have : Nat.beq (n % 2) 0 = false := by cases hb : Nat.beq (n % 2) 0 with | false => rfl | true => exact absurd (Nat.eq_of_beq_eq_true hb) h
    rw [this, if_neg h]; rfl

theorem half {n m : Nat} (h1 : n % 2 = m % 2) (h2 : n / 2 = m / 2) : n = m := by omega

theorem Tr.get_set {α : Type} : ∀ (d : Nat) (t : Tr α) (n : Nat) (x : Option α) (t' : Tr α), Tr.set d t n x = some t' → ∀ m, t'.get m = if m = n then x else t.get m := by
  intro d
  induction d with
  | zero => intro t n x t' h; simp [Tr.set] at h
  | succ d ih =>
    intro t n x t' h m
    have hb : ∀ {n : Nat} {β : Type} {a b : β}, (bif Nat.beq (n % 2) 0 then a else b) = if n % 2 = 0 then a else b := by
      intro n β a b
      by_cases h : n % 2 = 0
      · rw [h]; rfl
      · have : Nat.beq (n % 2) 0 = false := by cases hb : Nat.beq (n % 2) 0 with | false => rfl | true => exact absurd (Nat.eq_of_beq_eq_true hb) h
        rw [this, if_neg h]; rfl
    unfold Tr.set at h
    split at h
    · simp only [Option.some.injEq] at h; subst h
      cases m with
      | zero => rfl
      | succ m => rw [Tr.get_succ]; simp [Tr.get_nil]
    · simp only [Option.some.injEq] at h; subst h
      cases m with
      | zero => rfl
      | succ m => rw [Tr.get_succ, Tr.get_succ]; simp
    · rename_i n
      rw [hb] at h
      split at h
      · rename_i hn
        simp only [Option.map_eq_some_iff] at h
        obtain ⟨t1, h1, rfl⟩ := h
        cases m with
        | zero => simp [Tr.get]
        | succ m =>
          rw [Tr.get_succ, ih _ _ _ _ h1]
          by_cases hm : m % 2 = 0
          · rw [if_pos hm]
            by_cases he : m / 2 = n / 2
            · rw [if_pos he, if_pos (by have := half (hm.trans hn.symm) he; omega)]
            · rw [if_neg he, if_neg (by intro h; apply he; have : m = n := by omega
                                        rw [this]), Tr.get_nil, Tr.get_nil]
          · rw [if_neg hm, if_neg (by intro h; apply hm; have : m = n := by omega
                                      rw [this]; exact hn), Tr.get_nil, Tr.get_nil]
      · rename_i hn
        simp only [Option.map_eq_some_iff] at h
        obtain ⟨t1, h1, rfl⟩ := h
        cases m with
        | zero => simp [Tr.get]
        | succ m =>
          rw [Tr.get_succ, ih _ _ _ _ h1]
          by_cases hm : m % 2 = 0
          · rw [if_pos hm, if_neg (by intro h; apply hn; have : m = n := by omega
                                      rw [← this]; exact hm), Tr.get_nil, Tr.get_nil]
          · rw [if_neg hm]
            by_cases he : m / 2 = n / 2
            · rw [if_pos he, if_pos (by have := half (n := m) (m := n) (by omega) he; omega)]
            · rw [if_neg he, if_neg (by intro h; apply he; have : m = n := by omega
                                        rw [this]), Tr.get_nil, Tr.get_nil]
    · rename_i n v l r
      rw [hb] at h
      split at h
      · rename_i hn
        simp only [Option.map_eq_some_iff] at h
        obtain ⟨t1, h1, rfl⟩ := h
        cases m with
        | zero => simp [Tr.get]
        | succ m =>
          rw [Tr.get_succ, Tr.get_succ, ih _ _ _ _ h1]
          by_cases hm : m % 2 = 0
          · rw [if_pos hm, if_pos hm]
            by_cases he : m / 2 = n / 2
            · rw [if_pos he, if_pos (by have := half (hm.trans hn.symm) he; omega)]
            · rw [if_neg he, if_neg (by intro h; apply he; have : m = n := by omega
                                        rw [this])]
          · rw [if_neg hm, if_neg hm, if_neg (by intro h; apply hm; have : m = n := by omega
                                                 rw [this]; exact hn)]
      · rename_i hn
        simp only [Option.map_eq_some_iff] at h
        obtain ⟨t1, h1, rfl⟩ := h
        cases m with
        | zero => simp [Tr.get]
        | succ m =>
          rw [Tr.get_succ, Tr.get_succ, ih _ _ _ _ h1]
          by_cases hm : m % 2 = 0
          · rw [if_pos hm, if_pos hm, if_neg (by intro h; apply hn; have : m = n := by omega
                                                 rw [← this]; exact hm)]
          · rw [if_neg hm, if_neg hm]
            by_cases he : m / 2 = n / 2
            · rw [if_pos he, if_pos (by have := half (n := m) (m := n) (by omega) he; omega)]
            · rw [if_neg he, if_neg (by intro h; apply he; have : m = n := by omega
                                        rw [this])]

/-- what an operation writes -/
abbrev Ws := List (Nat × Option Blk)

def applyWs : Ws → Mem → Mem
  | [], H => H
  | (i, some b) :: r, H => applyWs r (H.upd i b)
  | (i, none) :: r, H => applyWs r (H.del i)

def Tr.sets (t : Tr Blk) : Ws → Option (Tr Blk)
  | [] => some t
  | (i, b) :: r => (Tr.set 64 t i b).bind fun t' => t'.sets r

theorem Tr.sets_get : ∀ (ws : Ws) (t t' : Tr Blk), t.sets ws = some t' → t'.get = applyWs ws t.get := by
  intro ws
  induction ws with
  | nil => intro t t' h; simp only [Tr.sets, Option.some.injEq] at h; subst h; rfl
  | cons w ws ih =>
    obtain ⟨i, b⟩ := w
    intro t t' h
    simp only [Tr.sets, Option.bind_eq_some_iff] at h
    obtain ⟨t1, h1, h2⟩ := h
    rw [ih _ _ h2]
    have := Tr.get_set _ _ _ _ _ h1
    cases b with
    | none =>
      have : t1.get = Mem.del t.get i := funext fun m => by rw [this m]; rfl
      rw [this]; rfl
    | some b =>
      have : t1.get = Mem.upd t.get i b := funext fun m => by rw [this m]; rfl
      rw [this]; rfl

/-- append: what is written -/
def wApp (H : Mem) (nx k bytes : Nat) (s : AV) (l : List AV) : Option (AV × Ws × Nat) :=
  match s with
  | .slice none _ => if room l.length bytes then
      (if l.isEmpty then some (.slice none 0, [], nx) else some (.slice (some ⟨nx, [], 0, k, none⟩) l.length, [(nx, some (.tree (.arr k l)))], nx + 1)) else none
  | .slice (some s) n =>
    match s.p, s.tot with
    | [], none =>
      if s.k = k ∧ room (n + l.length) bytes then
        match H s.b with
        | some (.tree (.arr k' cs)) => if k' = k ∧ s.i + n ≤ cs.length then
            some (.slice (some ⟨nx, [], 0, k, none⟩) (n + l.length), [(s.b, none), (nx, some (.tree (.arr k ((cs.drop s.i).take n ++ l))))], nx + 1)
          else none
        | _ => none
      else none
    | _, _ => none
  | _ => none

theorem wApp_sound {st : St} {k bytes nx' : Nat} {s v : AV} {l : List AV} {ws : Ws} (h : wApp st.H st.nx k bytes s l = some (v, ws, nx')) : evApp st k bytes s l = some (v, ⟨applyWs ws st.H, nx'⟩) := by
  unfold wApp at h
  split at h
  · split at h
    · rename_i hr
      split at h
      · rename_i hl
        simp only [Option.some.injEq, Prod.mk.injEq] at h
        obtain ⟨rfl, rfl, rfl⟩ := h
        simp only [List.isEmpty_iff] at hl
        simp [evApp, hl, applyWs] at hr ⊢; exact hr
      · rename_i hl
        simp only [Option.some.injEq, Prod.mk.injEq] at h
        obtain ⟨rfl, rfl, rfl⟩ := h
        simp only [List.isEmpty_iff] at hl
        simp [evApp, hl, hr, applyWs]
    · simp at h
  · rename_i s n
    split at h
    · rename_i hp ht
      split at h
      · rename_i hc
        split at h
        · rename_i k' cs hH
          split at h
          · rename_i hc2
            simp only [Option.some.injEq, Prod.mk.injEq] at h
            obtain ⟨rfl, rfl, rfl⟩ := h
            simp [evApp, hp, ht, hc, hH, hc2, applyWs]
          · simp at h
        · simp at h
      · simp at h
    · simp at h
  · simp at h

def wElems (H : Mem) (s : ASl) (l : List AV) : Option Ws :=
  match H s.b with
  | some (.tree t) => match getAt t s.p with
    | some (.arr k cs) => if k = s.k ∧ s.i + l.length ≤ cs.length ∧ (l.all fun v => v.size == k) then
        (setAt (.arr k (cs.take s.i ++ l ++ cs.drop (s.i + l.length))) t s.p).map fun t' => [(s.b, some (.tree t'))]
      else none
    | _ => none
  | _ => none

theorem wElems_sound {H : Mem} {s : ASl} {l : List AV} {ws : Ws} (h : wElems H s l = some ws) : setElems H s l = some (applyWs ws H) := by
  unfold wElems at h
  unfold setElems
  split at h
  · split at h
    · split at h
      · rename_i hc
        simp only [Option.map_eq_some_iff] at h
        obtain ⟨t', h1, rfl⟩ := h
        simp only [‹H s.b = some (Blk.tree _)›, ‹getAt _ _ = some _›]
        rw [if_pos hc, h1]
        rfl
      · simp at h
    · simp at h
  · simp at h

def wA (e : Env) (H : Mem) (nx : Nat) : AC → Option (Out × Ws × Nat)
  | .st sz x v => match e.ev x, e.ev0 v with
    | some (.ptr (some p)), some v => if v.size = sz then
        match H p.1 with
        | some (.tree t) => (setAt v t p.2).map fun t' => (.val (.tuple []), [(p.1, some (.tree t'))], nx)
        | _ => none
      else none
    | _, _ => none
  | .mset m k v => match e.ev m, e.ev k, e.ev0 v with
    | some (.map (some r)), some kv, some v => if kv.isInt then
        match H r with
        | some (.amap es) => (findK kv es 0).map fun
          | some (i, _) => (.val (.tuple []), [(r, some (.amap (es.set i (kv, v))))], nx)
          | none => (.val (.tuple []), [(r, some (.amap (es ++ [(kv, v)])))], nx)
        | _ => none
      else none
    | _, _, _ => none
  | .mdel m k => match e.ev m, e.ev k with
    | some (.map (some r)), some kv => if kv.isInt then
        match H r with
        | some (.amap es) => (findK kv es 0).map fun
          | some (i, _) => (.val (.tuple []), [(r, some (.amap (es.eraseIdx i)))], nx)
          | none => (.val (.tuple []), [], nx)
        | _ => none
      else none
    | _, _ => none
  | .app d k bytes s x => match e.ev s, e.ev x with
    | some s, some x => (srcElems H k x).bind fun l =>
        (wApp H nx k bytes s l).map fun (v, ws, nx') => (.val v, if d then (match x with | .slice (some sx) _ => ws ++ [(sx.b, none)] | _ => ws) else ws, nx')
    | _, _ => none
  | .appz k bytes z s n => match e.ev s, e.ev n with
    | some s, some (.sc (.int _ n)) => if 0 ≤ n ∧ n < 2 ^ 62 ∧ n * bytes ≤ 2 ^ 48 then (wApp H nx k bytes s (List.replicate n.toNat z)).map fun (v, ws, nx') => (.val v, ws, nx') else none
    | _, _ => none
  | .cpy k d s => match e.ev d, e.ev s with
    | some (.slice none _), some (.slice _ _) => some (.val (.int .i64 0), [], nx)
    | some (.slice (some d) n), some (.slice s m) => (srcElems H k (.slice s m)).bind fun l =>
        if d.k = k then (wElems H d (l.take n)).map fun ws => (.val (.int .i64 (min m n)), ws, nx) else none
    | _, _ => none
  | .pan x => match e.ev x with
    | some (.iface t v) => some (.pan (.iface t v), [], nx)
    | _ => none
  | _ => none

theorem applyWs_append : ∀ (a b : Ws) (H : Mem), applyWs (a ++ b) H = applyWs b (applyWs a H)
  | [], _, _ => rfl
  | (_, some _) :: a, b, _ => applyWs_append a b _
  | (_, none) :: a, b, _ => applyWs_append a b _

theorem wA_sound {F : CallT} {e : Env} {st : St} {q : AC} {o : Out} {ws : Ws} {nx' : Nat} (h : wA e st.H st.nx q = some (o, ws, nx')) : evA F e st q = some (o, ⟨applyWs ws st.H, nx'⟩) := by
  cases q with
  | st sz x v =>
    simp only [wA] at h
    simp only [evA]
    split at h
    · rename_i p v hx hv
      split at h
      · rename_i hs
        split at h
        · rename_i t ht
          simp only [Option.map_eq_some_iff, Prod.mk.injEq] at h
          obtain ⟨t', h1, rfl, rfl, rfl⟩ := h
          simp [hx, hv, hs, ht, h1, applyWs]
        · simp at h
      · simp at h
    · simp at h
  | mset m k v =>
    simp only [wA] at h
    simp only [evA]
    split at h
    · rename_i r kv v hm hk hv
      split at h
      · rename_i hs
        split at h
        · rename_i es ht
          simp only [Option.map_eq_some_iff] at h
          obtain ⟨f, h1, h⟩ := h
          cases f with
          | none =>
            simp only [Prod.mk.injEq] at h
            obtain ⟨rfl, rfl, rfl⟩ := h
            simp [hm, hk, hv, hs, ht, h1, applyWs]
          | some f =>
            simp only [Prod.mk.injEq] at h
            obtain ⟨rfl, rfl, rfl⟩ := h
            simp [hm, hk, hv, hs, ht, h1, applyWs]
        · simp at h
      · simp at h
    · simp at h
  | mdel m k =>
    simp only [wA] at h
    simp only [evA]
    split at h
    · rename_i r kv hm hk
      split at h
      · rename_i hs
        split at h
        · rename_i es ht
          simp only [Option.map_eq_some_iff] at h
          obtain ⟨f, h1, h⟩ := h
          cases f with
          | none =>
            simp only [Prod.mk.injEq] at h
            obtain ⟨rfl, rfl, rfl⟩ := h
            simp [hm, hk, hs, ht, h1, applyWs]
          | some f =>
            simp only [Prod.mk.injEq] at h
            obtain ⟨rfl, rfl, rfl⟩ := h
            simp [hm, hk, hs, ht, h1, applyWs]
        · simp at h
      · simp at h
    · simp at h
  | app d k b s x =>
    simp only [wA] at h
    simp only [evA]
    split at h
    · rename_i s x hs hx
      simp only [Option.bind_eq_some_iff, Option.map_eq_some_iff, Prod.mk.injEq] at h
      obtain ⟨l, h1, ⟨v, ws1, nx1⟩, h2, rfl, rfl, rfl⟩ := h
      have := wApp_sound h2
      simp only [hs, hx, h1, Option.bind_some, this, Option.map_some, Option.some.injEq, Prod.mk.injEq, true_and]
      cases d with
      | false => simp
      | true =>
        simp only [if_true]
        cases x with
        | slice sx n => cases sx with
          | some sx => simp only [applyWs_append]; rfl
          | none => rfl
        | _ => rfl
    · simp at h
  | appz k b z s n =>
    simp only [wA] at h
    simp only [evA]
    split at h
    · rename_i s _ n hs hn
      split at h
      · rename_i hc
        simp only [Option.map_eq_some_iff, Prod.mk.injEq] at h
        obtain ⟨⟨v, ws1, nx1⟩, h2, rfl, rfl, rfl⟩ := h
        have := wApp_sound h2
        simp only [hs, hn]
        rw [if_pos hc, this]
        rfl
      · simp at h
    · simp at h
  | cpy k d s =>
    simp only [wA] at h
    simp only [evA]
    split at h
    · rename_i hd hs
      simp only [Option.some.injEq, Prod.mk.injEq] at h
      obtain ⟨rfl, rfl, rfl⟩ := h
      simp [hd, hs, applyWs]
    · rename_i d n s m hd hs
      simp only [Option.bind_eq_some_iff] at h
      obtain ⟨l, h1, h⟩ := h
      split at h
      · rename_i hk
        simp only [Option.map_eq_some_iff, Prod.mk.injEq] at h
        obtain ⟨ws1, h2, rfl, rfl, rfl⟩ := h
        have := wElems_sound h2
        simp [hd, hs, h1, hk, this]
      · simp at h
    · simp at h
  | callf => simp [wA] at h
  | callv => simp [wA] at h
  | pan x =>
    simp only [wA] at h
    simp only [evA]
    split at h
    · rename_i hx
      simp only [Option.some.injEq, Prod.mk.injEq] at h
      obtain ⟨rfl, rfl, rfl⟩ := h
      simp [hx, applyWs]
    · simp at h

end Go.AM
