import Derived.Test.YtpkmlogclnjijaaGreatAm32
set_option linter.unusedVariables false
/-! A faster machine: the code's regions as functions that are proved equal to them. -/
namespace Go.AM

noncomputable def gt {β : Type} (e : Env) (s : Nat) (c : AV → Option β) : Option β :=
  @List.rec (Nat × AV) (fun _ => Option β) none (fun p _ ih => @Prod.rec Nat AV (fun _ => Option β) (fun t v => @Bool.rec (fun _ => Option β) ih (c v) (Nat.beq t s)) p) e

theorem gt_eq {β : Type} (s : Nat) (c : AV → Option β) : ∀ e : Env, gt e s c = (e.get s).bind c
  | [] => rfl
  | (t, v) :: r => by
    show (@Bool.rec (fun _ => Option β) (gt r s c) (c v) (Nat.beq t s)) = _
    simp only [Env.get]
    cases h : Nat.beq t s with
    | true => rw [if_pos (Nat.eq_of_beq_eq_true h)]; rfl
    | false => rw [if_neg (Nat.ne_of_beq_eq_false h)]; exact gt_eq s c r

theorem gt_some {β : Type} {e : Env} {s : Nat} {c : AV → Option β} {r : β} (h : gt e s c = some r) : ∃ v, e.get s = some v ∧ c v = some r := by
  rw [gt_eq, Option.bind_eq_some_iff] at h
  exact h

inductive FC where
  | skip | ret
  | exit (id : Nat)
  | reg (f : Env → KS → Kr)
  | seq (a b : FC)
  | cond (c : RX) (a b : FC)
  | block (id : Nat) (c : FC)
  | loop (keep : List Nat) (c : FC)
  | free (l : List Nat) (c : FC)

noncomputable def sq (r : Kr) (c : Env → KS → Kr) : Kr :=
  @Option.rec _ (fun _ => Kr) none (fun p => @Prod.rec _ _ (fun _ => Kr) (fun x q => @Prod.rec _ _ (fun _ => Kr) (fun e k => @X.rec (fun _ => Kr) (c e k) (fun id => some (.exit id, e, k)) (some (.ret, e, k)) (fun v => some (.pan v, e, k)) x) q) p) r

theorem sq_eq (r : Kr) (c : Env → KS → Kr) : sq r c = match r with | some (.norm, e, k) => c e k | r => r := by
  rcases r with _ | ⟨x, e, k⟩
  · rfl
  · cases x <;> rfl

noncomputable def onExit (id : Nat) (r : Kr) : Kr :=
  @Option.rec _ (fun _ => Kr) none (fun p => @Prod.rec _ _ (fun _ => Kr) (fun x q => @X.rec (fun _ => Kr) (some (.norm, q)) (fun i => @Bool.rec (fun _ => Kr) (some (.exit i, q)) (some (.norm, q)) (Nat.beq i id)) (some (.ret, q)) (fun v => some (.pan v, q)) x) p) r

theorem onExit_eq (id : Nat) (r : Kr) : onExit id r = match r with | some (.exit id', e', k') => bif Nat.beq id' id then some (.norm, e', k') else some (.exit id', e', k') | r => r := by
  rcases r with _ | ⟨x, e, k⟩
  · rfl
  · cases x with
    | exit i =>
      show (@Bool.rec (fun _ => Kr) (some (.exit i, e, k)) (some (.norm, e, k)) (Nat.beq i id)) = (bif Nat.beq i id then _ else _)
      cases Nat.beq i id <;> rfl
    | _ => rfl

noncomputable def onB (v : AV) (a b : Kr) : Kr := match v with
  | .sc (.bool t) => @Bool.rec (fun _ => Kr) b a t
  | _ => none

noncomputable def fIter (f : Env → KS → Kr) (n : Nat) : Env → KS → Kr :=
  @Nat.rec (fun _ => Env → KS → Kr) (fun _ _ => none) (fun _ ih e k => sq (f e k) ih) n

theorem fIter_eq (f : Env → KS → Kr) : ∀ n e k, fIter f n e k = kIter f n e k
  | 0, _, _ => rfl
  | n + 1, e, k => by
    have h0 : fIter f (n + 1) e k = sq (f e k) (fIter f n) := rfl
    rw [h0, sq_eq]
    simp only [kIter]
    rcases f e k with _ | ⟨x, e1, k1⟩
    · rfl
    · cases x <;> first | exact fIter_eq f n _ _ | rfl

noncomputable def fC (n : Nat) (c : FC) : Env → KS → Kr :=
  @FC.rec (fun _ => Env → KS → Kr)
    (fun e k => some (.norm, e, k))
    (fun e k => some (.ret, e, k))
    (fun id e k => some (.exit id, e, k))
    (fun f e k => f e k)
    (fun _ _ a b e k => sq (a e k) b)
    (fun x _ _ a b e k => @RX.rec (fun _ => Kr) (fun s => gt e s fun v => onB v (a e k) (b e k)) (fun v => onB (.sc v) (a e k) (b e k)) none none none none none (fun _ => none) x)
    (fun id _ c e k => onExit id (c e k))
    (fun keep _ c e k => fIter (fun e k => c (e.keep keep) k) n e k)
    (fun l _ c e k => sq (c e k) fun e' k' => (kFree e' l k'.t).map fun t => (.norm, e', ⟨t, k'.nx⟩))
    c

/-- the same, but for what is left of the environment at a panic -/
def Sim (y z : X × Env × KS) : Prop := z.1 = y.1 ∧ z.2.2 = y.2.2 ∧ ((∀ v, y.1 ≠ .pan v) → z = y)

theorem Sim.refl (y : X × Env × KS) : Sim y y := ⟨rfl, rfl, fun _ => rfl⟩
theorem Sim.eqn {y z : X × Env × KS} (h : Sim y z) (hn : ∀ v, y.1 ≠ .pan v) : z = y := h.2.2 hn
theorem Sim.trans {a b c : X × Env × KS} (h : Sim a b) (h' : Sim b c) : Sim a c :=
  ⟨h'.1.trans h.1, h'.2.1.trans h.2.1, fun hn => (h'.2.2 fun v => by rw [h.1]; exact hn v).trans (h.2.2 hn)⟩

/-- The code's regions, one by one, are told rightly. -/
def Fits (P : Program) (K : KT) : FC → RC → Prop
  | .skip, .skip => True
  | .ret, .ret => True
  | .exit i, .exit j => i = j
  | .reg f, .reg ops keep => ∀ e k y, f e k = some y → ∃ z, kKeep keep (kRegion P K ops e k) = some z ∧ Sim y z
  | .reg f, .draw plan keep => ∀ e k y, f e k = some y → ∃ z, kKeep keep (kLive P K plan e k k.t []) = some z ∧ Sim y z
  | .seq a b, .seq a' b' => Fits P K a a' ∧ Fits P K b b'
  | .cond c a b, .cond c' a' b' => c = c' ∧ Fits P K a a' ∧ Fits P K b b'
  | .block i c, .block j c' => i = j ∧ Fits P K c c'
  | .loop l c, .loop l' c' => l = l' ∧ Fits P K c c'
  | .free l c, .free l' c' => l = l' ∧ Fits P K c c'
  | _, _ => False

theorem sq_some {r : Kr} {c : Env → KS → Kr} {y : X × Env × KS} (h : sq r c = some y) : (∃ e k, r = some (.norm, e, k) ∧ c e k = some y) ∨ (r = some y ∧ y.1 ≠ .norm) := by
  rw [sq_eq] at h
  split at h
  · exact .inl ⟨_, _, rfl, h⟩
  · rename_i hn
    refine .inr ⟨h, ?_⟩
    rintro hy
    obtain ⟨x, e, k⟩ := y
    simp only at hy
    subst hy
    exact hn _ _ h

theorem onB_some {v : AV} {a b : Kr} {y : X × Env × KS} (h : onB v a b = some y) : ∃ t, v = .sc (.bool t) ∧ (bif t then a else b) = some y := by
  unfold onB at h
  split at h
  · rename_i t
    refine ⟨t, rfl, ?_⟩
    cases t <;> exact h
  · simp at h

theorem fC_sound {P : Program} {K : KT} (n : Nat) : ∀ (fc : FC) (c : RC) (e : Env) (k : KS) (y : X × Env × KS), Fits P K fc c → fC n fc e k = some y → ∃ z, kC P K n c e k = some z ∧ Sim y z := by
  intro fc
  induction fc with
  | skip => intro c e k y hf h; cases c <;> first | exact hf.elim | exact ⟨_, h, Sim.refl _⟩
  | ret => intro c e k y hf h; cases c <;> first | exact hf.elim | exact ⟨_, h, Sim.refl _⟩
  | exit i =>
    intro c e k y hf h
    cases c <;> first | exact hf.elim | skip
    rw [← (show _ = _ from hf)]; exact ⟨_, h, Sim.refl _⟩
  | reg f =>
    intro c e k y hf h
    cases c <;> first | exact hf.elim | exact hf e k y h
  | seq a b iha ihb =>
    intro c e k y hf h
    cases c <;> first | exact hf.elim | skip
    obtain ⟨h1, h2⟩ := hf
    have h : sq (fC n a e k) (fC n b) = some y := h
    simp only [kC]
    rcases sq_some h with ⟨e', k', h3, h4⟩ | ⟨h3, h4⟩
    · obtain ⟨z, hz, hs⟩ := iha _ _ _ _ h1 h3
      have := hs.eqn (by simp)
      subst this
      rw [hz]
      exact ihb _ _ _ _ h2 h4
    · obtain ⟨z, hz, hs⟩ := iha _ _ _ _ h1 h3
      rw [hz]
      refine ⟨z, ?_, hs⟩
      obtain ⟨x, e1, k1⟩ := z
      have : x = y.1 := hs.1
      rw [← this] at h4
      cases x <;> first | rfl | exact absurd rfl h4
  | cond x a b iha ihb =>
    intro c e k y hf h
    cases c <;> first | exact hf.elim | skip
    rename_i x' a' b'
    obtain ⟨rfl, h1, h2⟩ := hf
    have fin : ∀ v, e.ev x = some v → onB v (fC n a e k) (fC n b e k) = some y → ∃ z, kC P K n (.cond x a' b') e k = some z ∧ Sim y z := by
      intro v hv h
      obtain ⟨t, rfl, h⟩ := onB_some h
      simp only [kC, hv]
      cases t with
      | true => exact iha _ _ _ _ h1 h
      | false => exact ihb _ _ _ _ h2 h
    cases x with
    | t s =>
      have h : gt e s (fun v => onB v (fC n a e k) (fC n b e k)) = some y := h
      obtain ⟨v, hv, h⟩ := gt_some h
      exact fin v hv h
    | k v => exact fin _ rfl h
    | _ => exact absurd (show (none : Kr) = some y from h) (by simp)
  | block i c ih =>
    intro c e k y hf h
    cases c <;> first | exact hf.elim | skip
    rename_i j c'
    obtain ⟨h0, h1⟩ := hf
    subst h0
    have h : onExit i (fC n c e k) = some y := h
    simp only [kC]
    cases hr : fC n c e k with
    | none => rw [hr] at h; simp [onExit] at h
    | some y1 =>
      obtain ⟨z, hz, hs⟩ := ih _ _ _ _ h1 hr
      rw [hz]
      rw [hr, onExit_eq] at h
      by_cases hp : ∃ v, y1.1 = .pan v
      · obtain ⟨v, hp⟩ := hp
        obtain ⟨x, e1, k1⟩ := y1
        obtain ⟨x2, e2, k2⟩ := z
        simp only at hp
        subst hp
        have h3 : x2 = .pan v := hs.1
        subst h3
        simp only [Option.some.injEq] at h
        subst h
        exact ⟨_, rfl, hs⟩
      · have := hs.eqn fun v hv => hp ⟨v, hv⟩
        subst this
        exact ⟨_, h, Sim.refl _⟩
  | loop l c ih =>
    intro c' e k y hf h
    cases c' <;> first | exact hf.elim | skip
    rename_i l' c'
    obtain ⟨h0, h1⟩ := hf
    subst h0
    have h : fIter (fun e k => fC n c (e.keep l) k) n e k = some y := h
    rw [fIter_eq] at h
    simp only [kC]
    have key : ∀ m e k, kIter (fun e k => fC n c (e.keep l) k) m e k = some y → ∃ z, kIter (fun e k => kC P K n c' (e.keep l) k) m e k = some z ∧ Sim y z := by
      intro m
      induction m with
      | zero => intro e k h; simp [kIter] at h
      | succ m ihm =>
        intro e k h
        simp only [kIter] at h ⊢
        cases hr : fC n c (e.keep l) k with
        | none => rw [hr] at h; simp at h
        | some y1 =>
          obtain ⟨z, hz, hs⟩ := ih _ _ _ _ h1 hr
          rw [hz]
          rw [hr] at h
          obtain ⟨x, e1, k1⟩ := y1
          cases x with
          | norm =>
            have := hs.eqn (by simp)
            subst this
            exact ihm _ _ h
          | pan v =>
            simp only [Option.some.injEq] at h
            subst h
            obtain ⟨x2, e2, k2⟩ := z
            have h3 : x2 = .pan v := hs.1
            subst h3
            exact ⟨_, rfl, hs⟩
          | _ =>
            have := hs.eqn (by simp)
            subst this
            exact ⟨_, h, Sim.refl _⟩
    exact key n e k h
  | free l c ih =>
    intro c' e k y hf h
    cases c' <;> first | exact hf.elim | skip
    rename_i l' c'
    obtain ⟨h0, h1⟩ := hf
    subst h0
    have h : sq (fC n c e k) (fun e' k' => (kFree e' l k'.t).map fun t => (.norm, e', ⟨t, k'.nx⟩)) = some y := h
    simp only [kC]
    rcases sq_some h with ⟨e', k', h3, h4⟩ | ⟨h3, h4⟩
    · obtain ⟨z, hz, hs⟩ := ih _ _ _ _ h1 h3
      have := hs.eqn (by simp)
      subst this
      rw [hz]
      exact ⟨_, h4, Sim.refl _⟩
    · obtain ⟨z, hz, hs⟩ := ih _ _ _ _ h1 h3
      rw [hz]
      refine ⟨z, ?_, hs⟩
      obtain ⟨x, e1, k1⟩ := z
      have : x = y.1 := hs.1
      rw [← this] at h4
      cases x <;> first | rfl | exact absurd rfl h4

/-! Regions depend on what they ask for alone. -/

def Agr (av : List Nat) (e e' : Env) : Prop := ∀ s ∈ av, e.get s = e'.get s

theorem Agr.put {av : List Nat} {e e' : Env} (h : Agr av e e') (d : Option Nat) (v : AV) : Agr (match d with | some d => d :: av | none => av) (e.put d v) (e'.put d v) := by
  cases d with
  | none => exact h
  | some d =>
    intro s hs
    simp only [Env.put, Env.get]
    split
    · rfl
    · rename_i hne
      rcases List.mem_cons.1 hs with rfl | hs
      · exact absurd rfl hne
      · exact h s hs

theorem Agr.sub {av av' : List Nat} {e e' : Env} (h : Agr av e e') (hs : ∀ s ∈ av', s ∈ av) : Agr av' e e' := fun s h1 => h s (hs s h1)

def subB (l av : List Nat) : Bool := l.all fun s => av.contains s
theorem subB_mem {l av : List Nat} (h : subB l av = true) : ∀ s ∈ l, s ∈ av := by
  intro s hs
  have := List.all_eq_true.1 h s hs
  simpa using this

theorem keep_agr {e e' : Env} : ∀ (l : List Nat), Agr l e e' → e.keep l = e'.keep l
  | [], _ => rfl
  | s :: l, h => by
    simp only [Env.keep, List.filterMap_cons]
    rw [h s List.mem_cons_self]
    have := keep_agr l (h.sub fun s hs => List.mem_cons_of_mem _ hs)
    simp only [Env.keep] at this
    rw [this]

theorem kQ_congr {P : Program} {q : QO} {e e' : Env} (h : ∀ s ∈ q.slots, e.get s = e'.get s) : kQ P e q = kQ P e' q := by
  rw [kQ_eq, kQ_eq]; exact evQ_congr h

theorem wA_congr {e e' : Env} {H : Mem} {nx : Nat} {q : AC} (h : ∀ s ∈ q.slots, e.get s = e'.get s) : wA e H nx q = wA e' H nx q := by
  cases q <;> simp only [AC.slots, List.mem_append] at h <;> simp only [wA] <;> first
    | (rw [ev_congr h]; done)
    | (rw [ev_congr fun s hs => h s (.inl hs), ev0_congr fun s hs => h s (.inr hs)]; done)
    | (rw [ev_congr fun s hs => h s (.inl hs), ev_congr fun s hs => h s (.inr hs)]; done)
    | (rw [ev_congr fun s hs => h s (.inl hs), ev_congr fun s hs => h s (.inr (.inl hs)), ev0_congr fun s hs => h s (.inr (.inr hs))]; done)

theorem kA_congr {K : KT} {e e' : Env} {k : KS} {q : AC} (h : ∀ s ∈ q.slots, e.get s = e'.get s) : kA K e k q = kA K e' k q := by
  cases q with
  | callf f args =>
    simp only [kA]
    rw [evs_congr (by simpa [AC.slots] using h)]
  | callv x args =>
    simp only [AC.slots, List.mem_append] at h
    simp only [kA]
    rw [ev_congr fun s hs => h s (.inl hs), evs_congr fun s hs => h s (.inr hs)]
  | _ => simp only [kA, wA_congr h]

/-- what a region gives, but for what is forgotten -/
def insOk (keep : List Nat) : List Nat → List RI → Bool
  | av, [] => subB keep av
  | av, o :: r => subB o.slots av && insOk keep (match o.dst with | some d => d :: av | none => av) r

/-- a region, its environment forgotten at a panic -/
def kRegN (P : Program) (K : KT) : List RI → Env → KS → Kr
  | [], e, k => some (.norm, e, k)
  | o :: r, e, k => match wants e o.gd with
    | none => none
    | some false => kRegN P K r (e.put o.dst (.tuple [])) k
    | some true => match o.op with
      | .q q => (kQ P e q).bind fun v => kRegN P K r (e.put o.dst v) k
      | .rd q => (evR k.t.get e q).bind fun v => kRegN P K r (e.put o.dst v) k
      | .al q => (evAl e k.nx q).bind fun p => (Tr.set 64 k.t k.nx (some p.2)).bind fun t' => kRegN P K r (e.put o.dst p.1) ⟨t', k.nx + 1⟩
      | .ac q => match kA K e k q with
        | some (.val v, k') => kRegN P K r (e.put o.dst v) k'
        | some (.pan v, k') => some (.pan v, [], k')
        | none => none

theorem kReg_agr {P : Program} {K : KT} {keep : List Nat} : ∀ (ops : List RI) (av : List Nat) (e e' : Env) (k : KS) (y : X × Env × KS), insOk keep av ops = true → Agr av e e' →
    kKeep keep (kRegN P K ops e' k) = some y → ∃ z, kKeep keep (kRegion P K ops e k) = some z ∧ Sim y z
  | [], av, e, e', k, y, hc, ha, h => by
    simp only [insOk] at hc
    simp only [kRegion, kRegN, kKeep] at h ⊢
    rw [← keep_agr keep (ha.sub (subB_mem hc))] at h
    exact ⟨_, rfl, by simp only [Option.some.injEq] at h; subst h; exact Sim.refl _⟩
  | ⟨d, g, op⟩ :: r, av, e, e', k, y, hc, ha, h => by
    simp only [insOk, Bool.and_eq_true] at hc
    obtain ⟨hs, hc⟩ := hc
    have hs := subB_mem hs
    have ho : ∀ s ∈ op.slots, e.get s = e'.get s := fun s h1 => ha s (hs s (by simp [RI.slots, h1]))
    have hw : wants e g = wants e' g := wants_congr fun s h1 => ha s (hs s (by
      simp only [RI.slots, List.mem_append]; right; exact h1))
    simp only [kRegion, kRegN] at h ⊢
    rw [hw]
    split at h
    · simp [kKeep] at h
    · rename_i hw1
      rw [hw1]
      exact kReg_agr r _ _ _ _ _ hc (ha.put _ _) h
    · rename_i hw1
      rw [hw1]
      cases op with
      | q q =>
        simp only at h ⊢
        rw [kQ_congr (show ∀ s ∈ q.slots, e.get s = e'.get s from ho)]
        cases hv : kQ P e' q with
        | none => rw [hv] at h; simp [kKeep] at h
        | some v => rw [hv] at h; exact kReg_agr r _ _ _ _ _ hc (ha.put _ _) h
      | rd q =>
        simp only at h ⊢
        rw [evR_congr (show ∀ s ∈ q.slots, e.get s = e'.get s from ho)]
        cases hv : evR k.t.get e' q with
        | none => rw [hv] at h; simp [kKeep] at h
        | some v => rw [hv] at h; exact kReg_agr r _ _ _ _ _ hc (ha.put _ _) h
      | al q =>
        simp only at h ⊢
        rw [evAl_congr (show ∀ s ∈ q.slots, e.get s = e'.get s from ho)]
        cases hv : evAl e' k.nx q with
        | none => rw [hv] at h; simp [kKeep] at h
        | some p =>
          rw [hv] at h
          simp only [Option.bind_some] at h ⊢
          cases ht : Tr.set 64 k.t k.nx (some p.2) with
          | none => rw [ht] at h; simp [kKeep] at h
          | some t' => rw [ht] at h; exact kReg_agr r _ _ _ _ _ hc (ha.put _ _) h
      | ac q =>
        simp only at h ⊢
        rw [kA_congr (show ∀ s ∈ q.slots, e.get s = e'.get s from ho)]
        cases hv : kA K e' k q with
        | none => rw [hv] at h; simp [kKeep] at h
        | some p =>
          rw [hv] at h
          obtain ⟨o1, k1⟩ := p
          cases o1 with
          | val v => exact kReg_agr r _ _ _ _ _ hc (ha.put _ _) h
          | pan v =>
            simp only [kKeep, Option.some.injEq] at h ⊢
            subst h
            exact ⟨(.pan v, e, k1), rfl, rfl, rfl, fun hn => absurd rfl (hn v)⟩

theorem get_delE {e : Env} {d s : Nat} : (e.del (some d)).get s = if s = d then none else e.get s := by
  simp only [Env.del]
  induction e with
  | nil => simp [Env.get]
  | cons p e ih =>
    obtain ⟨t, v⟩ := p
    simp only [List.filter_cons]
    by_cases ht : t = d
    · subst ht
      simp only [bne_self_eq_false, Bool.false_eq_true, if_false, ih, Env.get]
      by_cases hs : s = t
      · simp [hs]
      · rw [if_neg hs, if_neg hs, if_neg (fun h => hs h.symm)]
    · have : (t != d) = true := by simpa using ht
      simp only [this, if_true, Env.get, ih]
      by_cases h1 : t = s
      · subst h1; simp [ht]
      · simp [h1]

theorem Agr.del {av : List Nat} {e e' : Env} (h : Agr av e e') (d : Option Nat) : Agr (match d with | some d => d :: av | none => av) (e.del d) (e'.del d) := by
  cases d with
  | none => exact h
  | some d =>
    intro s hs
    rw [get_delE, get_delE]
    split
    · rfl
    · rename_i hne
      rcases List.mem_cons.1 hs with rfl | hs
      · exact absurd rfl hne
      · exact h s hs

def insOkD (keep : List Nat) : List Nat → Plan → Bool
  | av, [] => subB keep av
  | av, (_, o, _) :: r => subB o.slots av && insOkD keep (match o.dst with | some d => d :: av | none => av) r

theorem oldOk_congr {e e' : Env} {q : RD} {v : AV} (h : ∀ s ∈ q.slots, e.get s = e'.get s) : ∀ l : List (Tr Blk), oldOk e q v l = oldOk e' q v l
  | [] => rfl
  | m :: r => by simp only [oldOk]; rw [evR_congr h, oldOk_congr h r]

theorem kDead_agr {P : Program} {keep : List Nat} {old : List (Tr Blk)} {h : Tr Blk} : ∀ (plan : Plan) (dm : Nat) (av : List Nat) (e e' : Env) (k : KS), insOkD keep av plan = true → Agr av e e' → kDead old h P dm plan e k = kDead old h P dm plan e' k
  | [], _, av, e, e', k, hc, ha => rfl
  | (i, ⟨d, g, op⟩, u) :: r, dm, av, e, e', k, hc, ha => by
    simp only [insOkD, Bool.and_eq_true] at hc
    obtain ⟨hs, hc⟩ := hc
    have hs := subB_mem hs
    have ho : ∀ s ∈ op.slots, e.get s = e'.get s := fun s h1 => ha s (hs s (by simp [RI.slots, h1]))
    have hw : wants e g = wants e' g := wants_congr fun s h1 => ha s (hs s (by
      simp only [RI.slots, List.mem_append]; right; exact h1))
    simp only [kDead]
    rw [hw, kDead_agr r _ _ _ _ k hc (ha.del d), kDead_agr r dm _ _ _ k hc (ha.del d)]
    split
    · rfl
    · split
      · rfl
      · split
        · rfl
        · exact kDead_agr r _ _ _ _ k hc (ha.put d _)
        · cases op with
          | q q =>
            simp only
            rw [kQ_congr (show ∀ s ∈ q.slots, e.get s = e'.get s from ho)]
            cases kQ P e' q with
            | none => rfl
            | some v => exact kDead_agr r _ _ _ _ k hc (ha.put d _)
          | rd q =>
            simp only
            rw [evR_congr (show ∀ s ∈ q.slots, e.get s = e'.get s from ho)]
            cases evR h.get e' q with
            | none => rfl
            | some v =>
              simp only [Option.bind_some]
              rw [oldOk_congr (show ∀ s ∈ q.slots, e.get s = e'.get s from ho), kDead_agr r _ _ _ _ k hc (ha.put d _)]
          | _ => rfl

theorem kLive_agr {P : Program} {K : KT} {keep : List Nat} : ∀ (plan : Plan) (av : List Nat) (e e' : Env) (k : KS) (h : Tr Blk) (old : List (Tr Blk)), insOkD keep av plan = true → Agr av e e' →
    kKeep keep (kLive P K plan e k h old) = kKeep keep (kLive P K plan e' k h old)
  | [], av, e, e', k, h, old, hc, ha => by
    simp only [insOkD] at hc
    simp only [kLive, kKeep]
    rw [← keep_agr keep (ha.sub (subB_mem hc))]
  | (i, ⟨d, g, op⟩, u) :: r, av, e, e', k, h, old, hc, ha => by
    simp only [insOkD, Bool.and_eq_true] at hc
    obtain ⟨hs, hc⟩ := hc
    have hs := subB_mem hs
    have ho : ∀ s ∈ op.slots, e.get s = e'.get s := fun s h1 => ha s (hs s (by simp [RI.slots, h1]))
    have hw : wants e g = wants e' g := wants_congr fun s h1 => ha s (hs s (by
      simp only [RI.slots, List.mem_append]; right; exact h1))
    have ih := fun v k h old => kLive_agr (P := P) (K := K) r _ _ _ k h old hc (ha.put d v)
    simp only [kLive]
    rw [hw]
    cases wants e' g with
    | none => rfl
    | some b =>
      cases b with
      | false =>
        simp only
        cases RI.isAc ⟨d, g, op⟩ with
        | true => exact ih _ _ _ _
        | false => exact ih _ _ _ _
      | true =>
        cases op with
        | q q =>
          simp only
          rw [kQ_congr (show ∀ s ∈ q.slots, e.get s = e'.get s from ho)]
          cases kQ P e' q with
          | none => rfl
          | some v => exact ih _ _ _ _
        | rd q =>
          simp only
          rw [evR_congr (show ∀ s ∈ q.slots, e.get s = e'.get s from ho)]
          cases evR h.get e' q with
          | none => rfl
          | some v =>
            simp only [Option.bind_some]
            rw [oldOk_congr (show ∀ s ∈ q.slots, e.get s = e'.get s from ho)]
            cases oldOk e' q v (List.take u old) with
            | true => exact ih _ _ _ _
            | false => rfl
        | al q =>
          simp only
          rw [evAl_congr (show ∀ s ∈ q.slots, e.get s = e'.get s from ho)]
          cases evAl e' k.nx q with
          | none => rfl
          | some p =>
            simp only [Option.bind_some]
            cases Tr.set 64 k.t k.nx (some p.2) with
            | none => rfl
            | some t' => exact ih _ _ _ _
        | ac q =>
          simp only
          rw [kA_congr (show ∀ s ∈ q.slots, e.get s = e'.get s from ho)]
          cases kA K e' k q with
          | none => rfl
          | some p =>
            obtain ⟨o1, k1⟩ := p
            cases o1 with
            | val v => exact ih _ _ _ _
            | pan v =>
              simp only
              rw [kDead_agr r _ _ _ _ k1 hc (ha.del d)]

/-! What is asked of the function that stands for a region. -/

theorem keep_cons {e : Env} {s : Nat} {v : AV} {l : List Nat} {l' : Env} (h : e.get s = some v) (h' : e.keep l = l') : e.keep (s :: l) = (s, v) :: l' := by
  rw [← h']
  simp only [Env.keep, List.filterMap_cons, h, Option.map_some]
theorem keep_nil {e : Env} : e.keep [] = [] := rfl

theorem agr_keep {e l : Env} {ins : List Nat} (h : e.keep ins = l) : Agr ins e l := fun s hs => by rw [← h, get_keep hs]

theorem reg_fit {P : Program} {K : KT} {ins keep : List Nat} {ops : List RI} {e l : Env} {k : KS} {y : X × Env × KS} {r : Kr} (hc : insOk keep ins ops = true) (hl : e.keep ins = l)
    (he : r = kKeep keep (kRegN P K ops l k)) (h : r = some y) : ∃ z, kKeep keep (kRegion P K ops e k) = some z ∧ Sim y z :=
  kReg_agr ops ins e l k y hc (agr_keep hl) (he.symm.trans h)

theorem draw_fit {P : Program} {K : KT} {ins keep : List Nat} {plan : Plan} {e l : Env} {k : KS} {y : X × Env × KS} {r : Kr} (hc : insOkD keep ins plan = true) (hl : e.keep ins = l)
    (he : r = kKeep keep (kLive P K plan l k k.t [])) (h : r = some y) : ∃ z, kKeep keep (kLive P K plan e k k.t []) = some z ∧ Sim y z :=
  ⟨y, (kLive_agr plan ins e l k k.t [] hc (agr_keep hl)).trans (he.symm.trans h), Sim.refl y⟩

theorem slow_reg {P : Program} {K : KT} {ops : List RI} {keep : List Nat} : Fits P K (.reg fun e k => kKeep keep (kRegion P K ops e k)) (.reg ops keep) := fun _ _ y h => ⟨y, h, Sim.refl y⟩
theorem slow_draw {P : Program} {K : KT} {plan : Plan} {keep : List Nat} : Fits P K (.reg fun e k => kKeep keep (kLive P K plan e k k.t [])) (.draw plan keep) := fun _ _ y h => ⟨y, h, Sim.refl y⟩

def slow (P : Program) (K : KT) : RC → FC
  | .skip => .skip
  | .ret => .ret
  | .exit i => .exit i
  | .reg ops keep => .reg fun e k => kKeep keep (kRegion P K ops e k)
  | .draw plan keep => .reg fun e k => kKeep keep (kLive P K plan e k k.t [])
  | .seq a b => .seq (slow P K a) (slow P K b)
  | .cond x a b => .cond x (slow P K a) (slow P K b)
  | .block i c => .block i (slow P K c)
  | .loop l c => .loop l (slow P K c)
  | .free l c => .free l (slow P K c)

theorem slow_fits {P : Program} {K : KT} : ∀ c : RC, Fits P K (slow P K c) c
  | .skip => trivial
  | .ret => trivial
  | .exit _ => rfl
  | .reg _ _ => slow_reg
  | .draw _ _ => slow_draw
  | .seq a b => ⟨slow_fits a, slow_fits b⟩
  | .cond _ a b => ⟨rfl, slow_fits a, slow_fits b⟩
  | .block _ c => ⟨rfl, slow_fits c⟩
  | .loop _ c => ⟨rfl, slow_fits c⟩
  | .free _ c => ⟨rfl, slow_fits c⟩

/-! Functions. -/

structure GFn (P : Program) where
  r : RFn
  fc : KT → FC
  ok : ∀ K, Fits P K (fc K) r.code

noncomputable def fRunF (fc : FC) (n : Nat) (r : RFn) (args : List AV) (k : KS) : Option (Out × KS) :=
  bif Nat.beq args.length r.np then
    match fC n fc (argEnv 0 args) k with
    | some (.norm, e, k') => (evRess e k'.t.get r.res).bind fun vs => (kFree e r.drop k'.t).map fun t => (.val (packR vs), ⟨t, k'.nx⟩)
    | some (.ret, e, k') => (evRess e k'.t.get r.res).bind fun vs => (kFree e r.drop k'.t).map fun t => (.val (packR vs), ⟨t, k'.nx⟩)
    | some (.pan v, _, k') => some (.pan v, k')
    | _ => none
  else none

noncomputable def fCallF {P : Program} (prog : Tr (GFn P)) (spec : Nat → Option (KT → KT)) : Nat → KT
  | 0, _, _, _ => none
  | n + 1, f, args, k => match spec f with
    | some s => s (fCallF prog spec n) f args k
    | none => match prog.get f with
      | some g => fRunF (g.fc (fCallF prog spec n)) n g.r args k
      | none => none

theorem fRunF_eq {P : Program} {K : KT} {n : Nat} {g : GFn P} {args : List AV} {k : KS} {o : Out × KS} (h : fRunF (g.fc K) n g.r args k = some o) : kRunF P K n g.r args k = some o := by
  unfold fRunF at h
  unfold kRunF
  cases hb : Nat.beq args.length g.r.np with
  | false => rw [hb] at h; simp at h
  | true =>
    rw [hb] at h
    simp only [cond_true] at h ⊢
    cases hr : fC n (g.fc K) (argEnv 0 args) k with
    | none => rw [hr] at h; simp at h
    | some y =>
      obtain ⟨z, hz, hs⟩ := fC_sound n _ _ _ _ _ (g.ok K) hr
      rw [hz]
      rw [hr] at h
      obtain ⟨x, e1, k1⟩ := y
      cases x with
      | pan v =>
        obtain ⟨x2, e2, k2⟩ := z
        have h3 : x2 = .pan v := hs.1
        have h4 : k2 = k1 := hs.2.1
        subst h3; subst h4
        exact h
      | _ =>
        have := hs.eqn (by simp)
        subst this
        exact h

theorem fCallF_sound {P : Program} {prog : Tr (GFn P)} {progR : Nat → Option RFn} (hp : ∀ f g, prog.get f = some g → progR f = some g.r) {specK : Nat → Option (KT → KT)} {spec : Nat → Option (CallT → CallT)}
    (hn : ∀ f, specK f = none → spec f = none)
    (hs : ∀ f s, specK f = some s → ∃ s', spec f = some s' ∧ ∀ K F, KSound K F → ∀ args k o k', s K f args k = some (o, k') → s' F f args k.st = some (o, k'.st)) :
    ∀ n, KSound (fCallF prog specK n) (callF P progR spec n) := by
  intro n
  induction n with
  | zero => intro f args k o k' h; simp [fCallF] at h
  | succ n ih =>
    intro f args k o k' h
    simp only [fCallF] at h
    simp only [callF]
    split at h
    · rename_i s h1
      obtain ⟨s', h2, h3⟩ := hs f s h1
      rw [h2]
      exact h3 _ _ ih _ _ _ _ h
    · rename_i h1
      rw [hn f h1]
      simp only
      split at h
      · rename_i g h2
        rw [hp f g h2]
        exact kRunF_sound ih (fRunF_eq h)
      · simp at h

end Go.AM
