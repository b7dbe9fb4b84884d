import Derived.Test.YtpkmlogclnjijaaGreatAm28
set_option linter.unusedVariables false
namespace Go.AM

/-! Functions. -/

inductive RRes where
  | tmp (s : Nat)
  | cell (s : Nat) (agg : Bool) (sz : Nat)

structure RFn where
  np : Nat
  code : RC
  res : List RRes
  drop : List Nat

def evRes1 (e : Env) (H : Mem) : RRes → Option AV
  | .tmp s => e.ev0 (.t s)
  | .cell s g n => match e.get s with
    | some (.ptr (some p)) => ldTree H g n p
    | _ => none

def evRess (e : Env) (H : Mem) : List RRes → Option (List AV)
  | [] => some []
  | r :: l => (evRes1 e H r).bind fun v => (evRess e H l).map fun vs => v :: vs

def packR : List AV → AV
  | [v] => v
  | vs => .tuple vs

def argEnv : Nat → List AV → Env
  | _, [] => []
  | i, v :: vs => (i, v) :: argEnv (i + 1) vs

noncomputable def runF (P : Program) (F : CallT) (n : Nat) (r : RFn) (args : List AV) (st : St) : Option (Out × St) :=
  if args.length = r.np then
    match evC P F n r.code (argEnv 0 args) st with
    | some (.norm, e, st') => (evRess e st'.H r.res).map fun vs => (.val (packR vs), ⟨freeL e r.drop st'.H, st'.nx⟩)
    | some (.ret, e, st') => (evRess e st'.H r.res).map fun vs => (.val (packR vs), ⟨freeL e r.drop st'.H, st'.nx⟩)
    | some (.pan v, _, st') => some (.pan v, st')
    | _ => none
  else none

noncomputable def callF (P : Program) (prog : Nat → Option RFn) (spec : Nat → Option (CallT → CallT)) : Nat → CallT
  | 0, _, _, _ => none
  | n + 1, f, args, st => match spec f with
    | some s => s (callF P prog spec n) f args st
    | none => match prog f with
      | some r => runF P (callF P prog spec n) n r args st
      | none => none

def chkRes (P : Program) : List ResultVar → List RRes → Bool
  | [], [] => true
  | .tmp t :: l, .tmp s :: l' => t == s && chkRes P l l'
  | .cell a T :: l, .cell s g n :: l' => a == s && decide (isAggT P T = some g) && decide (szOf P T = some n) && chkRes P l l'
  | _, _ => false

def chkF (P : Program) (fn : Func) (r : RFn) : Bool :=
  decide (r.np ≤ fn.ntmps) && (fn.name != "runtime.NumGoroutine") && (match fn.body with | some c => chkC P fn.ntmps c r.code | none => false) && chkRes P fn.results.toList r.res

theorem argEnv_get : ∀ (l : List AV) (i s : Nat) (v : AV), (argEnv i l).get s = some v → i ≤ s ∧ l[s - i]? = some v
  | [], _, _, _, h => by simp [argEnv, Env.get] at h
  | x :: l, i, s, v, h => by
    simp only [argEnv, Env.get] at h
    split at h
    · rename_i he
      subst he
      simpa using h
    · obtain ⟨h1, h2⟩ := argEnv_get l (i + 1) s v h
      refine ⟨by omega, ?_⟩
      have : s - i = (s - (i + 1)) + 1 := by omega
      rw [this, List.getElem?_cons_succ]; exact h2

theorem RelV.to0 {m : Mp} {v : AV} {c : Value} (h : RelV m v c) (hn : ∀ l, v ≠ .tuple l) : RelV0 m v c := by
  cases v <;> first | exact h | exact absurd rfl (hn _)

theorem ev0_some {e : Env} {x : RX} {v : AV} (h : e.ev0 x = some v) : e.ev x = some v ∧ ∀ l, v ≠ .tuple l := by
  unfold Env.ev0 at h
  split at h
  · simp at h
  · rename_i hn
    refine ⟨h, ?_⟩
    rintro l rfl
    exact hn l h

theorem ldTree_wf {m : Mp} {H : Mem} {w : World} {g : Bool} {n : Nat} {p : APtr} {v : AV} (hH : RelH m H w) (h : ldTree H g n p = some v) : wf v := by
  simp only [ldTree, Option.bind_eq_some_iff] at h
  obtain ⟨u, hu, h⟩ := h
  split at h
  · simp only [Option.some.injEq] at h; subst h
    obtain ⟨_, _, _, _, _, _, hw, _⟩ := hH.part hu
    exact hw
  · simp at h

def resF (t : Array Value) : ResultVar → Sem Value
  | .tmp s => pure (t.getD s undef)
  | .cell a T => do loadVar T (← asAddr (t.getD a undef))

theorem results_eq (fn : Func) (t : Array Value) : results fn t = (do let vs ← fn.results.mapM (resF t); pure (if h : vs.size = 1 then vs[0] else .tuple vs)) := rfl

section
variable {P : Program} {m : Mp} {e : Env} {t : Array Value} {H : Mem} {w : World} (hr : RelEnv m e t) (hH : RelH m H w)
include hr hH

theorem res_sound : ∀ (rs : List ResultVar) (l : List RRes) (vs : List AV), chkRes P rs l = true → evRess e H l = some vs → ∃ cs : List Value, All2 (RelV0 m) vs cs ∧
    (rs.mapM (resF t)).run P w = .ok cs w := by
  intro rs
  induction rs with
  | nil =>
    intro l vs hc h
    cases l with
    | nil => simp only [evRess, Option.some.injEq] at h; subst h; exact ⟨[], trivial, rfl⟩
    | cons => simp [chkRes] at hc
  | cons r rs ih =>
    intro l vs hc h
    cases l with
    | nil => cases r <;> simp [chkRes] at hc
    | cons r' l =>
      simp only [evRess, Option.bind_eq_some_iff, Option.map_eq_some_iff] at h
      obtain ⟨v, hv, vs', hvs, rfl⟩ := h
      cases r with
      | tmp s =>
        cases r' with
        | cell => simp [chkRes] at hc
        | tmp s' =>
          simp only [chkRes, Bool.and_eq_true, beq_iff_eq] at hc
          obtain ⟨rfl, hc⟩ := hc
          obtain ⟨cs, h1, h2⟩ := ih l vs' hc hvs
          simp only [evRes1] at hv
          obtain ⟨hv1, hv2⟩ := ev0_some hv
          refine ⟨t.getD s undef :: cs, ⟨(hr s v hv1).to0 hv2, h1⟩, ?_⟩
          have h0 : (resF t (.tmp s)).run P w = .ok (t.getD s undef) w := rfl
          rw [List.mapM_cons, Sem.run_bind, h0, Result.andThen_ok, Sem.run_bind, h2, Result.andThen_ok, Sem.run_pure]
      | cell a T =>
        cases r' with
        | tmp => simp [chkRes] at hc
        | cell s' g n =>
          simp only [chkRes, Bool.and_eq_true, beq_iff_eq, decide_eq_true_eq] at hc
          obtain ⟨⟨⟨rfl, hg⟩, hs⟩, hc⟩ := hc
          obtain ⟨cs, h1, h2⟩ := ih l vs' hc hvs
          simp only [evRes1] at hv
          split at hv
          · rename_i p hp
            have hev : evR H e (.ld g n (.t a)) = some v := by simp only [evR, Env.ev, hp]; exact hv
            obtain ⟨c, hc1, hrun⟩ := r_ld (a := ⟨t, []⟩) (x := .tmp a) hr hH (by simp [chkX]) hg hs hev
            obtain ⟨lc, _, hpv⟩ := (hr a _ hp).ptr_inv
            have hw := ldTree_wf hH hv
            refine ⟨c :: cs, ⟨hc1.to0 (by rintro q rfl; simp [wf] at hw), h1⟩, ?_⟩
            simp only [Act.eval, hpv, Instr.loadAt, Instr.sureAddr] at hrun
            simp only [pure_bind] at hrun
            have h0 : (resF t (.cell a T)).run P w = .ok c w := by
              simp only [resF, hpv, asAddr, pure_bind]; exact hrun
            rw [List.mapM_cons, Sem.run_bind, h0, Result.andThen_ok, Sem.run_bind, h2, Result.andThen_ok, Sem.run_pure]
          · simp at hv

theorem results_sound {fn : Func} {l : List RRes} {vs : List AV} (hc : chkRes P fn.results.toList l = true) (h : evRess e H l = some vs) : ∃ c, RelV m (packR vs) c ∧ (results fn t).run P w = .ok c w := by
  obtain ⟨cs, h1, h2⟩ := res_sound hr hH (P := P) _ _ _ hc h
  have h3 : (fn.results.mapM (resF t)).run P w = .ok cs.toArray w := by
    have : fn.results = fn.results.toList.toArray := by simp
    rw [this, List.mapM_toArray]
    simp only [map_eq_pure_bind, Sem.run_bind, h2, Result.andThen_ok, Sem.run_pure]
  have hlen := h1.len
  rw [results_eq, Sem.run_bind, h3]
  simp only [Result.andThen_ok, Sem.run_pure]
  match vs, cs, h1, hlen with
  | [v], [c], h1, _ => exact ⟨c, by have := h1.1; cases v <;> first | exact this | (exact absurd this.1 (by simp [wf])), by simp⟩
  | [], [], _, _ => exact ⟨.tuple #[], ⟨#[], rfl, trivial⟩, by simp⟩
  | v1 :: v2 :: vs, c1 :: c2 :: cs, h1, _ => exact ⟨.tuple (c1 :: c2 :: cs).toArray, ⟨_, rfl, by simpa using h1⟩, by simp⟩

end

/-- What is asked of one function. -/
structure FSound1 (P : Program) (F : CallT) (f : Nat) : Prop where
  nx : ∀ args st out st', F f args st = some (out, st') → st.nx ≤ st'.nx
  dom : ∀ args st out st', F f args st = some (out, st') → ∀ y, st'.H y ≠ none → st.H y ≠ none ∨ (st.nx ≤ y ∧ y < st'.nx)
  enters : ∀ args st out st', F f args st = some (out, st') → ∀ (cargs : Array Value) (w : World), (callFunc f cargs).run P w = .ok (.enter f cargs) w
  calls : ∀ args st out st', F f args st = some (out, st') → ∀ (m : Mp) (w : World) (cargs : Array Value), RelH m st.H w → Unm m st.nx st'.nx → All2 (RelV m) args cargs.toList →
    Calls P f cargs w fun e w' => ∃ m', Post m st w m' st' w' ∧ match out with
      | .val v => ∃ c, e = .returned c ∧ RelV m' v c
      | .pan v => ∃ c, e = .panicked [{ v := c, recovered := false }] ∧ RelV m' v c

theorem freeL_dom {e : Env} {l : List Nat} {H : Mem} {y : Nat} (h : freeL e l H y ≠ none) : H y ≠ none := by
  obtain ⟨B, hB⟩ := Option.ne_none_iff_exists'.1 h
  rw [freeL_sub l H y B hB]; simp

section
variable {P : Program} {F : CallT} (hF : FSound P F)
include hF

theorem evRegion_dom : ∀ (l : List RI) (e : Env) (st : St) (x : X) (e' : Env) (st' : St), evRegion P F l e st = some (x, e', st') → ∀ y, st'.H y ≠ none → st.H y ≠ none ∨ (st.nx ≤ y ∧ y < st'.nx)
  | [], e, st, x, e', st', h, y, hy => by simp only [evRegion, Option.some.injEq, Prod.mk.injEq] at h; rw [h.2.2]; exact .inl hy
  | o :: r, e, st, x, e', st', h, y, hy => by
    simp only [evRegion] at h
    split at h
    · simp at h
    · exact evRegion_dom r _ _ _ _ _ h y hy
    · split at h
      · simp only [Option.bind_eq_some_iff] at h
        obtain ⟨v, _, h⟩ := h
        exact evRegion_dom r _ _ _ _ _ h y hy
      · simp only [Option.bind_eq_some_iff] at h
        obtain ⟨v, _, h⟩ := h
        exact evRegion_dom r _ _ _ _ _ h y hy
      · simp only [Option.bind_eq_some_iff] at h
        obtain ⟨⟨v, b⟩, _, h⟩ := h
        have hn := evRegion_nx hF _ _ _ _ _ _ h
        simp only at hn
        rcases evRegion_dom r _ _ _ _ _ h y hy with h1 | h1
        · by_cases hne : y = st.nx
          · exact .inr (by omega)
          · left; simpa [Mem.upd, hne] using h1
        · simp only at h1; exact .inr (by omega)
      · split at h
        · rename_i hq
          have h1 := domA hF hq
          have h2 := nxA hF hq
          have hn := evRegion_nx hF _ _ _ _ _ _ h
          rcases evRegion_dom r _ _ _ _ _ h y hy with h3 | h3
          · rcases h1 y h3 with h4 | h4
            · exact .inl h4
            · exact .inr (by omega)
          · exact .inr (by omega)
        · rename_i hq
          have h1 := domA hF hq
          simp only [Option.some.injEq, Prod.mk.injEq] at h
          rw [← h.2.2] at hy ⊢
          exact h1 y hy
        · simp at h

omit hF in
theorem live_dom {plan : Plan} {e e1 : Env} {st s1 : St} {h h1 : Mem} {old o1 : List Mem} {tr : List TE} {x : X} (d : LV P F plan e st h old tr x e1 s1 h1 o1) :
    ∀ y, s1.H y ≠ none → st.H y ≠ none ∨ (st.nx ≤ y ∧ y < s1.nx) := by
  induction d with
  | nil => exact fun y hy => .inl hy
  | @step e e1 st st' s1 h h' h1 old old' o1 tr x i r u rest v res hs d ih =>
    intro y hy
    have hle := hs.le
    have htop := hs.top
    have hnx := d.nx.1
    simp only at hle
    rcases ih y hy with h1 | h1
    · rcases hs.mem with ⟨_, _, _, _, hd, _⟩ | ⟨_, _, _, _, ⟨rfl, _⟩ | ⟨b, hres, hH⟩⟩
      · rcases hd y h1 with h2 | h2
        · exact .inl h2
        · simp only at h2; exact .inr (by omega)
      · exact .inl h1
      · rw [hH] at h1
        simp only at hres
        simp only [TE.top, hres] at htop
        by_cases hne : y = st.nx
        · exact .inr (by omega)
        · left; simpa [Mem.upd, hne] using h1
    · exact .inr (by omega)
  | pan hac hn hd hw hq hv d =>
    intro y hy
    have := d.nx.1
    rcases hd y hy with h | h
    · exact .inl h
    · exact .inr (by simp only; omega)

theorem evC_dom {n : Nat} : ∀ (c : RC) (e : Env) (st : St) (x : X) (e' : Env) (st' : St), evC P F n c e st = some (x, e', st') → ∀ y, st'.H y ≠ none → st.H y ≠ none ∨ (st.nx ≤ y ∧ y < st'.nx) := by
  have tr : ∀ {a b c : St}, (a.nx ≤ b.nx ∧ ∀ y, b.H y ≠ none → a.H y ≠ none ∨ (a.nx ≤ y ∧ y < b.nx)) → (b.nx ≤ c.nx ∧ ∀ y, c.H y ≠ none → b.H y ≠ none ∨ (b.nx ≤ y ∧ y < c.nx)) → (a.nx ≤ c.nx ∧ ∀ y, c.H y ≠ none → a.H y ≠ none ∨ (a.nx ≤ y ∧ y < c.nx)) := by
    rintro a b c ⟨h1, h2⟩ ⟨h3, h4⟩
    refine ⟨by omega, fun y hy => ?_⟩
    rcases h4 y hy with h | h
    · rcases h2 y h with h | h
      · exact .inl h
      · exact .inr (by omega)
    · exact .inr (by omega)
  intro c
  induction c with
  | skip => intro e st x e' st' h y hy; simp only [evC, Option.some.injEq, Prod.mk.injEq] at h; rw [h.2.2]; exact .inl hy
  | ret => intro e st x e' st' h y hy; simp only [evC, Option.some.injEq, Prod.mk.injEq] at h; rw [h.2.2]; exact .inl hy
  | exit => intro e st x e' st' h y hy; simp only [evC, Option.some.injEq, Prod.mk.injEq] at h; rw [h.2.2]; exact .inl hy
  | reg ops keep =>
    intro e st x e' st' h
    simp only [evC] at h
    obtain ⟨e0, h, _⟩ := keepR_some h
    exact evRegion_dom hF _ _ _ _ _ _ h
  | draw ops keep =>
    intro e st x e' st' h
    simp only [evC] at h
    obtain ⟨e0, h, _⟩ := keepR_some h
    obtain ⟨tr, h1, o1, L⟩ := live_trace hF _ _ _ _ _ _ _ _ h
    exact live_dom L
  | seq a b iha ihb =>
    intro e st x e' st' h
    simp only [evC] at h
    split at h
    · rename_i h1
      exact (tr ⟨evC_nx hF _ _ _ _ _ _ h1, iha _ _ _ _ _ h1⟩ ⟨evC_nx hF _ _ _ _ _ _ h, ihb _ _ _ _ _ h⟩).2
    · exact iha _ _ _ _ _ h
  | cond c a b iha ihb =>
    intro e st x e' st' h
    simp only [evC] at h
    split at h
    · split at h
      · exact iha _ _ _ _ _ h
      · exact ihb _ _ _ _ _ h
    · simp at h
  | block id c ih =>
    intro e st x e' st' h
    simp only [evC] at h
    split at h
    · rename_i h1
      have := ih _ _ _ _ _ h1
      split at h <;> (simp only [Option.some.injEq, Prod.mk.injEq] at h; rw [← h.2.2]; exact this)
    · exact ih _ _ _ _ _ h
  | loop keep c ih =>
    intro e st x e' st' h
    simp only [evC] at h
    exact (iter_some (p := fun a b => a.nx ≤ b.nx ∧ ∀ y, b.H y ≠ none → a.H y ≠ none ∨ (a.nx ≤ y ∧ y < b.nx)) (fun _ _ _ => tr) (fun e st x e' st' h => ⟨evC_nx hF _ _ _ _ _ _ h, ih _ _ _ _ _ h⟩) n e st x e' st' h).2
  | free l c ih =>
    intro e st x e' st' h
    simp only [evC] at h
    split at h
    · rename_i h1
      have := ih _ _ _ _ _ h1
      simp only [Option.some.injEq, Prod.mk.injEq] at h
      rw [← h.2.2]
      exact fun y hy => this y (freeL_dom hy)
    · exact ih _ _ _ _ _ h

theorem runF_sound (hm : P.follows .mixedOrders = true) {f n : Nat} {fn : Func} {r : RFn} (hf : P.funcs[f]? = some fn) (hc : chkF P fn r = true) : FSound1 P (fun _ args st => runF P F n r args st) f := by
  unfold chkF at hc
  simp only [Bool.and_eq_true, decide_eq_true_eq] at hc
  obtain ⟨⟨⟨hnp, hname⟩, hbody⟩, hres⟩ := hc
  split at hbody
  · rename_i body hb
    have inv : ∀ {args : List AV} {st : St} {out : Out} {st' : St}, runF P F n r args st = some (out, st') → args.length = r.np ∧ ∃ x e st1, evC P F n r.code (argEnv 0 args) st = some (x, e, st1) ∧
        (((x = .norm ∨ x = .ret) ∧ ∃ vs, evRess e st1.H r.res = some vs ∧ out = .val (packR vs) ∧ st' = ⟨freeL e r.drop st1.H, st1.nx⟩) ∨ (∃ v, x = .pan v ∧ out = .pan v ∧ st' = st1)) := by
      intro args st out st' h
      unfold runF at h
      split at h
      · rename_i hl
        refine ⟨hl, ?_⟩
        split at h
        · rename_i e1 st1 h1
          simp only [Option.map_eq_some_iff, Prod.mk.injEq] at h
          obtain ⟨vs, hvs, rfl, rfl⟩ := h
          exact ⟨_, _, _, h1, .inl ⟨.inl rfl, vs, hvs, rfl, rfl⟩⟩
        · rename_i e1 st1 h1
          simp only [Option.map_eq_some_iff, Prod.mk.injEq] at h
          obtain ⟨vs, hvs, rfl, rfl⟩ := h
          exact ⟨_, _, _, h1, .inl ⟨.inr rfl, vs, hvs, rfl, rfl⟩⟩
        · rename_i v _ st1 h1
          simp only [Option.some.injEq, Prod.mk.injEq] at h
          obtain ⟨rfl, rfl⟩ := h
          exact ⟨_, _, _, h1, .inr ⟨v, rfl, rfl, rfl⟩⟩
        · simp at h
      · simp at h
    refine ⟨?_, ?_, ?_, ?_⟩
    · intro args st out st' h
      obtain ⟨_, x, e, st1, h1, h2⟩ := inv h
      have := evC_nx hF _ _ _ _ _ _ h1
      rcases h2 with ⟨_, _, _, _, rfl⟩ | ⟨_, _, _, rfl⟩ <;> exact this
    · intro args st out st' h
      obtain ⟨_, x, e, st1, h1, h2⟩ := inv h
      have := evC_dom hF _ _ _ _ _ _ h1
      rcases h2 with ⟨_, _, _, _, rfl⟩ | ⟨_, _, _, rfl⟩
      · exact fun y hy => this y (freeL_dom hy)
      · exact this
    · intro args st out st' h cargs w
      have hn : fn.name ≠ "runtime.NumGoroutine" := by simpa using hname
      simp [callFunc, program, hf, hn, hb, Sem.run]
    · intro args st out st' h m w cargs hH hu ha
      obtain ⟨hl, x, e, st1, h1, h2⟩ := inv h
      have hsz : cargs.size = r.np := by rw [← hl]; simpa using ha.len.symm
      refine calls_of_wp hf hb ?_
      have hnx : st1.nx = st'.nx := by rcases h2 with ⟨_, _, _, _, rfl⟩ | ⟨_, _, _, rfl⟩ <;> rfl
      refine code_sound hF hm r.code body m (argEnv 0 args) st _ w x e st1 _ hbody h1 ?_ ?_ hH (by rw [hnx]; exact hu) ?_
      · intro s v hv
        obtain ⟨_, hv⟩ := argEnv_get _ _ _ _ hv
        obtain ⟨c, hc, hrel⟩ := All2.get ha _ v hv
        simp only [Nat.sub_zero] at hc
        have : (cargs ++ Array.replicate (fn.ntmps - cargs.size) undef)[s]? = some c := by
          rw [Array.getElem?_append_left]
          · simpa using hc
          · have := (List.getElem?_eq_some_iff.1 hc).1; simpa using this
        rw [Array.getD_eq_getD_getElem?, this]
        exact hrel
      · simp; omega
      · rintro ex a' w' ⟨m', hp, hx, hre, hs, hd⟩
        rcases h2 with ⟨hxx, vs, hvs, rfl, rfl⟩ | ⟨v, rfl, rfl, rfl⟩
        · obtain ⟨c, hc1, hrun⟩ := results_sound (P := P) hre hp.rel hres hvs
          have fin : a'.defers = [] ∧ ∃ v, (results fn a'.tmps).run P w' = .ok v w' ∧ (∃ m'', Post m st w m'' ⟨freeL e r.drop st1.H, st1.nx⟩ w' ∧ ∃ c, Ending.returned v = .returned c ∧ RelV m'' (packR vs) c) :=
            ⟨hd, c, hrun, m', hp.forget fun i B hi => freeL_sub _ _ i B hi, c, rfl, hc1⟩
          rcases hxx with rfl | rfl
          · cases ex <;> simp only [RelX] at hx; exact fin
          · cases ex <;> simp only [RelX] at hx; exact fin
        · cases ex <;> simp only [RelX] at hx
          obtain ⟨c, hc1, rfl⟩ := hx
          exact ⟨hd, m', hp, c, rfl, hc1⟩
  · simp at hbody

end

/-- Every call is sound. -/
theorem callF_sound {P : Program} {prog : Nat → Option RFn} {spec : Nat → Option (CallT → CallT)} (hm : P.follows .mixedOrders = true)
    (hprog : ∀ f r, prog f = some r → ∃ fn, P.funcs[f]? = some fn ∧ chkF P fn r = true) (hspec : ∀ f s F, spec f = some s → FSound P F → FSound1 P (s F) f) : ∀ n, FSound P (callF P prog spec n) := by
  intro n
  induction n with
  | zero =>
    exact ⟨fun f args st out st' h => by simp [callF] at h, fun f args st out st' h => by simp [callF] at h, fun f args st out st' h => by simp [callF] at h, fun f args st out st' h => by simp [callF] at h⟩
  | succ n ih =>
    have key : ∀ f args st out st', callF P prog spec (n + 1) f args st = some (out, st') → ∃ F, FSound1 P F f ∧ F f args st = some (out, st') := by
      intro f args st out st' h
      simp only [callF] at h
      split at h
      · rename_i s hs
        exact ⟨_, hspec f s _ hs ih, h⟩
      · split at h
        · rename_i r hr
          obtain ⟨fn, hfn, hc⟩ := hprog f r hr
          exact ⟨_, runF_sound ih hm hfn hc, h⟩
        · simp at h
    refine ⟨?_, ?_, ?_, ?_⟩
    · intro f args st out st' h
      obtain ⟨F, hF, h⟩ := key _ _ _ _ _ h
      exact hF.nx _ _ _ _ h
    · intro f args st out st' h
      obtain ⟨F, hF, h⟩ := key _ _ _ _ _ h
      exact hF.dom _ _ _ _ h
    · intro f args st out st' h
      obtain ⟨F, hF, h⟩ := key _ _ _ _ _ h
      exact hF.enters _ _ _ _ h
    · intro f args st out st' h
      obtain ⟨F, hF, h⟩ := key _ _ _ _ _ h
      exact hF.calls _ _ _ _ h

end Go.AM
