/-
  Rounds of a range over a function.
-/
import Derived.Test.YthbekoofiienjaaDoorAbSound
namespace Go.Ab
open Go

section
variable {K : Nat → C → Code → Prop} {P : Program} {T : Nat → Option TyI} {G : Nat → List AV} {gl : List Nat} {fs : Nat → Option F}

theorem er_fold {V : Vw} : ∀ (ps : List Nat) (args : List AV) (cs : List Value) (env : Env) (tmps : Array Value), ps.length = args.length → args.length = cs.length →
    (∀ (j : Nat) (v : AV), args[j]? = some v → VR V v (cs.getD j Go.undef)) → (∀ p ∈ ps, p < tmps.size) → ER V env tmps →
    ER V ((ps.zip args).reverse ++ env) ((ps.zip cs).foldl (fun t p => t.setIfInBounds p.1 p.2) tmps) ∧ ((ps.zip cs).foldl (fun t p => t.setIfInBounds p.1 p.2) tmps).size = tmps.size
  | [], args, cs, env, tmps, h1, h2, _, _, hE => by simpa using hE
  | p :: ps, [], cs, env, tmps, h1, h2, _, _, hE => by simp at h1
  | p :: ps, v :: args, [], env, tmps, h1, h2, _, _, hE => by simp at h2
  | p :: ps, v :: args, x :: cs, env, tmps, h1, h2, hv, hp, hE => by
    have h0 := hE.put (d := some p) (v := v) (x := x) (by simpa using hv 0 v rfl) (fun t ht => by cases ht; exact hp p (by simp))
    obtain ⟨k1, k2⟩ := er_fold ps args cs ((p, v) :: env) (tmps.setIfInBounds p x) (by simpa using h1) (by simpa using h2) (fun j w hj => by simpa using hv (j + 1) w (by simpa using hj)) (fun q hq => by simpa using hp q (by simp [hq])) h0
    refine ⟨?_, by simpa using k2⟩
    simpa using k1

theorem exCode_isNone {x : Ex} : (exCode x).isNone = (x == .nrm) := by cases x <;> rfl

theorem st_cons {s : St} {n : Nat} (h : s.length = n + 1) : ∃ f r, s = f :: r ∧ r.length = n := by
  cases s with
  | nil => simp at h
  | cons f r => exact ⟨f, r, rfl, by simpa using h⟩

/-- A record of a loop, looked up. -/
theorem loop_at {c : Cf} {s : St} {l i b : Nat} {env : Env} {h : Nat} {ps : List Nat} {asg body : C} {rdy : Bool} {pend : Ex} (hI : Inv K c s) (hg : getObj s l i = some (.loop env h ps asg body rdy pend)) (hb : c.sg l i = some b) :
    ∃ L : Loop, c.w.heap[b]? = some (.loop L) ∧ L.state = (if rdy = true then .ready else if pend = .nrm then .busy else .done) ∧ L.pending = exCode pend ∧ L.params.toList = ps ∧ ER c.vw env L.tmps ∧ K L.tmps.size asg L.assign ∧ K L.tmps.size body L.body ∧ ∀ p ∈ ps, p < L.tmps.size := by
  obtain ⟨b', h1, L, h2, h3, h4, _, h5, h6, h7, h8, h9⟩ := hI.obj l i _ hg rfl
  rw [hb] at h1; cases h1
  exact ⟨L, h2, h3, h4, h5, h6, h7, h8, h9⟩

/-- A loop's record is written: its state, its pending jump. -/
theorem loop_set {c : Cf} {s : St} {l i b : Nat} {env : Env} {h : Nat} {ps : List Nat} {asg body : C} {rdy rdy' : Bool} {pend pend' : Ex} {L : Loop} {st : LoopState} (hI : Inv K c s) (hg : getObj s l i = some (.loop env h ps asg body rdy pend)) (hb : c.sg l i = some b)
    (hL : c.w.heap[b]? = some (.loop L)) (hst : st = (if rdy' = true then .ready else if pend' = .nrm then .busy else .done)) (hp : rdy' = true → pend' = .nrm) :
    ∃ c', c'.w = c.w.putObj b (.loop { L with state := st, pending := exCode pend' }) ∧ Inv K c' (setObj s l i (.loop env h ps asg body rdy' pend')) ∧ Ext c c' := by
  obtain ⟨L', k1, k2, k3, k4, k5, k6, k7, k8⟩ := loop_at hI hg hb
  rw [hL] at k1; cases k1
  obtain ⟨i1, x1⟩ := inv_set (w' := c.w.putObj b (.loop { L with state := st, pending := exCode pend' })) hI (o := .loop env h ps asg body rdy' pend') (show Ab.lowO l (.loop env h ps asg body rdy' pend') from (hI.lowO _ _ _ hg : Ab.lowO l (.loop env h ps asg body rdy pend))) (by simp) hb hg (sameIO_put hL (by simp) (by simp)) (fun b' hne => World.putObj_heap_other hne) World.putObj_size
    (fun r _ => ⟨_, World.putObj_heap_same (heap_lt hL)⟩) (fun hE => ⟨_, World.putObj_heap_same (heap_lt hL), hst, rfl, hp, k4, k5.ext hE, k6, k7, k8⟩)
  exact ⟨_, rfl, i1, x1⟩

theorem leave_len {mv : Bool} {s1 s s' : St} {v r : AV} (hl : s1.length = s.length + 1) (h : leave mv s.length s1 v = some (r, s')) : s'.length = s.length := by
  unfold leave at h
  split at h
  · split at h
    · simp only [Option.bind_eq_some_iff, Option.map_eq_some_iff, Prod.mk.injEq] at h
      obtain ⟨_, _, _, _, _, rfl⟩ := h
      simpa using hl
    · cases h
  · simp only [Option.map_eq_some_iff, Prod.mk.injEq] at h
    obtain ⟨_, _, _, rfl⟩ := h
    simp; omega

theorem fr_len (fs : Nat → Option F) : ∀ n, LenOK (evFR G fs n).1 (evFR G fs n).2
  | 0 => ⟨fun k args s r s' h => by simp [evFR] at h, fun l i args s r s' h => by simp [evFR] at h⟩
  | n + 1 => by
    have ih := fr_len fs n
    refine ⟨fun k args s r s' h => ?_, fun l i args s r s' h => ?_⟩
    · simp only [evFR, Option.bind_eq_some_iff, Option.ite_none_right_eq_some, Prod.exists] at h
      obtain ⟨fn, _, _, x, e, s1, h1, h2⟩ := h
      have hl := evC_len ih n _ _ _ _ _ _ h1
      cases x with
      | exit i => cases h2
      | nrm => simp only [Option.bind_eq_some_iff] at h2; obtain ⟨vs, _, h3⟩ := h2; exact leave_len (by simpa using hl) h3
      | ret => simp only [Option.bind_eq_some_iff] at h2; obtain ⟨vs, _, h3⟩ := h2; exact leave_len (by simpa using hl) h3
    · simp only [evFR] at h
      split at h
      case h_2 => cases h
      rw [Option.ite_none_right_eq_some] at h
      obtain ⟨_, h⟩ := h
      simp only [Option.bind_eq_some_iff, Prod.exists] at h
      obtain ⟨x, e, s1, h1, h2⟩ := h
      have hl := evC_len ih n _ _ _ _ _ _ h1
      split at h2
      case h_2 => cases h2
      simp only [Option.bind_eq_some_iff, Prod.exists] at h2
      obtain ⟨x2, e2, s2, h3, h4⟩ := h2
      have hl2 := evC_len ih n _ _ _ _ _ _ h3
      split at h4
      case h_2 => cases h4
      simp only [Option.some.injEq, Prod.mk.injEq] at h4
      obtain ⟨_, rfl⟩ := h4
      rw [setObj_length] at hl2
      simp only [List.length_tail, setObj_length]
      simp at hl; omega

theorem round_ok {n : Nat} (hTab : TabOK P T) (hC : CallOK (KK P T gl) P G gl (evFR G fs n).1) (hR : RoundOK (KK P T gl) P G gl (evFR G fs n).2) : RoundOK (KK P T gl) P G gl (evFR G fs (n + 1)).2 := by
  intro l i args s s' r c b cargs h hI hb hargs hG
  have hL := fr_len (G := G) fs n
  simp only [evFR] at h
  split at h
  case h_2 => cases h
  rename_i env hh ps asg body hg
  rw [Option.ite_none_right_eq_some] at h
  obtain ⟨hlen, h⟩ := h
  simp only [Option.bind_eq_some_iff, Prod.exists] at h
  obtain ⟨x, e1, s1, h1, h2⟩ := h
  split at h2
  case h_2 => cases h2
  rename_i env1 h1' ps1 asg1 body1 hg1
  simp only [Option.bind_eq_some_iff, Prod.exists] at h2
  obtain ⟨x2, e2, s2, h3, h4⟩ := h2
  split at h4
  case h_2 => cases h4
  rename_i env2 h2' ps2 asg2 body2 hg2
  simp only [Option.some.injEq, Prod.mk.injEq] at h4
  obtain ⟨rfl, rfl⟩ := h4
  obtain ⟨L, k1, k2, k3, k4, k5, k6, k7, k8⟩ := loop_at hI hg hb
  have hps : L.params.size = ps.length := by rw [← k4]; simp
  have hl0 := getObj_lt hg
  have hlow := (hI.lowO _ _ _ hg).2
  have hlen1 := evC_len hL n _ _ _ _ _ _ h1
  have hlen2 := evC_len hL n _ _ _ _ _ _ h3
  rw [setObj_length] at hlen2
  refine ⟨L, k1, by rw [hps, hlen]; exact hargs.1.symm, fun n' => ?_⟩
  have hfold : (L.params.zip cargs).foldl (fun tmps (t, a) => tmps.setIfInBounds t a) L.tmps = (ps.zip cargs.toList).foldl (fun t p => t.setIfInBounds p.1 p.2) L.tmps := by
    rw [← Array.foldl_toList, Array.toList_zip, k4]
  obtain ⟨g1, g2⟩ := er_fold ps args cargs.toList env L.tmps hlen (by simpa using hargs.1) (fun j v hj => by have := hargs.2 j v hj; simpa using this) k8 k5
  rw [hfold]
  refine roundIn_of_wpIn (F := Fence.wide) trivial ?_
  have w1 := evC_wp (N := L.tmps.size) (ro := some b) (n := n') (D0 := c.df) hTab hC hR hL asg L.assign _ e1 (⟨[], []⟩ :: s) s1 .nrm c { tmps := (ps.zip cargs.toList).foldl (fun t p => t.setIfInBounds p.1 p.2) L.tmps, defers := [] } [] h1 k6 (inv_push hI) ⟨g1, hG⟩ g2 (by simp; omega)
    (fun b' hb' => by cases hb'; exact ⟨L, k1⟩) rfl rfl
  refine wpIn_mono w1 ?_
  rintro ex a1 w' ⟨rfl, c1, D1, rfl, i1, x1, v1, n1, d1, df1, r1⟩
  have hb1 := x1.sg l i b hb
  obtain ⟨L1, m1, m2, m3, _⟩ := loop_at i1 hg1 hb1
  obtain ⟨c2, hw2, i2, x2'⟩ := loop_set (rdy' := false) (pend' := .nrm) (st := .busy) i1 hg1 hb1 m1 rfl (by simp)
  have hD1 : D1 = [] := r1 rfl
  subst hD1
  refine ⟨c2.w, ?_, ?_⟩
  · rw [run_beginRound m1 (by rw [m2]; rfl), hw2]
    have : L1.pending = none := by rw [m3]; rfl
    simp [exCode, ← this]
  have w2 := evC_wp (N := L.tmps.size) (ro := some b) (n := n') (D0 := c.df) hTab hC hR hL body L.body e1 e2 _ s2 x2 c2 a1 [] h3 k7 i2 (v1.ext x2') n1 (by rw [setObj_length, hlen1]; simp; omega)
    (fun b' hb' => by cases hb'; exact ⟨_, by rw [hw2]; exact World.putObj_heap_same (heap_lt m1)⟩) d1 (by rw [x2'.df]; exact df1)
  refine wpIn_mono w2 ?_
  rintro ex a2 w' ⟨rfl, c3, D3, rfl, i3, x3, v3, n3, d3, df3, r3⟩
  have hb3 := x3.sg l i b (x2'.sg l i b hb1)
  obtain ⟨L3, q1, q2, q3, _⟩ := loop_at i3 hg2 hb3
  obtain ⟨c4, hw4, i4, x4⟩ := loop_set (rdy' := x2 == .nrm) (pend' := x2) (st := if (exCode x2).isNone = true then .ready else .done) i3 hg2 hb3 q1 (by cases x2 <;> rfl) (by cases x2 <;> simp)
  have hD3 : D3 = [] := r3 rfl
  subst hD3
  have hend : (Instr.endRound b (exCode x2)).run P c3.w = .ok (.bool (x2 == .nrm)) c4.w := by
    rw [run_endRound _ q1, hw4, exCode_isNone]
  obtain ⟨f4, r4, hs4, hl4⟩ := st_cons (s := setObj s2 l i (.loop env2 h2' ps2 asg2 body2 (x2 == .nrm) x2)) (n := s.length) (by rw [setObj_length, hlen2, hlen1]; simp)
  have hret : Ret (KK P T gl) c (setObj s2 l i (.loop env2 h2' ps2 asg2 body2 (x2 == .nrm) x2)).tail (.bool (x2 == .nrm)) (.returned (.bool (x2 == .nrm))) c4.w := by
    rw [hs4] at i4 ⊢
    have hp := inv_pop i4
    have hx := extB_pop hI (((x1.trans x2'.toExtB).trans x3).trans x4.toExtB)
    rw [hl4] at hp
    exact ⟨c4.below s.length, rfl, hp, ⟨hx, by show c4.df = c.df; rw [x4.df, df3]; rfl⟩, .bool _⟩
  cases x2 with
  | nrm => exact ⟨_, c4.w, hend, hret⟩
  | exit j => exact ⟨_, c4.w, hend, hret⟩
  | ret => exact ⟨_, c4.w, hend, hret⟩
end
end Go.Ab
