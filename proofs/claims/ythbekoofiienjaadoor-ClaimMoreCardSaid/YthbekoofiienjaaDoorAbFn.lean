/-
  A function of the table: what is checked of it; its call does in memory what it does abstractly.
-/
import Derived.Test.YthbekoofiienjaaDoorAbMv
namespace Go.Ab
open Go

def resOK (T : Nat → Option TyI) : List RV → List ResultVar → Bool
  | [], [] => true
  | .tmp t :: l, .tmp u :: r => (t == u) && resOK T l r
  | .cell t n ag :: l, .cell u ty :: r => (t == u) && agOK T ty n ag && resOK T l r
  | _, _ => false

/-- A function against the program's. -/
def chkF (T : Nat → Option TyI) (gl : List Nat) (guard : Nat → Bool) (mixed : Bool) (f : F) (fn : Func) : Bool :=
  (match fn.body with | some y => chkC T gl guard mixed fn.ntmps f.body y | none => false) && resOK T f.res fn.results.toList && decide (f.np ≤ fn.ntmps) && fn.name != "runtime.NumGoroutine"

section
variable {K : Nat → C → Code → Prop} {P : Program} {T : Nat → Option TyI} {G : Nat → List AV} {gl : List Nat} {fs : Nat → Option F} {c : Cf} {s : St} {e : Env} {a : Act}

theorem env_get : ∀ (args : List AV) (n t : Nat), Env.get ((args.zipIdx n).map fun (v, i) => (i, v)) t = if n ≤ t then (args[t - n]?).getD .undef else .undef
  | [], n, t => by simp [Env.get]
  | v :: args, n, t => by
    simp only [List.zipIdx_cons, List.map_cons, Env.get, Nat.beq_eq]
    rw [env_get args (n + 1) t]
    by_cases h : n = t
    · subst h; simp
    · rw [if_neg h]
      by_cases h2 : n ≤ t
      · have : t - n = (t - (n + 1)) + 1 := by omega
        rw [if_pos (by omega), if_pos h2, this]; simp
      · rw [if_neg (by omega), if_neg h2]

theorem er_enter {V : Vw} {args : List AV} {cargs : Array Value} {n : Nat} (h : VRs V args cargs) : ER V (args.zipIdx.map fun (v, i) => (i, v)) (cargs ++ Array.replicate n Go.undef) := by
  intro t
  rw [env_get, if_pos (Nat.zero_le _), Nat.sub_zero]
  cases ht : args[t]? with
  | none => exact .undef _
  | some v =>
    have hlt : t < cargs.size := by
      rw [← h.1]
      rcases Nat.lt_or_ge t args.length with h | h
      · exact h
      · rw [List.getElem?_eq_none h] at ht; cases ht
    have := h.2 t v ht
    rw [getD_app hlt]; exact this

def resF (tmps : Array Value) : ResultVar → Sem Value
  | .tmp t => pure (tmps.getD t Go.undef)
  | .cell b t => do loadVar t (← asAddr (tmps.getD b Go.undef))

theorem results_eq (fn : Func) (tmps : Array Value) : results fn tmps = (do let vs ← fn.results.mapM (resF tmps); pure (if h : vs.size = 1 then vs[0] else .tuple vs)) := by
  unfold results
  have : (fun x => resF tmps x) = resF tmps := rfl
  rw [← this]
  congr 2

theorem res_list (hTab : TabOK P T) (hI : Inv K c s) (hE : Ev c.vw G gl e a) : ∀ {l : List RV} {r : List ResultVar} {vs : List AV}, resOK T l r = true → resV s e l = some vs →
    ∃ cvs : List Value, (r.mapM (resF a.tmps)).run P c.w = .ok cvs c.w ∧ vs.length = cvs.length ∧ ∀ (j : Nat) (v : AV), vs[j]? = some v → VR c.vw v (cvs.getD j Go.undef)
  | [], [], vs, _, hv => by
    simp only [resV, Option.some.injEq] at hv
    subst hv
    exact ⟨[], by simp, rfl, by simp⟩
  | [], _ :: _, vs, h, _ => by simp [resOK] at h
  | .tmp t :: l, [], vs, h, _ => by simp [resOK] at h
  | .cell .. :: l, [], vs, h, _ => by simp [resOK] at h
  | .tmp _ :: l, .cell .. :: r, vs, h, _ => by simp [resOK] at h
  | .cell .. :: l, .tmp _ :: r, vs, h, _ => by simp [resOK] at h
  | .tmp t :: l, .tmp u :: r, vs, h, hv => by
    simp only [resOK, Bool.and_eq_true, beq_iff_eq] at h
    obtain ⟨rfl, h⟩ := h
    simp only [resV, Option.map_eq_some_iff] at hv
    obtain ⟨vs', h1, rfl⟩ := hv
    obtain ⟨cvs, k1, k2, k3⟩ := res_list hTab hI hE h h1
    refine ⟨a.tmps.getD t Go.undef :: cvs, by rw [List.mapM_cons, show resF a.tmps (.tmp t) = pure (a.tmps.getD t Go.undef) from rfl]; simp only [Sem.run_bind, Sem.run_pure, Result.andThen_ok, k1], by simp [k2], fun j v hj => ?_⟩
    cases j with
    | zero => simp at hj; subst hj; simpa using hE.er t
    | succ j => simpa using k3 j v (by simpa using hj)
  | .cell t n ag :: l, .cell u ty :: r, vs, h, hv => by
    simp only [resOK, Bool.and_eq_true, beq_iff_eq] at h
    obtain ⟨⟨rfl, h0⟩, h⟩ := h
    obtain ⟨i, t1, t2, t3⟩ := agOK_ok h0
    simp only [resV, Option.bind_eq_some_iff, Option.map_eq_some_iff] at hv
    obtain ⟨cl, h1, v0, h2, vs', h3, rfl⟩ := hv
    obtain ⟨cvs, k1, k2, k3⟩ := res_list hTab hI hE h h3
    obtain ⟨cv, r1, r2⟩ := r_load hI (hTab _ _ t1) t2 t3 h1 h2 (hE.er t)
    have haddr : ∃ ad, a.tmps.getD t Go.undef = .pointer (some ad) := by
      have := hE.er t
      generalize a.tmps.getD t Go.undef = pv at this
      generalize e.get t = av at this h1
      cases this <;> simp [cellsAt] at h1
      · exact ⟨_, rfl⟩
      · exact ⟨_, rfl⟩
    obtain ⟨ad, had⟩ := haddr
    have hload : (loadVar ty ad).run P c.w = .ok cv c.w := by
      rw [had] at r1
      unfold Instr.loadAt at r1
      simpa [Instr.sureAddr] using r1
    have hA : asAddr (Value.pointer (some ad)) = pure ad := rfl
    refine ⟨cv :: cvs, by rw [List.mapM_cons, show resF a.tmps (.cell t ty) = (do loadVar ty (← asAddr (a.tmps.getD t Go.undef))) from rfl, had, hA]; simp only [Sem.run_bind, Sem.run_pure, Result.andThen_ok, hload, k1], by simp [k2], fun j v hj => ?_⟩
    cases j with
    | zero => simp at hj; subst hj; simpa using r2
    | succ j => simpa using k3 j v (by simpa using hj)

theorem results_ok (hTab : TabOK P T) (hI : Inv K c s) (hE : Ev c.vw G gl e a) {l : List RV} {fn : Func} {vs : List AV} (h : resOK T l fn.results.toList = true) (hv : resV s e l = some vs) :
    ∃ cv, (results fn a.tmps).run P c.w = .ok cv c.w ∧ VR c.vw (oneV vs) cv := by
  obtain ⟨cvs, k1, k2, k3⟩ := res_list hTab hI hE h hv
  have hm : (fn.results.mapM (resF a.tmps)).run P c.w = .ok cvs.toArray c.w := by
    rw [Array.mapM_eq_mapM_toList]
    simp [k1]
  refine ⟨if h : cvs.toArray.size = 1 then cvs.toArray[0] else .tuple cvs.toArray, ?_, ?_⟩
  · rw [results_eq, Sem.run_bind, hm, Result.andThen_ok]
    rfl
  · match vs, cvs, k2, k3 with
    | [], [], _, _ => exact .tup [] #[] rfl (by simp)
    | [v], [x], _, k3 => simpa [oneV] using k3 0 v rfl
    | v :: w :: r, x :: y :: q, k2, k3 =>
      simp only [oneV]
      rw [dif_neg (by simp)]
      exact .tup _ _ (by simpa using k2) (fun j u hj => by have := k3 j u hj; simpa using this)

/-- A block for deferred calls is shut. -/
theorem inv_undf {c0 c : Cf} {d : Nat} {Dr : List Nat} (hI : Inv K c s) (hd : c.df = d :: Dr) (hx : ExtB c0 c) :
    (Instr.takeDeferred d).run P c.w = .ok [] (c.w.putObj d (.deferred none)) ∧ Inv K { c with w := c.w.putObj d (.deferred none), df := Dr } s ∧ ExtB c0 { c with w := c.w.putObj d (.deferred none), df := Dr } ∧
    ∀ l, Le l c.vw (Cf.vw { c with w := c.w.putObj d (.deferred none), df := Dr }) := by
  obtain ⟨h1, h2, h3⟩ := hI.dfw d (by rw [hd]; simp)
  have hdn : d ∉ Dr := by have := hI.dfn; rw [hd] at this; exact (List.nodup_cons.1 this).1
  have hmine : ∀ b o, Cf.mine { c with w := c.w.putObj d (.deferred none), df := Dr } b o → c.mine b o := by
    intro b o h
    rcases h with h | h | h
    · exact .inl h
    · exact .inr (.inl h)
    · exact .inr (.inr (by rw [hd]; exact List.mem_cons_of_mem _ h))
  have hown : ∀ b o, Cf.own { c with w := c.w.putObj d (.deferred none), df := Dr } b o → c.own b o := by
    intro b o h
    rcases h with h | h
    · exact .inl h
    · exact .inr (hmine b o h)
  have hdm : ∀ o, c.mine d o := fun o => .inr (.inr (by rw [hd]; simp))
  have hcell : ∀ (b o : Nat) (x : Value), c.w.cell? ⟨b, o, none⟩ = some x → (c.w.putObj d (.deferred none)).cell? ⟨b, o, none⟩ = some x := by
    intro b o x h
    by_cases hb : b = d
    · subst hb; simp [World.cell?, h1] at h
    · unfold World.cell? at *
      rw [World.putObj_heap_other hb]; exact h
  have hLe : ∀ l, Le l c.vw (Cf.vw { c with w := c.w.putObj d (.deferred none), df := Dr }) := fun l =>
    { cell := fun b o x hx' ho => ⟨hcell b o x hx', fun hn => ho (hown b o hn)⟩
      map := fun b e k hb ho => ⟨by
        show (c.w.putObj d (.deferred none)).heap[b]? = _
        rw [World.putObj_heap_other (fun hb' => by subst hb'; have hb2 : c.w.heap[b]? = some (.map e k) := hb; rw [h1] at hb2; cases hb2)]; exact hb, fun o hn => ho o (hown b o hn)⟩
      sg := fun l' i b _ h => h
      tk := fun l' p r _ h => ⟨r, h, .inl rfl⟩ }
  refine ⟨run_takeDeferred h1, ?_, ?_, hLe⟩
  · exact { hI with
      obj := fun l i o ho hlv => by
        obtain ⟨b, k1, k2⟩ := hI.obj l i o ho hlv
        exact ⟨b, k1, k2.mono (fun v x hv => by obtain ⟨l, hl⟩ := low_exists v; exact hv.le (hLe l) (hl l (Nat.le_refl _))) (World.putObj_heap_other fun hb => h2 l i (by rw [← hb]; exact k1))⟩
      Xw := fun b o h => by simpa using hI.Xw b o h
      sgw := fun l i b h => by simpa using hI.sgw l i b h
      tkb := fun l p r h he => by
        obtain ⟨cs, el, k1, k2, k3, k4⟩ := hI.tkb l p r h he
        exact ⟨cs, el, by rw [World.putObj_heap_other (fun hb => by rw [hb, h1] at k1; cases k1)]; exact k1, k2, k3, k4⟩
      dfw := fun d' hd' => by
        obtain ⟨k1, k2, k3⟩ := hI.dfw d' (by rw [hd]; exact List.mem_cons_of_mem _ hd')
        exact ⟨by rw [World.putObj_heap_other (fun hb => by subst hb; exact hdn hd')]; exact k1, k2, k3⟩
      dfn := by have := hI.dfn; rw [hd] at this; exact (List.nodup_cons.1 this).2 }
  · exact {
      X := hx.X
      k1 := fun b hb ho => by
        show (c.w.putObj d (.deferred none)).heap[b]? = _
        rw [World.putObj_heap_other (fun hb' => by subst hb'; exact ho 0 (hx.ow b 0 hb (hdm 0)))]; exact hx.k1 b hb ho
      k2 := fun b o x h ho => hcell b o x (hx.k2 b o x h ho)
      k3 := by show _ ≤ (c.w.putObj d (.deferred none)).heap.size; rw [World.putObj_size]; exact hx.k3
      ow := fun b o hb h => hx.ow b o hb (hmine b o h)
      sg := hx.sg
      tk := hx.tk
      lp := fun b r h => by
        obtain ⟨r', h'⟩ := hx.lp b r h
        exact ⟨r', by
          show (c.w.putObj d (.deferred none)).heap[b]? = _
          rw [World.putObj_heap_other (fun hb' => by subst hb'; rw [h1] at h'; cases h')]; exact h'⟩
      io := hx.io.trans (sameIO_put h1 (by simp) (by simp)) }

/-- The marks of the loops' blocks are come to, then the results are read. -/
theorem marks_ok {pf : Func} {tmps : Array Value} {n : Nat} {R : Ending → World → Prop} {c0 : Cf} {D0 : List Nat} {e : Env} (hE : ∀ (c' : Cf), Ev c'.vw G gl e { tmps := tmps, defers := [] } → Inv K c' s → ExtB c0 c' → c'.df = D0 → ∃ v, (results pf tmps).run P c'.w = .ok v c'.w ∧ R (.returned v) c'.w) :
    ∀ (D : List Nat) (c : Cf), Inv K c s → ExtB c0 c → c.df = D ++ D0 → Ev c.vw G gl e { tmps := tmps, defers := [] } → LeavesInM Fence.wide n P pf tmps R (D.map markOf) .returning c.w
  | [], c, hI, hx, hd, hv => by
    obtain ⟨v, h1, h2⟩ := hE c hv hI hx hd
    exact ⟨v, h1, h2⟩
  | d :: D, c, hI, hx, hd, hv => by
    obtain ⟨k1, k2, k3, k4⟩ := inv_undf (P := P) (Dr := D ++ D0) hI hd hx
    refine ⟨by simp, .inl ⟨d, _, rfl, k1, ?_⟩⟩
    refine marks_ok hE D _ k2 k3 rfl ⟨fun t => ?_, fun g hg => ?_⟩
    · obtain ⟨l, hl⟩ := low_exists (e.get t)
      exact (hv.er t).le (k4 l) (hl l (Nat.le_refl _))
    · exact (hv.gl g hg).keep (k4 0).toKeeps rfl

theorem call_ok {n : Nat} (hTab : TabOK P T) (hF : ∀ k f, fs k = some f → ∃ pf, P.funcs[k % 1000]? = some pf ∧ chkF T gl (P.eqGuardType P.depth) (P.follows .mixedOrders) f pf = true)
    (hC : CallOK (KK P T gl) P G gl (evFR G fs n).1) (hR : RoundOK (KK P T gl) P G gl (evFR G fs n).2) : CallOK (KK P T gl) P G gl (evFR G fs (n + 1)).1 := by
  intro k args s s' r c cargs h hI hargs hG
  have hL := fr_len (G := G) fs n
  have hlen0 := (fr_len (G := G) fs (n + 1)).1 _ _ _ _ _ h
  refine ⟨hlen0, ?_⟩
  simp only [evFR, Option.bind_eq_some_iff, Option.ite_none_right_eq_some, Prod.exists] at h
  obtain ⟨f, hf, hnp, x, e, s1, h1, h2⟩ := h
  obtain ⟨pf, hpf, hck⟩ := hF k f hf
  simp only [chkF, Bool.and_eq_true, decide_eq_true_eq, bne_iff_ne, ne_eq] at hck
  obtain ⟨⟨⟨hbody, hres⟩, hnt⟩, hname⟩ := hck
  split at hbody
  case h_2 => cases hbody
  rename_i y hy
  refine ⟨⟨pf, hpf, by rw [hy]; rfl, hname⟩, ?_⟩
  have hlen := evC_len hL n _ _ _ _ _ _ h1
  have hsz : cargs.size = f.np := by rw [← hargs.1, hnp]
  refine callsIn_wide (n := 0).1 (callsIn_of_wp_marks hpf hy trivial ?_ rfl)
  have w1 := evC_wp (N := pf.ntmps) (ro := none) (n := 0) (D0 := c.df) hTab hC hR hL f.body y _ e (⟨[], []⟩ :: s) s1 x c { tmps := cargs ++ Array.replicate (pf.ntmps - cargs.size) Go.undef, defers := [] } [] h1 hbody (inv_push hI) ⟨er_enter hargs, hG⟩ (by simp; omega) (by simp)
    (fun b hb => by cases hb) rfl rfl
  refine wpIn_mono (F := Fw none) w1 ?_
  rintro ex a' w' ⟨rfl, c1, D1, rfl, i1, x1, v1, n1, d1, df1, _⟩
  have fin : ∀ vs, resV s1 e f.res = some vs → leave f.mv s.length s1 (oneV vs) = some (r, s') → LeavesInM Fence.wide 0 P pf a'.tmps (Ret (KK P T gl) c s' r) a'.defers .returning c1.w := by
    intro vs hvs hlv
    rw [d1]
    refine marks_ok (K := KK P T gl) (s := s1) (c0 := c) (D0 := c.df) (e := e) (fun c' hv' hi' hx' hd' => ?_) D1 c1 i1 x1 df1 ⟨v1.er, v1.gl⟩
    obtain ⟨cv, r1, r2⟩ := results_ok (a := { tmps := a'.tmps, defers := [] }) hTab hi' hv' hres hvs
    refine ⟨cv, r1, ?_⟩
    obtain ⟨top, rest, rfl, hrl⟩ := st_cons (s := s1) (n := s.length) (by simpa using hlen)
    unfold leave at hlv
    split at hlv
    · cases rest with
      | nil => simp at hlv
      | cons g rest =>
        simp only [Option.bind_eq_some_iff, Option.map_eq_some_iff, Prod.mk.injEq] at hlv
        obtain ⟨os, hos, v', hv', rfl, rfl⟩ := hlv
        have hrl' : s.length = rest.length + 1 := by rw [← hrl]; rfl
        rw [hrl'] at hos hv'
        exact ⟨c'.over (rest.length + 1) g.objs.length, rfl, inv_over hi' hos, ⟨extB_over hI hrl' hi' hx', hd'⟩, mvV_vr hi' _ _ cv hv' r2⟩
    · simp only [Option.map_eq_some_iff, Prod.mk.injEq, List.tail_cons] at hlv
      obtain ⟨v', hfz, rfl, rfl⟩ := hlv
      rw [← hrl] at hfz
      obtain ⟨k1, _⟩ := frz_vr hi' 1000 _ _ cv hfz r2
      have hp := inv_pop hi'
      rw [hrl] at hp k1
      exact ⟨c'.below s.length, rfl, hp, ⟨extB_pop hI hx', hd'⟩, k1⟩
  cases x with
  | exit i => cases h2
  | nrm => simp only [Option.bind_eq_some_iff] at h2; obtain ⟨vs, hvs, h3⟩ := h2; exact fin vs hvs h3
  | ret => simp only [Option.bind_eq_some_iff] at h2; obtain ⟨vs, hvs, h3⟩ := h2; exact fin vs hvs h3

/-- THE ADEQUACY: what the abstract machine says of a call is so. -/
theorem adequate (hTab : TabOK P T) (hF : ∀ k f, fs k = some f → ∃ pf, P.funcs[k % 1000]? = some pf ∧ chkF T gl (P.eqGuardType P.depth) (P.follows .mixedOrders) f pf = true) :
    ∀ n, CallOK (KK P T gl) P G gl (evFR G fs n).1 ∧ RoundOK (KK P T gl) P G gl (evFR G fs n).2
  | 0 => ⟨fun k args s s' r c cargs h => by simp [evFR] at h, fun l i args s s' r c b cargs h => by simp [evFR] at h⟩
  | n + 1 => by
    obtain ⟨h1, h2⟩ := adequate hTab hF n
    exact ⟨call_ok hTab hF h1 h2, round_ok hTab h1 h2⟩
end
end Go.Ab
