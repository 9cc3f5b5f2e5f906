/-
  Every checked operation that calls nothing does in memory what it does abstractly.
-/
import Derived.Test.YthbekoofiienjaaDoorAbChk
namespace Go.Ab
open Go

section
variable {P : Program} {T : Nat → Option TyI}

theorem und_of (hTab : TabOK P T) {t : Nat} {k : TK} (h : tk T t = k) (hk : k ≠ .other) : ∃ d i, P.underlying t = some d ∧ tkOK k d = true ∧ T t = some i ∧ i.k = k := by
  unfold tk at h
  split at h
  · rename_i i hi
    obtain ⟨d, h1, h2⟩ := (hTab t i hi).und
    exact ⟨d, i, h1, h ▸ h2, hi, h⟩
  · exact absurd h.symm hk
theorem und_sl (hTab : TabOK P T) {t e : Nat} (h : tk T t = .sl e) : P.underlying t = some (.slice e) := by
  obtain ⟨d, i, h1, h2, _⟩ := und_of hTab h (by simp)
  cases d <;> simp [tkOK] at h2
  subst h2; exact h1
theorem und_ptr (hTab : TabOK P T) {t e : Nat} (h : tk T t = .ptr e) : P.underlying t = some (.pointer e) := by
  obtain ⟨d, i, h1, h2, _⟩ := und_of hTab h (by simp)
  cases d <;> simp [tkOK] at h2
  subst h2; exact h1
theorem und_arr (hTab : TabOK P T) {t n e : Nat} (h : tk T t = .arr n e) : P.underlying t = some (.array n e) := by
  obtain ⟨d, i, h1, h2, _⟩ := und_of hTab h (by simp)
  cases d <;> simp [tkOK] at h2
  obtain ⟨rfl, rfl⟩ := h2; exact h1
theorem und_map (hTab : TabOK P T) {t n e : Nat} (h : tk T t = .map n e) : P.underlying t = some (.map n e) := by
  obtain ⟨d, i, h1, h2, _⟩ := und_of hTab h (by simp)
  cases d <;> simp [tkOK] at h2
  obtain ⟨rfl, rfl⟩ := h2; exact h1
theorem und_int (hTab : TabOK P T) {t : Nat} {k : IntKind} (h : tk T t = .int k) : P.underlying t = some (.int k) := by
  obtain ⟨d, i, h1, h2, _⟩ := und_of hTab h (by simp)
  cases d <;> simp [tkOK] at h2
  subst h2; exact h1
theorem und_str (hTab : TabOK P T) {t : Nat} (h : tk T t = .str) : P.underlying t = some .string := by
  obtain ⟨d, i, h1, h2, _⟩ := und_of hTab h (by simp)
  cases d <;> simp [tkOK] at h2
  exact h1
theorem und_bool (hTab : TabOK P T) {t : Nat} (h : tk T t = .bool) : P.underlying t = some .bool := by
  obtain ⟨d, i, h1, h2, _⟩ := und_of hTab h (by simp)
  cases d <;> simp [tkOK] at h2
  exact h1
theorem und_fn (hTab : TabOK P T) {t : Nat} (h : tk T t = .fn) : ∃ a b v, P.underlying t = some (.func a b v) := by
  obtain ⟨d, i, h1, h2, _⟩ := und_of hTab h (by simp)
  cases d <;> simp [tkOK] at h2
  exact ⟨_, _, _, h1⟩
theorem und_st (hTab : TabOK P T) {t : Nat} {fs : List (Nat × Nat)} (h : tk T t = .st fs) : ∃ fs', P.underlying t = some (.struct fs') ∧ fs = fs'.toList.map fun f => (f.type, f.offset) := by
  obtain ⟨d, i, h1, h2, _⟩ := und_of hTab h (by simp)
  cases d <;> simp [tkOK] at h2
  exact ⟨_, h1, by simpa using h2.1⟩

theorem szOK_ok {t n : Nat} (h : szOK T t n = true) : ∃ i, T t = some i ∧ i.size = n := by
  unfold szOK at h
  split at h
  · exact ⟨_, by assumption, by simpa using h⟩
  · cases h
theorem agOK_ok {t n : Nat} {ag : Bool} (h : agOK T t n ag = true) : ∃ i, T t = some i ∧ i.size = n ∧ isAggK i.k = ag := by
  unfold agOK at h
  split at h
  · simp at h; exact ⟨_, by assumption, h.1, h.2⟩
  · cases h
theorem byOK_ok {t n : Nat} (h : byOK T t n = true) : ∃ i, T t = some i ∧ i.bytes = n := by
  unfold byOK at h
  split at h
  · exact ⟨_, by assumption, by simpa using h⟩
  · cases h
theorem zOK_ok {t : Nat} {z : List AV} (h : zOK T t z = true) : ∃ i, T t = some i ∧ cellsOf i.z = some z := by
  unfold zOK at h
  split at h
  · split at h
    · rename_i hl; exact ⟨_, by assumption, by rw [hl, avEqs_ok _ _ h]⟩
    · cases h
  · cases h

theorem eqOK_ok (hTab : TabOK P T) {k : EqK} {t : Nat} (h : eqOK T (P.eqGuardType P.depth) k t = true) : EqT P T k t := by
  cases k with
  | s q =>
    cases q <;> simp only [eqOK] at h <;> split at h <;> first | cases h | skip
    · exact .int _ _ (und_int hTab (by assumption))
    · exact .bool _ (und_bool hTab (by assumption))
    · exact .str _ (und_str hTab (by assumption))
  | agg l =>
    simp only [eqOK, Bool.and_eq_true, Bool.not_eq_true'] at h
    obtain ⟨⟨h1, h2⟩, h3⟩ := h
    split at h3
    · rename_i l' hl
      simp at h3
      subst h3
      unfold tk at h1
      split at h1
      · rename_i i hi
        exact .agg t 50 l i hl (by omega) hi h1 h2
      · cases h1
    · cases h3
  | nil q =>
    cases q <;> simp only [eqOK] at h <;> split at h <;> first | cases h | skip
    · exact .sl _ _ (und_sl hTab (by assumption))
    · exact .ptr _ _ (und_ptr hTab (by assumption))
    · exact .map _ _ _ (und_map hTab (by assumption))
    · obtain ⟨a, b, v, h⟩ := und_fn hTab (by assumption); exact .fn _ a b v h
end

section
variable {P : Program} {T : Nat → Option TyI} {V : Vw} {w : World}
theorem r_guard {neg : Bool} {k : EqK} {t : Nat} (hk : EqT P T k t) {x y : AV} {xv yv : Value} {r : Bool} (h : eqK k x y = some r) (hx : VR V x xv) (hy : VR V y yv) (o1 o2 : Operand) :
    (eqGuard (if neg = true then .neq else .eql) t o1 o2 xv yv).run P w = .ok () w := by
  unfold eqGuard
  rw [Sem.run_ite, if_neg (by cases neg <;> simp)]
  cases hk with
  | agg t n l i h2 hn hi ha hgt =>
    cases hx <;> simp only [eqK, reduceCtorEq] at h
    cases hy <;> simp only [reduceCtorEq] at h
    simp [hgt]
  | _ => cases hx <;> simp only [eqK, eqS, eqN, reduceCtorEq] at h <;> simp

theorem r_eqop {t : Nat} {k : EqK} {neg : Bool} {x y : AV} {xv yv : Value} {r : Bool} (h : eqK k x y = some r) (hk : k ≠ .s .int ∧ k ≠ .s .str) (hx : VR V x xv) (hy : VR V y yv) :
    binOp (if neg = true then .neq else .eql) t xv yv = if neg = true then (do pure (.bool (!(← Op.equal t xv yv)))) else (do pure (.bool (← Op.equal t xv yv))) := by
  cases k with
  | s q =>
    cases q with
    | bool => cases hx <;> simp only [eqK, eqS, reduceCtorEq] at h <;> cases hy <;> simp only [reduceCtorEq] at h <;> (cases neg <;> rfl)
    | int => exact absurd rfl hk.1
    | str => exact absurd rfl hk.2
  | agg l => cases hx <;> simp only [eqK, reduceCtorEq] at h <;> cases hy <;> simp only [reduceCtorEq] at h <;> (cases neg <;> rfl)
  | nil q =>
    cases q <;> cases hx <;> simp only [eqK, eqN, reduceCtorEq] at h <;> cases hy <;> (try simp only [reduceCtorEq] at h) <;> (try (cases neg <;> rfl))
end

/-- The operands' values are told. -/
structure Ev (V : Vw) (G : Nat → List AV) (gl : List Nat) (e : Env) (a : Act) : Prop where
  er : ER V e a.tmps
  gl : ∀ g ∈ gl, VR V (.rp (G g)) (.pointer (some ⟨g, 0, none⟩))

section
variable {V : Vw} {G : Nat → List AV} {gl : List Nat} {e : Env} {a : Act}

theorem Ev.x (h : Ev V G gl e a) {x : X} {o : Operand} (hx : chkX gl x o = true) : VR V (x.ev G e) (a.eval o) := chkX_ok hx h.er h.gl

theorem Ev.xs (h : Ev V G gl e a) : ∀ {l : List X} {m : List Operand}, xsOK gl l m = true → l.length = m.length ∧ ∀ (j : Nat) (v : AV), (l.map (X.ev G e))[j]? = some v → VR V v ((m.map a.eval).getD j Go.undef)
  | [], [], _ => by simp
  | [], _ :: _, h => by simp [xsOK] at h
  | _ :: _, [], h => by simp [xsOK] at h
  | x :: l, y :: m, hx => by
    simp only [xsOK, Bool.and_eq_true] at hx
    obtain ⟨h1, h2⟩ := Ev.xs h hx.2
    refine ⟨by simp [h1], fun j v hj => ?_⟩
    cases j with
    | zero => simp at hj; subst hj; simpa using h.x hx.1
    | succ j => simpa using h2 j v (by simpa using hj)

theorem Ev.ox (h : Ev V G gl e a) {x : Option X} {o : Option Operand} (hx : oxOK gl x o = true) : RelO V (x.map (X.ev G e)) (o.map a.eval) := by
  cases x <;> cases o <;> simp only [oxOK, Bool.false_eq_true] at hx
  · exact .none
  · exact .some _ _ (h.x hx)

theorem Ev.partsSt (h : Ev V G gl e a) {pl : List (Nat × Nat)} : ∀ {ps : List (Nat × Nat × X)} {qs : List (Nat × Operand)}, partsSt gl pl ps qs = true → ps.length = qs.length ∧
    ∀ (j o n : Nat) (v : AV), (ps.map fun (o, n, x) => (o, n, X.ev G e x))[j]? = some (o, n, v) → ∃ i xv, (qs.map fun (i, x) => (i, a.eval x))[j]? = some (i, xv) ∧ pl[i]? = some (o, n) ∧ VR V v xv
  | [], [], _ => by simp
  | [], _ :: _, h => by simp [Ab.partsSt] at h
  | _ :: _, [], h => by simp [Ab.partsSt] at h
  | (o, n, x) :: l, (i, y) :: m, hx => by
    simp only [Ab.partsSt, Bool.and_eq_true, decide_eq_true_eq] at hx
    obtain ⟨h1, h2⟩ := Ev.partsSt h hx.2
    refine ⟨by simp [h1], fun j o' n' v hj => ?_⟩
    cases j with
    | zero =>
      simp at hj
      obtain ⟨rfl, rfl, rfl⟩ := hj
      exact ⟨i, a.eval y, by simp, hx.1.1, h.x hx.1.2⟩
    | succ j => simpa using h2 j o' n' v (by simpa using hj)

theorem Ev.partsArr (h : Ev V G gl e a) {el : Nat} : ∀ {ps : List (Nat × Nat × X)} {qs : List (Nat × Operand)}, partsArr gl el ps qs = true → ps.length = qs.length ∧
    ∀ (j o n : Nat) (v : AV), (ps.map fun (o, n, x) => (o, n, X.ev G e x))[j]? = some (o, n, v) → ∃ i xv, (qs.map fun (i, x) => (i, a.eval x))[j]? = some (i, xv) ∧ o = i * el ∧ n = el ∧ VR V v xv
  | [], [], _ => by simp
  | [], _ :: _, h => by simp [Ab.partsArr] at h
  | _ :: _, [], h => by simp [Ab.partsArr] at h
  | (o, n, x) :: l, (i, y) :: m, hx => by
    simp only [Ab.partsArr, Bool.and_eq_true, beq_iff_eq] at hx
    obtain ⟨h1, h2⟩ := Ev.partsArr h hx.2
    refine ⟨by simp [h1], fun j o' n' v hj => ?_⟩
    cases j with
    | zero =>
      simp at hj
      obtain ⟨rfl, rfl, rfl⟩ := hj
      exact ⟨i, a.eval y, by simp, hx.1.1.1, hx.1.1.2, h.x hx.1.2⟩
    | succ j => simpa using h2 j o' n' v (by simpa using hj)

theorem Ev.partsSl (h : Ev V G gl e a) {el : Nat} : ∀ {ps : List (Nat × X)} {qs : List (Nat × Operand)}, partsSl gl ps qs = true → ps.length = qs.length ∧
    ∀ (j o n : Nat) (v : AV), (ps.map fun (i, x) => (i * el, el, X.ev G e x))[j]? = some (o, n, v) → ∃ i xv, (qs.map fun (i, x) => (i, a.eval x))[j]? = some (i, xv) ∧ o = i * el ∧ n = el ∧ VR V v xv
  | [], [], _ => by simp
  | [], _ :: _, h => by simp [Ab.partsSl] at h
  | _ :: _, [], h => by simp [Ab.partsSl] at h
  | (k, x) :: l, (i, y) :: m, hx => by
    simp only [Ab.partsSl, Bool.and_eq_true, beq_iff_eq] at hx
    obtain ⟨h1, h2⟩ := Ev.partsSl h (el := el) hx.2
    refine ⟨by simp [h1], fun j o' n' v hj => ?_⟩
    cases j with
    | zero =>
      simp at hj
      obtain ⟨rfl, rfl, rfl⟩ := hj
      exact ⟨i, a.eval y, by simp, by rw [hx.1.1], rfl, h.x hx.1.2⟩
    | succ j => simpa using h2 j o' n' v (by simpa using hj)
end

/-- An operation's run: its value is told by the abstract one, the frames are what they are abstractly. -/
def Does (K : Nat → C → Code → Prop) (P : Program) (c : Cf) (s' : St) (v : AV) (m : Sem Next) : Prop :=
  ∃ nx cv c', m.run P c.w = .ok nx c'.w ∧ (nx = .value cv ∨ (nx = .skip ∧ cv = Go.undef)) ∧ Inv K c' s' ∧ Ext c c' ∧ VR c'.vw v cv

section
variable {K : Nat → C → Code → Prop} {P : Program} {T : Nat → Option TyI} {G : Nat → List AV} {gl : List Nat} {c : Cf} {s s' : St} {e : Env} {a : Act} {v : AV} {o : Oper}

theorem does_v {m : Sem Value} (h : ∃ cv c', m.run P c.w = .ok cv c'.w ∧ Inv K c' s' ∧ Ext c c' ∧ VR c'.vw v cv) : Does K P c s' v (do pure (Next.value (← m))) := by
  obtain ⟨cv, c', h1, h2, h3, h4⟩ := h
  exact ⟨.value cv, cv, c', by simp [h1], .inl rfl, h2, h3, h4⟩
theorem does_r {m : Sem Value} (hI : Inv K c s) (h : ∃ cv, m.run P c.w = .ok cv c.w ∧ VR c.vw v cv) : Does K P c s v (do pure (Next.value (← m))) := by
  obtain ⟨cv, h1, h4⟩ := h
  exact ⟨.value cv, cv, c, by simp [h1], .inl rfl, hI, .refl c, h4⟩
theorem does_u {m : Sem Unit} (h : ∃ c', m.run P c.w = .ok () c'.w ∧ Inv K c' s' ∧ Ext c c') : Does K P c s' (.tup []) (do m; pure Next.skip) := by
  obtain ⟨c', h1, h2, h3⟩ := h
  exact ⟨.skip, Go.undef, c', by simp [h1], .inr ⟨rfl, rfl⟩, h2, h3, .tup [] #[] rfl (by simp)⟩

variable (hTab : TabOK P T) (hI : Inv K c s) (hE : Ev c.vw G gl e a) {cl : Call} {rd : Round} {hh : Nat}
include hI hE

theorem d_mv {x : X} (h : k_mv gl x o.op = true) (hv : evO cl rd G hh e s (.mv x) = some (v, s')) : Does K P c s' v (execOp a.eval o) := by
  simp only [evO, Option.some.injEq, Prod.mk.injEq] at hv
  obtain ⟨rfl, rfl⟩ := hv
  unfold k_mv at h
  split at h <;> first | (cases h; done) | skip
  all_goals
    rename_i y hop
    exact ⟨.value (a.eval y), _, c, by unfold execOp; rw [hop]; simp, .inl rfl, hI, .refl c, hE.x h⟩

theorem d_pick {x y z : X} (h : k_pick gl x y z o.op = true) (hv : evO cl rd G hh e s (.pick x y z) = some (v, s')) : Does K P c s' v (execOp a.eval o) := by
  simp only [evO, Option.map_eq_some_iff, Prod.mk.injEq] at hv
  obtain ⟨v', hv, rfl, rfl⟩ := hv
  unfold k_pick at h
  split at h
  case h_2 => cases h
  rename_i c' a' b' hop
  simp only [Bool.and_eq_true] at h
  obtain ⟨cv, h1, h2⟩ := r_pick (P := P) (w := c.w) hv (hE.x h.1.1) (hE.x h.1.2) (hE.x h.2)
  refine ⟨.value cv, cv, c, ?_, .inl rfl, hI, .refl c, h2⟩
  unfold execOp
  rw [hop]
  simp only [Sem.run_bind] at h1 ⊢
  cases h3 : (asBool (a.eval c')).run P c.w with
  | ok b w' =>
    simp only [h3, Result.andThen_ok, Sem.run_pure, Result.ok.injEq] at h1 ⊢
    exact ⟨by rw [h1.1], h1.2⟩
  | halt x w' => rw [h3] at h1; cases h1

include hTab in
theorem d_alloc {z : List AV} (h : k_alloc T z o.op = true) (hv : evO cl rd G hh e s (.alloc z) = some (v, s')) : Does K P c s' v (execOp a.eval o) := by
  have _ := hE
  simp only [evO, Option.map_eq_some_iff, Prod.mk.injEq, Prod.exists] at hv
  obtain ⟨l, i, s1, hv, rfl, rfl⟩ := hv
  unfold k_alloc at h
  split at h
  case h_2 => cases h
  rename_i t hop
  obtain ⟨ti, h1, h2⟩ := zOK_ok h
  unfold execOp
  rw [hop]
  exact does_v (r_alloc hI (hTab _ _ h1) h2 hv)

theorem d_box {x : X} (h : k_box gl x o.op = true) (hv : evO cl rd G hh e s (.box x) = some (v, s')) : Does K P c s' v (execOp a.eval o) := by
  simp only [evO, Option.bind_eq_some_iff, Option.map_eq_some_iff, Prod.mk.injEq, Prod.exists] at hv
  obtain ⟨cl, h1, l, i, s1, hv, rfl, rfl⟩ := hv
  unfold k_box at h
  split at h
  case h_2 => cases h
  rename_i t y hop
  unfold execOp
  rw [hop]
  exact does_v (r_box hI (hE.x h) h1 hv)

include hTab in
theorem d_build {z : List AV} {ps : List (Nat × Nat × X)} (h : k_build T gl z ps o.op = true) (hv : evO cl rd G hh e s (.build z ps) = some (v, s')) : Does K P c s' v (execOp a.eval o) := by
  simp only [evO, Option.map_eq_some_iff, Prod.mk.injEq] at hv
  obtain ⟨cl, hv, rfl, rfl⟩ := hv
  unfold k_build at h
  split at h
  case h_2 => cases h
  rename_i t qs hop
  simp only [Bool.and_eq_true] at h
  obtain ⟨ti, h1, h2⟩ := zOK_ok h.1
  have h3 := h.2
  unfold execOp
  rw [hop]
  refine does_r hI ?_
  have hq : ∀ j : Nat, (qs.map fun (i, x) => (i, a.eval x))[j]? = (qs.toList.map fun (i, x) => (i, a.eval x))[j]? := by intro j; simp
  split at h3
  · rename_i fs hk
    split at h3
    case h_2 => cases h3
    rename_i pl hpl
    obtain ⟨g1, g2⟩ := hE.partsSt h3
    obtain ⟨_, i2, _, _, g3, g4⟩ := und_of hTab hk (by simp)
    rw [h1] at g3; cases g3
    refine r_build hTab (hTab _ _ h1) h2 hv (by simpa using g1) (.inl ⟨fs, pl, g4, hpl, fun j o n v hj => ?_⟩)
    rw [hq]
    exact g2 j o n v hj
  · rename_i m el hk
    split at h3
    case h_2 => cases h3
    rename_i ie hie
    obtain ⟨g1, g2⟩ := hE.partsArr h3
    obtain ⟨_, i2, _, _, g3, g4⟩ := und_of hTab hk (by simp)
    rw [h1] at g3; cases g3
    refine r_build hTab (hTab _ _ h1) h2 hv (by simpa using g1) (.inr ⟨m, el, ie, g4, hie, fun j o n v hj => ?_⟩)
    rw [hq]
    exact g2 j o n v hj
  · cases h3

include hTab in
theorem d_bsl {z : List AV} {n : Nat} {ps : List (Nat × X)} (h : k_bsl T gl z n ps o.op = true) (hv : evO cl rd G hh e s (.bsl z n ps) = some (v, s')) : Does K P c s' v (execOp a.eval o) := by
  simp only [evO, Option.bind_eq_some_iff, Option.ite_none_right_eq_some, Option.some.injEq, Prod.mk.injEq, Bool.and_eq_true, decide_eq_true_eq] at hv
  obtain ⟨cl, hv, ⟨⟨hp, hz0⟩, hn0⟩, rfl, rfl⟩ := hv
  unfold k_bsl at h
  split at h
  case h_2 => cases h
  rename_i t n' qs hop
  simp only [Bool.and_eq_true, beq_iff_eq, decide_eq_true_eq] at h
  obtain ⟨⟨⟨⟨⟨rfl, h2⟩, h3⟩, h4⟩, h5⟩, h6⟩ := h
  split at h2
  case h_2 => cases h2
  rename_i el hk
  obtain ⟨ie, g1, g2⟩ := zOK_ok h2
  unfold execOp
  rw [hop]
  refine does_v ?_
  have hq : ∀ j : Nat, (qs.map fun (i, x) => (i, a.eval x))[j]? = (qs.toList.map fun (i, x) => (i, a.eval x))[j]? := by intro j; simp
  obtain ⟨k1, k2⟩ := hE.partsSl (el := z.length) h6
  refine r_bsl hI (und_sl hTab hk) (hTab _ _ g1) g2 rfl h3 hn0 hz0 hv hp (by simpa using k1) fun j o m v hj => ?_
  rw [hq]
  exact k2 j o m v hj

include hTab in
theorem d_bslo {z : List AV} {n : Nat} {ps : List (Nat × X)} (h : k_bsl T gl z n ps o.op = true) (hv : evO cl rd G hh e s (.bslo z n ps) = some (v, s')) : Does K P c s' v (execOp a.eval o) := by
  simp only [evO, Option.bind_eq_some_iff, Option.map_eq_some_iff, Prod.mk.injEq, Prod.exists] at hv
  obtain ⟨cl, hv, l, i, s1, hv2, rfl, rfl⟩ := hv
  unfold k_bsl at h
  split at h
  case h_2 => cases h
  rename_i t n' qs hop
  simp only [Bool.and_eq_true, beq_iff_eq, decide_eq_true_eq] at h
  obtain ⟨⟨⟨⟨⟨rfl, h2⟩, h3⟩, h4⟩, h5⟩, h6⟩ := h
  split at h2
  case h_2 => cases h2
  rename_i el hk
  obtain ⟨ie, g1, g2⟩ := zOK_ok h2
  unfold execOp
  rw [hop]
  refine does_v ?_
  have hq : ∀ j : Nat, (qs.map fun (i, x) => (i, a.eval x))[j]? = (qs.toList.map fun (i, x) => (i, a.eval x))[j]? := by intro j; simp
  obtain ⟨k1, k2⟩ := hE.partsSl (el := z.length) h6
  refine r_bslo hI (und_sl hTab hk) (hTab _ _ g1) g2 rfl h3 h4 h5 hv (by simpa using k1) (fun j o m v hj => ?_) hv2
  rw [hq]
  exact k2 j o m v hj

include hTab in
theorem d_nilfull (h : k_nilfull T o.op = true) (hv : evO cl rd G hh e s .nilfull = some (v, s')) : Does K P c s' v (execOp a.eval o) := by
  have _ := hE
  simp only [evO, Option.some.injEq, Prod.mk.injEq] at hv
  obtain ⟨rfl, rfl⟩ := hv
  unfold k_nilfull at h
  split at h
  case h_2 => cases h
  rename_i t qs hop
  simp only [Bool.and_eq_true, Array.isEmpty_iff] at h
  obtain ⟨rfl, h2⟩ := h
  split at h2
  case h_2 => cases h2
  rename_i el hk
  obtain ⟨ie, hie⟩ := Option.isSome_iff_exists.1 h2
  unfold execOp
  rw [hop]
  refine does_v ?_
  obtain ⟨i1, e1⟩ := inv_alloc (ob := .cells #[] el) (fun _ _ _ h => by cases h; rfl) hI
  refine ⟨.slice (some ⟨c.w.heap.size, 0, none⟩) 0 0, _, ?_, i1, e1, ?_⟩
  · unfold Instr.buildSlice
    simp only [Sem.run_bind, run_und (und_sl hTab hk), Result.andThen_ok, (hTab _ _ hie).size]
    rw [Sem.run_ite, if_neg (by simp)]
    simp only [Nat.zero_mul, if_true]
    simp [Instr.fill, newRow]
    rw [show Array.range 0 = #[] from Array.eq_empty_of_size_eq_zero (by simp)]; simp
  · exact .sl [] .full c.w.heap.size 0 0 1 (fun _ _ => Go.undef) (by omega) (by simp) (by simp) (by simp) (by simp) (by intro i j hi; simp at hi) (by simp) (by simp) trivial

include hTab in
theorem d_load {n : Nat} {ag : Bool} {x : X} (h : k_load T gl n ag x o.op = true) (hv : evO cl rd G hh e s (.load n ag x) = some (v, s')) : Does K P c s' v (execOp a.eval o) := by
  simp only [evO, Option.bind_eq_some_iff, Option.map_eq_some_iff, Prod.mk.injEq] at hv
  obtain ⟨cl, h1, v', h2, rfl, rfl⟩ := hv
  unfold k_load at h
  split at h
  case h_2 => cases h
  rename_i t y hop
  simp only [Bool.and_eq_true] at h
  obtain ⟨i, h3, h4, h5⟩ := agOK_ok h.1
  unfold execOp
  rw [hop]
  exact does_r hI (r_load hI (hTab _ _ h3) h4 h5 h1 h2 (hE.x h.2))

include hTab in
theorem d_store {n : Nat} {x y : X} (h : k_store T gl n x y o.op = true) (hv : evO cl rd G hh e s (.store n x y) = some (v, s')) : Does K P c s' v (execOp a.eval o) := by
  simp only [evO, Option.map_eq_some_iff, Prod.mk.injEq] at hv
  obtain ⟨s1, h1, rfl, rfl⟩ := hv
  unfold k_store at h
  split at h
  case h_2 => cases h
  rename_i t y' z' hop
  simp only [Bool.and_eq_true] at h
  obtain ⟨i, h3, h4⟩ := szOK_ok h.1.1
  unfold execOp
  rw [hop]
  exact does_u (r_store hI (hTab _ _ h3) h4 h1 (hE.x h.1.2) (hE.x h.2))

theorem d_bin {op : BinOp} {x y : X} (h : k_bin gl op x y o.op = true) (hv : evO cl rd G hh e s (.bin op x y) = some (v, s')) : Does K P c s' v (execOp a.eval o) := by
  simp only [evO, Option.map_eq_some_iff, Prod.mk.injEq] at hv
  obtain ⟨v', h1, rfl, rfl⟩ := hv
  unfold k_bin at h
  split at h
  case h_2 => cases h
  rename_i op' t y' z' t2 hop
  simp only [Bool.and_eq_true, decide_eq_true_eq] at h
  obtain ⟨⟨rfl, h2⟩, h3⟩ := h
  unfold execOp
  rw [hop]
  exact does_r hI (r_bin h1 (hE.x h2) (hE.x h3) t y' z')

theorem d_not {x : X} (h : k_not gl x o.op = true) (hv : evO cl rd G hh e s (.not x) = some (v, s')) : Does K P c s' v (execOp a.eval o) := by
  simp only [evO, Option.map_eq_some_iff, Prod.mk.injEq] at hv
  obtain ⟨v', h1, rfl, rfl⟩ := hv
  unfold k_not at h
  split at h
  case h_2 => cases h
  rename_i t y hop
  unfold execOp
  rw [hop]
  exact does_r hI (r_not h1 (hE.x h))

theorem d_neg {x : X} (h : k_neg gl x o.op = true) (hv : evO cl rd G hh e s (.neg x) = some (v, s')) : Does K P c s' v (execOp a.eval o) := by
  simp only [evO, Option.map_eq_some_iff, Prod.mk.injEq] at hv
  obtain ⟨v', h1, rfl, rfl⟩ := hv
  unfold k_neg at h
  split at h
  case h_2 => cases h
  rename_i t y hop
  unfold execOp
  rw [hop]
  exact does_r hI (r_neg h1 (hE.x h))

include hTab in
theorem d_cvt {k : Cvt} {x : X} (h : k_cvt T gl k x o.op = true) (hv : evO cl rd G hh e s (.cvt k x) = some (v, s')) : Does K P c s' v (execOp a.eval o) := by
  simp only [evO, Option.map_eq_some_iff, Prod.mk.injEq] at hv
  obtain ⟨v', h1, rfl, rfl⟩ := hv
  unfold k_cvt at h
  split at h
  case h_2 => cases h
  rename_i sr d y hop
  simp only [Bool.and_eq_true] at h
  obtain ⟨⟨h2, h3⟩, h4⟩ := h
  obtain ⟨i, hi⟩ := Option.isSome_iff_exists.1 h2
  obtain ⟨ds, hds, _⟩ := (hTab _ _ hi).und
  unfold execOp
  rw [hop]
  split at h3
  · rename_i k1 k2 hk
    simp at h3
    subst h3
    exact does_r hI (r_cvt_int hds (und_int hTab hk) h1 (hE.x h4))
  · rename_i hk
    exact does_r hI (r_cvt_str hds (und_str hTab hk) h1 (hE.x h4))
  · rename_i hk
    exact does_r hI (r_cvt_rune hds (und_str hTab hk) h1 (hE.x h4))
  · cases h3

theorem d_mkfn {f : Nat} {first caps : List X} (h : k_mkfn gl f first caps o.op = true) (hv : evO cl rd G hh e s (.mkfn f first caps) = some (v, s')) : Does K P c s' v (execOp a.eval o) := by
  simp only [evO, Option.some.injEq, Prod.mk.injEq] at hv
  obtain ⟨rfl, rfl⟩ := hv
  unfold k_mkfn at h
  split at h
  case h_2 => cases h
  rename_i k fs cs hop
  simp only [Bool.and_eq_true, beq_iff_eq] at h
  obtain ⟨⟨rfl, h2⟩, h3⟩ := h
  unfold execOp
  rw [hop]
  refine does_r hI ⟨.func (.func (f % 1000)) (fs.map a.eval) (cs.map a.eval), by simp [Instr.makeFunc], ?_⟩
  obtain ⟨g1, g2⟩ := hE.xs h2
  obtain ⟨g3, g4⟩ := hE.xs h3
  refine .fn f _ _ _ _ (by simpa using g1) (by simpa using g3) (fun j v hj => ?_) (fun j v hj => ?_)
  · have := g2 j v hj
    simpa using this
  · have := g4 j v hj
    simpa using this

theorem d_mkmap (h : k_mkmap o.op = true) (hv : evO cl rd G hh e s .mkmap = some (v, s')) : Does K P c s' v (execOp a.eval o) := by
  have _ := hE
  simp only [evO, Option.map_eq_some_iff, Prod.mk.injEq, Prod.exists] at hv
  obtain ⟨l, i, s1, hv, rfl, rfl⟩ := hv
  unfold k_mkmap at h
  split at h
  case h_2 => cases h
  rename_i t hop
  unfold execOp
  rw [hop]
  exact does_v (r_mkmap rfl hI hv)

include hTab in
theorem d_mksl {z : List AV} {by' : Nat} {n m : X} (h : k_mksl T gl z by' n m o.op = true) (hv : evO cl rd G hh e s (.mksl z by' n m) = some (v, s')) : Does K P c s' v (execOp a.eval o) := by
  simp only [evO] at hv
  unfold k_mksl at h
  split at h
  case h_2 => cases h
  rename_i t y y' hop
  simp only [Bool.and_eq_true, decide_eq_true_eq] at h
  obtain ⟨⟨⟨⟨h1, h2⟩, h3⟩, h4⟩, h5⟩ := h
  split at h1
  case h_2 => cases h1
  rename_i el hk
  simp only [Bool.and_eq_true] at h1
  obtain ⟨ie, g1, g2⟩ := zOK_ok h1.1
  obtain ⟨ie', g3, g4⟩ := byOK_ok h1.2
  rw [g1] at g3; cases g3
  unfold execOp
  rw [hop]
  exact does_v (r_mksl hI (und_sl hTab hk) (hTab _ _ g1) g2 h2 g4 h3 hv (hE.x h4) (hE.x h5))

include hTab in
theorem d_slice {el : Nat} {x : X} {lo hi mx : Option X} (h : k_slice T gl el x lo hi mx o.op = true) (hv : evO cl rd G hh e s (.slice el x lo hi mx) = some (v, s')) : Does K P c s' v (execOp a.eval o) := by
  simp only [evO, Option.map_eq_some_iff, Prod.mk.injEq] at hv
  obtain ⟨v', h1, rfl, rfl⟩ := hv
  unfold k_slice at h
  split at h
  case h_2 => cases h
  rename_i t y l' h' m' hop
  simp only [Bool.and_eq_true] at h
  obtain ⟨⟨⟨⟨⟨g1, g2⟩, g3⟩, g4⟩, g5⟩, g6⟩ := h
  split at g1
  case h_2 => cases g1
  rename_i e1 hk
  obtain ⟨ie, g7, g8⟩ := szOK_ok g1
  unfold execOp
  rw [hop]
  refine does_r hI ?_
  obtain ⟨cv, r1, r2⟩ := r_slice (P := P) (w := c.w) (und_sl hTab hk) (hTab _ _ g7) g8 (fun hm => by
    cases mx with
    | none => simp at hm
    | some m => cases hi <;> simp at g2 ⊢) h1 (hE.x g3) (hE.ox g4) (hE.ox g5) (hE.ox g6)
  refine ⟨cv, ?_, r2⟩
  unfold Instr.sliceAt
  simp only [Sem.run_bind, run_und (und_sl hTab hk), Result.andThen_ok]
  exact r1

include hTab in
theorem d_slstr {x : X} {lo hi : Option X} (h : k_slstr T gl x lo hi o.op = true) (hv : evO cl rd G hh e s (.slstr x lo hi) = some (v, s')) : Does K P c s' v (execOp a.eval o) := by
  simp only [evO, Option.map_eq_some_iff, Prod.mk.injEq] at hv
  obtain ⟨v', h1, rfl, rfl⟩ := hv
  unfold k_slstr at h
  split at h
  case h_2 => cases h
  rename_i t y l' h' hop
  simp only [Bool.and_eq_true] at h
  obtain ⟨⟨⟨g1, g3⟩, g4⟩, g5⟩ := h
  split at g1
  case h_2 => cases g1
  rename_i hk
  unfold execOp
  rw [hop]
  refine does_r hI ?_
  obtain ⟨cv, r1, r2⟩ := r_slstr (P := P) (w := c.w) (und_str hTab hk) h1 (hE.x g3) (hE.ox g4) (hE.ox g5)
  refine ⟨cv, ?_, r2⟩
  unfold Instr.sliceAt
  simp only [Sem.run_bind, run_und (und_str hTab hk), Result.andThen_ok]
  exact r1

theorem st_field {fs' : Array Field} {fs : List (Nat × Nat)} {n ft off : Nat} (h : fs = fs'.toList.map fun f => (f.type, f.offset)) (hn : fs[n]? = some (ft, off)) :
    ∃ f, fs'[n]? = some f ∧ f.type = ft ∧ f.offset = off := by
  have _ := hI
  have _ := hE
  subst h
  simp only [List.getElem?_map, Option.map_eq_some_iff, Prod.mk.injEq, Array.getElem?_toList] at hn
  exact hn

include hTab in
theorem d_fad {off : Nat} {x : X} (h : k_fad T gl off x o.op = true) (hv : evO cl rd G hh e s (.fad off x) = some (v, s')) : Does K P c s' v (execOp a.eval o) := by
  simp only [evO, Option.map_eq_some_iff, Prod.mk.injEq] at hv
  obtain ⟨v', h1, rfl, rfl⟩ := hv
  unfold k_fad at h
  split at h
  case h_2 => cases h
  rename_i t y n hop
  simp only [Bool.and_eq_true] at h
  obtain ⟨g1, g2⟩ := h
  split at g1
  case h_2 => cases g1
  rename_i fs hk
  split at g1
  case h_2 => cases g1
  rename_i ft off' hn
  simp only [Bool.and_eq_true, beq_iff_eq] at g1
  obtain ⟨rfl, g3⟩ := g1
  split at g3
  case h_2 => cases g3
  rename_i ie hie
  obtain ⟨fs', u1, u2⟩ := und_st hTab hk
  obtain ⟨f, f1, rfl, rfl⟩ := st_field (K := K) hI hE u2 hn
  unfold execOp
  rw [hop]
  exact does_r hI (r_fad u1 f1 (hTab _ _ hie) (by simpa using g3) rfl h1 (hE.x g2))

include hTab in
theorem d_field {off n : Nat} {ag : Bool} {x : X} (h : k_field T gl off n ag x o.op = true) (hv : evO cl rd G hh e s (.field off n ag x) = some (v, s')) : Does K P c s' v (execOp a.eval o) := by
  simp only [evO, Option.map_eq_some_iff, Prod.mk.injEq] at hv
  obtain ⟨v', h1, rfl, rfl⟩ := hv
  unfold k_field at h
  split at h
  case h_2 => cases h
  rename_i t y n hop
  simp only [Bool.and_eq_true] at h
  obtain ⟨g1, g2⟩ := h
  split at g1
  case h_2 => cases g1
  rename_i fs hk
  split at g1
  case h_2 => cases g1
  rename_i ft off' hn
  simp only [Bool.and_eq_true, beq_iff_eq] at g1
  obtain ⟨rfl, g3⟩ := g1
  obtain ⟨ie, g4, g5, g6⟩ := agOK_ok g3
  obtain ⟨fs', u1, u2⟩ := und_st hTab hk
  obtain ⟨f, f1, rfl, rfl⟩ := st_field (K := K) hI hE u2 hn
  unfold execOp
  rw [hop]
  exact does_r hI (r_field u1 f1 (hTab _ _ g4) g5 g6 rfl h1 (hE.x g2))

include hTab in
theorem d_iad {el : Nat} {x y : X} (h : k_iad T gl el x y o.op = true) (hv : evO cl rd G hh e s (.iad el x y) = some (v, s')) : Does K P c s' v (execOp a.eval o) := by
  simp only [evO, Option.map_eq_some_iff, Prod.mk.injEq] at hv
  obtain ⟨v', h1, rfl, rfl⟩ := hv
  unfold k_iad at h
  split at h
  case h_2 => cases h
  rename_i t x' y' hop
  simp only [Bool.and_eq_true] at h
  obtain ⟨⟨g1, g2⟩, g3⟩ := h
  split at g1
  case h_2 => cases g1
  rename_i e1 hk
  obtain ⟨ie, g7, g8⟩ := szOK_ok g1
  unfold execOp
  rw [hop]
  exact does_r hI (r_iad (und_sl hTab hk) (hTab _ _ g7) g8 h1 (hE.x g2) (hE.x g3))

include hTab in
theorem d_iarr {n el : Nat} {x y : X} (h : k_iarr T gl n el x y o.op = true) (hv : evO cl rd G hh e s (.iarr n el x y) = some (v, s')) : Does K P c s' v (execOp a.eval o) := by
  simp only [evO, Option.map_eq_some_iff, Prod.mk.injEq] at hv
  obtain ⟨v', h1, rfl, rfl⟩ := hv
  unfold k_iarr at h
  split at h
  case h_2 => cases h
  rename_i t x' y' hop
  simp only [Bool.and_eq_true] at h
  obtain ⟨⟨g1, g2⟩, g3⟩ := h
  split at g1
  case h_2 => cases g1
  rename_i n' e1 hk
  simp only [Bool.and_eq_true, beq_iff_eq] at g1
  obtain ⟨rfl, g1⟩ := g1
  obtain ⟨ie, g7, g8⟩ := szOK_ok g1
  unfold execOp
  rw [hop]
  exact does_r hI (r_iarr (und_arr hTab hk) (hTab _ _ g7) g8 h1 (hE.x g2) (hE.x g3))

include hTab in
theorem d_ixa {n el : Nat} {ag : Bool} {x y : X} (h : k_ixa T gl n el ag x y o.op = true) (hv : evO cl rd G hh e s (.ixa n el ag x y) = some (v, s')) : Does K P c s' v (execOp a.eval o) := by
  simp only [evO, Option.map_eq_some_iff, Prod.mk.injEq] at hv
  obtain ⟨v', h1, rfl, rfl⟩ := hv
  unfold k_ixa at h
  split at h
  case h_2 => cases h
  rename_i t x' y' hop
  simp only [Bool.and_eq_true] at h
  obtain ⟨⟨g1, g2⟩, g3⟩ := h
  split at g1
  case h_2 => cases g1
  rename_i n' e1 hk
  simp only [Bool.and_eq_true, beq_iff_eq] at g1
  obtain ⟨rfl, g1⟩ := g1
  obtain ⟨ie, g7, g8, g9⟩ := agOK_ok g1
  unfold execOp
  rw [hop]
  exact does_r hI (r_ixa (und_arr hTab hk) (hTab _ _ g7) g8 g9 h1 (hE.x g2) (hE.x g3))

include hTab in
theorem d_ixs {x y : X} (h : k_ixs T gl x y o.op = true) (hv : evO cl rd G hh e s (.ixs x y) = some (v, s')) : Does K P c s' v (execOp a.eval o) := by
  simp only [evO, Option.map_eq_some_iff, Prod.mk.injEq] at hv
  obtain ⟨v', h1, rfl, rfl⟩ := hv
  unfold k_ixs at h
  split at h
  case h_2 => cases h
  rename_i t x' y' hop
  simp only [Bool.and_eq_true] at h
  obtain ⟨⟨g1, g2⟩, g3⟩ := h
  split at g1
  case h_2 => cases g1
  rename_i hk
  unfold execOp
  rw [hop]
  exact does_r hI (r_ixs (und_str hTab hk) h1 (hE.x g2) (hE.x g3))

include hTab in
theorem d_lookup {kk : EqK} {z : AV} {ok : Bool} {m k : X} (h : k_lookup T gl (P.eqGuardType P.depth) kk z ok m k o.op = true) (hv : evO cl rd G hh e s (.lookup kk z ok m k) = some (v, s')) : Does K P c s' v (execOp a.eval o) := by
  simp only [evO, Option.bind_eq_some_iff, Option.ite_none_right_eq_some, Option.map_eq_some_iff, Prod.mk.injEq] at hv
  obtain ⟨es, h1, h2, r, h3, rfl, rfl⟩ := hv
  unfold k_lookup at h
  split at h
  case h_2 => cases h
  rename_i t x' y' ok' hop
  simp only [Bool.and_eq_true, beq_iff_eq] at h
  obtain ⟨⟨⟨g1, rfl⟩, g2⟩, g3⟩ := h
  split at g1
  case h_2 => cases g1
  rename_i kt el hk
  simp only [Bool.and_eq_true] at g1
  obtain ⟨g4, g5⟩ := g1
  split at g5
  case h_2 => cases g5
  rename_i ie hie
  unfold execOp
  rw [hop]
  exact does_r hI (r_lookup hTab hI (und_map hTab hk) (eqOK_ok hTab g4) (hTab _ _ hie) (avEq_ok _ _ g5) h1 h2 h3 (hE.x g2) (hE.x g3))

include hTab in
theorem d_upd {kk : EqK} {m k x : X} (h : k_upd T gl (P.eqGuardType P.depth) kk m k x o.op = true) (hv : evO cl rd G hh e s (.upd kk m k x) = some (v, s')) : Does K P c s' v (execOp a.eval o) := by
  simp only [evO, Option.map_eq_some_iff, Prod.mk.injEq] at hv
  obtain ⟨s1, h1, rfl, rfl⟩ := hv
  unfold k_upd at h
  split at h
  case h_3 => cases h
  all_goals
    rename_i t x' y' z' hop
    simp only [Bool.and_eq_true] at h
    obtain ⟨⟨⟨g1, g2⟩, g3⟩, g4⟩ := h
    split at g1
    case h_2 => cases g1
    rename_i kt el hk
    unfold execOp
    rw [hop]
    exact does_u (r_upd hTab hI (und_map hTab hk) (eqOK_ok hTab g1) h1 (hE.x g2) (hE.x g3) (hE.x g4))

theorem d_ext {x : X} {i : Nat} (h : k_ext gl x i o.op = true) (hv : evO cl rd G hh e s (.ext x i) = some (v, s')) : Does K P c s' v (execOp a.eval o) := by
  simp only [evO, Option.map_eq_some_iff, Prod.mk.injEq] at hv
  obtain ⟨v', h1, rfl, rfl⟩ := hv
  unfold k_ext at h
  split at h
  case h_2 => cases h
  rename_i y j hop
  simp only [Bool.and_eq_true, beq_iff_eq] at h
  obtain ⟨rfl, h2⟩ := h
  unfold execOp
  rw [hop]
  exact does_r hI (r_ext h1 (hE.x h2))

include hTab in
theorem d_eq {neg : Bool} {k : EqK} {x y : X} (h : k_eq T gl (P.eqGuardType P.depth) neg k x y o.op = true) (hv : evO cl rd G hh e s (.eq neg k x y) = some (v, s')) : Does K P c s' v (execOp a.eval o) := by
  simp only [evO, Option.map_eq_some_iff, Prod.mk.injEq] at hv
  obtain ⟨b, h1, rfl, rfl⟩ := hv
  unfold k_eq at h
  split at h
  case h_2 => cases h
  rename_i op t x' y' t2 hop
  simp only [Bool.and_eq_true, decide_eq_true_eq] at h
  obtain ⟨⟨⟨⟨rfl, g1⟩, g2⟩, g3⟩, g4⟩ := h
  have hk := eqOK_ok hTab g2
  have hx := hE.x g3
  have hy := hE.x g4
  have he := r_equal (P := P) (w := c.w) hTab hk h1 hx hy
  unfold execOp
  rw [hop]
  refine does_r hI ⟨.bool (if neg = true then !b else b), ?_, .bool _⟩
  have hg := r_guard (P := P) (w := c.w) (neg := neg) hk h1 hx hy x' y'
  rw [Sem.run_bind, hg, Result.andThen_ok]
  have hb := r_eqop (t := t) (neg := neg) h1 (by cases k with | s q => cases q <;> simp at g1 ⊢ | _ => simp) hx hy
  rw [hb]
  cases neg <;> simp [he]

omit hI hE in
/-- A builtin's call. -/
theorem exec_builtin {b : Builtin} {ys : Array Operand} {ts : Array TypeId} (hop : o.op = .call ⟨.builtin b, ys, ts⟩) :
    execOp a.eval o = builtin b ts o.type (ys.map fun | .const _ => true | _ => false) (ys.map a.eval) := by
  unfold execOp
  rw [hop]
  rfl

omit hI hE in
theorem list_arr1 {α : Type} {ys : Array α} {y : α} (h : ys.toList = [y]) : ys = #[y] := by
  cases ys; simp at h; subst h; rfl
omit hI hE in
theorem list_arr2 {α : Type} {ys : Array α} {y z : α} (h : ys.toList = [y, z]) : ys = #[y, z] := by
  cases ys; simp at h; subst h; rfl

include hTab in
theorem d_len {x : X} (h : k_len T gl x o.op = true) (hv : evO cl rd G hh e s (.len x) = some (v, s')) : Does K P c s' v (execOp a.eval o) := by
  simp only [evO, Option.map_eq_some_iff, Prod.mk.injEq] at hv
  obtain ⟨v', h1, rfl, rfl⟩ := hv
  unfold k_len at h
  split at h
  case h_2 => cases h
  rename_i ys ts hop
  rw [exec_builtin hop]
  split at h
  case h_2 => cases h
  rename_i y t hys hts
  simp only [Bool.and_eq_true] at h
  obtain ⟨g1, g2⟩ := h
  split at g2
  case h_2 => cases g2
  rename_i hk
  rw [list_arr1 hys, list_arr1 hts, show Array.map a.eval #[y] = #[a.eval y] by simp]
  exact does_r hI (r_len (und_sl hTab hk) rfl h1 (hE.x g1))

include hTab in
theorem d_lens {x : X} (h : k_lens T gl x o.op = true) (hv : evO cl rd G hh e s (.lens x) = some (v, s')) : Does K P c s' v (execOp a.eval o) := by
  simp only [evO, Option.map_eq_some_iff, Prod.mk.injEq] at hv
  obtain ⟨v', h1, rfl, rfl⟩ := hv
  unfold k_lens at h
  split at h
  case h_2 => cases h
  rename_i ys ts hop
  rw [exec_builtin hop]
  split at h
  case h_2 => cases h
  rename_i y t hys hts
  simp only [Bool.and_eq_true] at h
  obtain ⟨g1, g2⟩ := h
  split at g2
  case h_2 => cases g2
  rename_i hk
  rw [list_arr1 hys, list_arr1 hts, show Array.map a.eval #[y] = #[a.eval y] by simp]
  exact does_r hI (r_lens (und_str hTab hk) rfl h1 (hE.x g1))

include hTab in
theorem d_lenm {x : X} (h : k_lenm T gl x o.op = true) (hv : evO cl rd G hh e s (.lenm x) = some (v, s')) : Does K P c s' v (execOp a.eval o) := by
  simp only [evO, Option.map_eq_some_iff, Prod.mk.injEq] at hv
  obtain ⟨v', h1, rfl, rfl⟩ := hv
  unfold k_lenm at h
  split at h
  case h_2 => cases h
  rename_i ys ts hop
  rw [exec_builtin hop]
  split at h
  case h_2 => cases h
  rename_i y t hys hts
  simp only [Bool.and_eq_true] at h
  obtain ⟨g1, g2⟩ := h
  split at g2
  case h_2 => cases g2
  rename_i hk
  rw [list_arr1 hys, list_arr1 hts, show Array.map a.eval #[y] = #[a.eval y] by simp]
  exact does_r hI (r_lenm hI (und_map hTab hk) rfl h1 (hE.x g1))

include hTab in
theorem d_lena {n : Nat} (h : k_lena T n o.op = true) (hv : evO cl rd G hh e s (.lena n) = some (v, s')) : Does K P c s' v (execOp a.eval o) := by
  have _ := hE
  simp only [evO, Option.some.injEq, Prod.mk.injEq] at hv
  obtain ⟨rfl, rfl⟩ := hv
  unfold k_lena at h
  split at h
  case h_2 => cases h
  rename_i ys ts hop
  rw [exec_builtin hop]
  split at h
  case h_2 => cases h
  rename_i y t hys hts
  split at h
  · rename_i n' el hk
    simp at h
    subst h
    rw [list_arr1 hys, list_arr1 hts, show Array.map a.eval #[y] = #[a.eval y] by simp]
    exact does_r hI ⟨_, run_len_arr (und_arr hTab hk) rfl, .int _ _⟩
  · rename_i t' hk
    split at h
    case h_2 => cases h
    rename_i n' el hk'
    simp at h
    subst h
    rw [list_arr1 hys, list_arr1 hts, show Array.map a.eval #[y] = #[a.eval y] by simp]
    exact does_r hI ⟨_, run_len_parr (und_ptr hTab hk) (und_arr hTab hk') rfl, .int _ _⟩
  · cases h

include hTab in
theorem d_app {p el by' : Nat} {x y : X} (hlt : hh < s.length) (h : k_app T gl el by' x y o.op = true) (hv : evO cl rd G hh e s (.app p el by' x y) = some (v, s')) : Does K P c s' v (execOp a.eval o) := by
  simp only [evO] at hv
  unfold k_app at h
  split at h
  case h_2 => cases h
  rename_i ys ts hop
  rw [exec_builtin hop]
  split at h
  case h_2 => cases h
  rename_i y1 y2 t1 t2 hys hts
  simp only [Bool.and_eq_true, decide_eq_true_eq] at h
  obtain ⟨⟨⟨⟨⟨g1, g2⟩, g3⟩, g4⟩, g5⟩, g6⟩ := h
  split at g3
  case h_2 => cases g3
  rename_i e1 hk
  simp only [Bool.and_eq_true] at g3
  obtain ⟨ie, k1, k2⟩ := szOK_ok g3.1
  obtain ⟨ie', k3, k4⟩ := byOK_ok g3.2
  rw [k1] at k3; cases k3
  have hu : ∃ dy, P.underlying t2 = some dy ∧ ∀ k, dy ≠ .int k := by
    obtain ⟨d, i, u1, u2, _⟩ := und_of hTab (k := tk T t2) rfl (by intro h; rw [h] at g4; cases g4)
    refine ⟨d, u1, fun k hk => ?_⟩
    subst hk
    split at g4
    · cases g4
    · cases g4
    · rename_i n1 n2
      cases hq : tk T t2 <;> rw [hq] at u2 <;> simp [tkOK] at u2
      exact n1 _ hq
  obtain ⟨dy, u1, u2⟩ := hu
  rw [list_arr2 hys, list_arr2 hts, show Array.map a.eval #[y1, y2] = #[a.eval y1, a.eval y2] by simp]
  exact does_v (r_app hI hlt rfl (und_sl hTab hk) (hTab _ _ k1) k2 k4 g6 g5 rfl u1 u2 hv (hE.x g1) (hE.x g2))

include hTab in
theorem d_appo {el by' : Nat} {x y : X} (h : k_app T gl el by' x y o.op = true) (hv : evO cl rd G hh e s (.appo el by' x y) = some (v, s')) : Does K P c s' v (execOp a.eval o) := by
  simp only [evO] at hv
  unfold k_app at h
  split at h
  case h_2 => cases h
  rename_i ys ts hop
  rw [exec_builtin hop]
  split at h
  case h_2 => cases h
  rename_i y1 y2 t1 t2 hys hts
  simp only [Bool.and_eq_true, decide_eq_true_eq] at h
  obtain ⟨⟨⟨⟨⟨g1, g2⟩, g3⟩, g4⟩, g5⟩, g6⟩ := h
  split at g3
  case h_2 => cases g3
  rename_i e1 hk
  simp only [Bool.and_eq_true] at g3
  obtain ⟨ie, k1, k2⟩ := szOK_ok g3.1
  obtain ⟨ie', k3, k4⟩ := byOK_ok g3.2
  rw [k1] at k3; cases k3
  have hu : ∃ dy, P.underlying t2 = some dy ∧ ∀ k, dy ≠ .int k := by
    obtain ⟨d, i, u1, u2, _⟩ := und_of hTab (k := tk T t2) rfl (by intro h; rw [h] at g4; cases g4)
    refine ⟨d, u1, fun k hk => ?_⟩
    subst hk
    split at g4
    · cases g4
    · cases g4
    · rename_i n1 n2
      cases hq : tk T t2 <;> rw [hq] at u2 <;> simp [tkOK] at u2
      exact n1 _ hq
  obtain ⟨dy, u1, u2⟩ := hu
  rw [list_arr2 hys, list_arr2 hts, show Array.map a.eval #[y1, y2] = #[a.eval y1, a.eval y2] by simp]
  exact does_v (r_appo hI rfl (und_sl hTab hk) (hTab _ _ k1) k2 k4 g6 g5 rfl u1 u2 hv (hE.x g1) (hE.x g2))

theorem d_mn {x : X} {ys : List X} (h : k_mn gl x ys o.op = true) (hv : evO cl rd G hh e s (.mn x ys) = some (v, s')) : Does K P c s' v (execOp a.eval o) := by
  simp only [evO, Option.map_eq_some_iff, Prod.mk.injEq] at hv
  obtain ⟨v', h1, rfl, rfl⟩ := hv
  unfold k_mn at h
  split at h
  case h_2 => cases h
  rename_i zs ts hop
  rw [exec_builtin hop]
  refine does_r hI ?_
  cases hz : zs.toList with
  | nil => rw [hz] at h; simp [xsOK] at h
  | cons z zl =>
    rw [hz] at h
    simp only [xsOK, Bool.and_eq_true] at h
    obtain ⟨g1, g2⟩ := hE.xs h.2
    obtain ⟨cv, r1, r2⟩ := r_fold (P := P) (w := c.w) (g := Builtin.min2) r_mn2 (ys.map (X.ev G e)) (zl.map a.eval) _ _ _ h1 (hE.x h.1) (by simpa using g1) g2
    refine ⟨cv, ?_, r2⟩
    unfold Builtin.min_
    simp only [Array.toList_map, hz, List.map_cons]
    exact r1

theorem d_mx {x : X} {ys : List X} (h : k_mx gl x ys o.op = true) (hv : evO cl rd G hh e s (.mx x ys) = some (v, s')) : Does K P c s' v (execOp a.eval o) := by
  simp only [evO, Option.map_eq_some_iff, Prod.mk.injEq] at hv
  obtain ⟨v', h1, rfl, rfl⟩ := hv
  unfold k_mx at h
  split at h
  case h_2 => cases h
  rename_i zs ts hop
  rw [exec_builtin hop]
  refine does_r hI ?_
  cases hz : zs.toList with
  | nil => rw [hz] at h; simp [xsOK] at h
  | cons z zl =>
    rw [hz] at h
    simp only [xsOK, Bool.and_eq_true] at h
    obtain ⟨g1, g2⟩ := hE.xs h.2
    obtain ⟨cv, r1, r2⟩ := r_fold (P := P) (w := c.w) (g := Builtin.max2) r_mx2 (ys.map (X.ev G e)) (zl.map a.eval) _ _ _ h1 (hE.x h.1) (by simpa using g1) g2
    refine ⟨cv, ?_, r2⟩
    unfold Builtin.max_
    simp only [Array.toList_map, hz, List.map_cons]
    exact r1

include hTab in
theorem d_als {k n : Nat} (h : k_als T n o.op = true) (hv : evO cl rd G hh e s (.als k n) = some (v, s')) : Does K P c s' v (execOp a.eval o) := by
  have _ := hE
  simp only [evO] at hv
  unfold k_als at h
  split at h
  case h_2 => cases h
  rename_i t hop
  obtain ⟨ti, h1, h2⟩ := szOK_ok h
  unfold execOp
  rw [hop]
  exact does_v (r_als hI (hTab _ _ h1) h2 hv)

include hTab in
theorem d_fst {n : Nat} {x y : X} (h : k_store T gl n x y o.op = true) (hv : evO cl rd G hh e s (.fst n x y) = some (v, s')) : Does K P c s' v (execOp a.eval o) := by
  simp only [evO, Option.map_eq_some_iff, Prod.mk.injEq] at hv
  obtain ⟨s1, h1, rfl, rfl⟩ := hv
  unfold k_store at h
  split at h
  case h_2 => cases h
  rename_i t y' z' hop
  simp only [Bool.and_eq_true] at h
  obtain ⟨i, h3, h4⟩ := szOK_ok h.1.1
  unfold execOp
  rw [hop]
  exact does_u (r_fst hI (hTab _ _ h3) h4 h1 (hE.x h.1.2) (hE.x h.2))

/-- Does this operation call nothing? -/
def plainO : O → Bool
  | .call .. => false
  | .pcall .. => false
  | .callk .. => false
  | _ => true

include hTab in
theorem d_all {q : O} (hlt : hh < s.length) (hp : plainO q = true) (h : chkO T gl (P.eqGuardType P.depth) o.op q = true) (hv : evO cl rd G hh e s q = some (v, s')) : Does K P c s' v (execOp a.eval o) := by
  cases q with
  | mv x => exact d_mv hI hE h hv
  | pick x y z => exact d_pick hI hE h hv
  | alloc z => exact d_alloc hTab hI hE h hv
  | box x => exact d_box hI hE h hv
  | build z ps => exact d_build hTab hI hE h hv
  | bsl z n ps => exact d_bsl hTab hI hE h hv
  | bslo z n ps => exact d_bslo hTab hI hE h hv
  | load n ag x => exact d_load hTab hI hE h hv
  | store n x y => exact d_store hTab hI hE h hv
  | bin op x y => exact d_bin hI hE h hv
  | eq neg k x y => exact d_eq hTab hI hE h hv
  | not x => exact d_not hI hE h hv
  | neg x => exact d_neg hI hE h hv
  | cvt k x => exact d_cvt hTab hI hE h hv
  | mkfn f x y => exact d_mkfn hI hE h hv
  | mkmap => exact d_mkmap hI hE h hv
  | mksl z b n m => exact d_mksl hTab hI hE h hv
  | slice el x lo hi mx => exact d_slice hTab hI hE h hv
  | slstr x lo hi => exact d_slstr hTab hI hE h hv
  | nilfull => exact d_nilfull hTab hI hE h hv
  | slarr => cases h
  | fad off x => exact d_fad hTab hI hE h hv
  | field off n ag x => exact d_field hTab hI hE h hv
  | iad el x y => exact d_iad hTab hI hE h hv
  | iarr n el x y => exact d_iarr hTab hI hE h hv
  | ixa n el ag x y => exact d_ixa hTab hI hE h hv
  | ixs x y => exact d_ixs hTab hI hE h hv
  | lookup kk z ok m k => exact d_lookup hTab hI hE h hv
  | upd kk m k x => exact d_upd hTab hI hE h hv
  | ext x i => exact d_ext hI hE h hv
  | call f args => cases hp
  | pcall f args => cases hp
  | callk f args => cases hp
  | len x => exact d_len hTab hI hE h hv
  | lens x => exact d_lens hTab hI hE h hv
  | lenm x => exact d_lenm hTab hI hE h hv
  | lena n => exact d_lena hTab hI hE h hv
  | app p el by' x y => exact d_app hTab hI hE hlt h hv
  | appo el by' x y => exact d_appo hTab hI hE h hv
  | mn x ys => exact d_mn hI hE h hv
  | mx x ys => exact d_mx hI hE h hv
  | copy => cases h
  | als k n => exact d_als hTab hI hE h hv
  | fst n x y => exact d_fst hTab hI hE h hv
end
end Go.Ab
