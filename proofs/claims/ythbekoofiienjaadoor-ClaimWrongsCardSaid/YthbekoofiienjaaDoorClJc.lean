/-
  The claims: Match, With and Of; sets of small numbers.
-/
import Derived.Test.YthbekoofiienjaaDoorClFb
import Derived.Test.YthbekoofiienjaaDoorClD
namespace Go.Ab.Cl
open Go.Ab

theorem tokE_step {B : Bnd} (hB : B = Bk) {t : Tok} {k : Tok → Ans} {r : Ans} (h : k (eraseTok t) = r) : B.tok t k = r := by subst hB; show tokK t k = r; rw [tokK_eq]; exact h
/-! ### Match -/
theorem row_get {l : List Int} {i : Nat} (h : i < l.length) : (rowsI l)[i]? = some [.int .i64 l[i]] := by simp [rowsI, h]
theorem a24_L1_step {B : Bnd} (hB : B = Bk) {cl : CallK} {rd : RoundK} (l m : List Int) (hl : l.length ≤ 1000000000000000) {t t' : Tok} (ht : purTok t = true) (ht' : purTok t' = true) (n : Nat) (k : Ex → Env → St → Ans) (r : Ans) :
    ∀ (j i : Nat) (ok : Bool), l.length < i + j → i ≤ l.length → (ok = true → l.length = m.length) →
    (∀ x : Int, k (.exit 0) [(0, .sl (rowsI l) t), (1, .sl (rowsI m) t'), (5, .bool (ok && decide (l.drop i = m.drop i))), (6, .int .i64 x)] [⟨[], []⟩] = r) →
    B.loop (evCK B a24_L1) [0, 1, 5, 6] n j cl rd Gx 0 1 [(0, .sl (rowsI l) t), (1, .sl (rowsI m) t'), (5, .bool ok), (6, .int .i64 (.ofNat i))] [⟨[], []⟩] k = r := by
  intro j
  induction j with
  | zero => intro i ok h1 h2; omega
  | succ j ih =>
    intro i ok h1 h2 h3 k1
    refine loop_succ hB ?_
    cases ok
    · conv => lhs; whnf
      repeat' ((first | refine purs_step hB rfl ?_ | refine lt_tt hB (by decide) ?_ | refine lt_ff hB (by decide) ?_ | refine le_tt hB (by decide) ?_ | refine le_ff hB (by decide) ?_ | refine eq_tt hB (by decide) ?_ | refine eq_ff hB (by decide) ?_ | refine fint_wrp hB (by omega) (by omega) ?_ | refine fint_step hB ?_ | refine fbool_tt hB ?_ | refine fbool_ff hB ?_ | refine fbool_split hB (fun _ => ?_) (fun _ => ?_) | refine ftok_step hB ?_ | refine frows_step hB ?_ | refine fstr_step hB ?_ | refine len_map hB ?_ | refine len_step hB ?_ | refine lens_step hB ?_ | refine byte_step hB ?_ | refine drop_step hB rfl ?_ | refine fl_step hB rfl ?_ | refine add_one hB (by first | omega | decide) ?_ | refine opt_step hB rfl ?_ | refine fnat_step hB ?_ | refine ifk_step hB rfl ?_ | refine ifk_step hB (flat_or rfl) ?_ | refine opt2_step hB rfl ?_ | refine obj_raw hB ?_ | refine sob_raw hB ?_ | refine fst_raw hB ?_ | refine optl_raw hB ?_ | refine tok_step hB rfl ?_) <;> conv => lhs; whnf)
      rw [clampTok_pur ht, clampTok_pur ht']
      exact k1 _
    · have hlm := h3 rfl
      conv => lhs; whnf
      (repeat' ((first | refine fnat_step hB ?_ | refine obj_raw hB ?_ | refine drop_step hB rfl ?_ | refine len_map hB ?_) <;> conv => lhs; whnf))
      refine lt_nat hB (fun h => ?_) (fun h => ?_) <;> conv => lhs; whnf
      · have hx := row_get h
        have hy := row_get (l := m) (i := i) (by omega)
        have hdl : l.drop i = l[i] :: l.drop (i + 1) := List.drop_eq_getElem_cons h
        have hdm : m.drop i = m[i] :: m.drop (i + 1) := List.drop_eq_getElem_cons (by omega)
        rw [hdl, hdm] at k1
        generalize l[i] = a at hx k1
        generalize m[i] = b at hy k1
        repeat' ((first | refine fnat_pred hB ?_ | refine natOf_step hB (m := i) rfl ?_ | refine nth_step hB hx ?_ | refine nth_step hB hy ?_ | refine eq_split hB (fun heq => ?_) (fun heq => ?_) | refine purs_step hB rfl ?_ | refine lt_tt hB (by decide) ?_ | refine lt_ff hB (by decide) ?_ | refine le_tt hB (by decide) ?_ | refine le_ff hB (by decide) ?_ | refine eq_tt hB (by decide) ?_ | refine eq_ff hB (by decide) ?_ | refine fint_wrp hB (by omega) (by omega) ?_ | refine fint_step hB ?_ | refine fbool_tt hB ?_ | refine fbool_ff hB ?_ | refine fbool_split hB (fun _ => ?_) (fun _ => ?_) | refine ftok_step hB ?_ | refine frows_step hB ?_ | refine fstr_step hB ?_ | refine len_map hB ?_ | refine len_step hB ?_ | refine lens_step hB ?_ | refine byte_step hB ?_ | refine drop_step hB rfl ?_ | refine fl_step hB rfl ?_ | refine add_one hB (by first | omega | decide) ?_ | refine opt_step hB rfl ?_ | refine fnat_step hB ?_ | refine ifk_step hB rfl ?_ | refine ifk_step hB (flat_or rfl) ?_ | refine opt2_step hB rfl ?_ | refine obj_raw hB ?_ | refine sob_raw hB ?_ | refine fst_raw hB ?_ | refine optl_raw hB ?_ | refine tok_step hB rfl ?_) <;> conv => lhs; whnf)
        · subst heq
          rw [clampTok_pur ht, clampTok_pur ht']
          refine ih (i + 1) true (by omega) (by omega) (fun _ => hlm) fun x => ?_
          have k1 := k1 x
          simpa using k1
        · rw [clampTok_pur ht, clampTok_pur ht']
          refine ih (i + 1) false (by omega) (by omega) (fun h => by cases h) fun x => ?_
          have k1 := k1 x
          simpa [heq] using k1
      · repeat' ((first | refine purs_step hB rfl ?_ | refine lt_tt hB (by decide) ?_ | refine lt_ff hB (by decide) ?_ | refine le_tt hB (by decide) ?_ | refine le_ff hB (by decide) ?_ | refine eq_tt hB (by decide) ?_ | refine eq_ff hB (by decide) ?_ | refine fint_wrp hB (by omega) (by omega) ?_ | refine fint_step hB ?_ | refine fbool_tt hB ?_ | refine fbool_ff hB ?_ | refine fbool_split hB (fun _ => ?_) (fun _ => ?_) | refine ftok_step hB ?_ | refine frows_step hB ?_ | refine fstr_step hB ?_ | refine len_map hB ?_ | refine len_step hB ?_ | refine lens_step hB ?_ | refine byte_step hB ?_ | refine drop_step hB rfl ?_ | refine fl_step hB rfl ?_ | refine add_one hB (by first | omega | decide) ?_ | refine opt_step hB rfl ?_ | refine fnat_step hB ?_ | refine ifk_step hB rfl ?_ | refine ifk_step hB (flat_or rfl) ?_ | refine opt2_step hB rfl ?_ | refine obj_raw hB ?_ | refine sob_raw hB ?_ | refine fst_raw hB ?_ | refine optl_raw hB ?_ | refine tok_step hB rfl ?_) <;> conv => lhs; whnf)
        have hi : i = l.length := by omega
        subst hi
        rw [List.drop_length, hlm, List.drop_length] at k1
        rw [clampTok_pur ht, clampTok_pur ht']
        exact k1 _
theorem Match_ev {n : Nat} (hn : 1000000000000002 ≤ n) (l m : List Int) (hl : l.length ≤ 1000000000000000) {t t' : Tok} (ht : purTok t = true) (ht' : purTok t' = true) :
    (evKR Bk Gx fsT n).1 0 24 [.sl (rowsI l) t, .sl (rowsI m) t'] [] ansK = some (.bool (decide (l = m)), []) := by
  refine call_open (show fsT.find 24 = some a24 from rfl) (by omega) fun n' B cl rd hn' hB hcl hrd => ?_
  conv => lhs; whnf
  repeat' ((first | refine fnat_pred hB ?_ | refine tok_step hB ht ?_ | refine tok_step hB ht' ?_ | refine len_map hB ?_ | refine eq_split hB (fun heq => ?_) (fun heq => ?_) | refine a24_L1_step hB l m hl (purTok_clamp ht) (purTok_clamp ht') _ _ _ _ 0 _ (by omega) (by omega) (fun h => ?_) (fun x => ?_) | refine purs_step hB rfl ?_ | refine lt_tt hB (by decide) ?_ | refine lt_ff hB (by decide) ?_ | refine le_tt hB (by decide) ?_ | refine le_ff hB (by decide) ?_ | refine eq_tt hB (by decide) ?_ | refine eq_ff hB (by decide) ?_ | refine fint_wrp hB (by omega) (by omega) ?_ | refine fint_step hB ?_ | refine fbool_tt hB ?_ | refine fbool_ff hB ?_ | refine fbool_split hB (fun _ => ?_) (fun _ => ?_) | refine ftok_step hB ?_ | refine frows_step hB ?_ | refine fstr_step hB ?_ | refine len_map hB ?_ | refine len_step hB ?_ | refine lens_step hB ?_ | refine byte_step hB ?_ | refine drop_step hB rfl ?_ | refine fl_step hB rfl ?_ | refine add_one hB (by first | omega | decide) ?_ | refine opt_step hB rfl ?_ | refine fnat_step hB ?_ | refine ifk_step hB rfl ?_ | refine ifk_step hB (flat_or rfl) ?_ | refine opt2_step hB rfl ?_ | refine obj_raw hB ?_ | refine sob_raw hB ?_ | refine fst_raw hB ?_ | refine optl_raw hB ?_ | refine tok_step hB rfl ?_) <;> conv => lhs; whnf)
  · exact Int.ofNat.inj heq
  · rw [Bool.true_and, List.drop_zero, List.drop_zero]
  · cases h
  · have hne : ¬ l = m := fun h => heq (by rw [h])
    rw [Bool.false_and, decide_eq_false hne]

/-! ### With -/
theorem with1 {l : List Int} (hl : l.length ≤ 1000) {t : Tok} {f : List AObj} : appAt 0 [⟨f, []⟩] 7 1 8 (.sl [] .full) (.sl (rowsI l) t) = some (if l.isEmpty = true then (.sl [] .full, [⟨f, []⟩]) else (.sl (rowsI l) (.site 0 7 1), [⟨f, [(7, 1, l.length)]⟩])) := by
  cases l with
  | nil => rfl
  | cons a l =>
    have h1 : ((l.length + 1) * 8 ≤ 140737488355328) := by simp at hl; omega
    simp [appAt, rowsAt, rowsI, headFit, purs, pur, getTok, setTok, modFr, getFr, tokGet, tokSet, h1]
theorem with2 {l : List Int} (hl : l.length ≤ 1000) {f : List AObj} (z : Int) (hne : l ≠ []) : appAt 0 [⟨f, [(7, 1, l.length)]⟩] 10 1 8 (.sl (rowsI l) (.site 0 7 1)) (.sl [[.int .i64 z]] .full) = some (.sl (rowsI (l ++ [z])) (.site 0 7 1), [⟨f, [(7, 1, l.length + 1)]⟩]) := by
  cases l with
  | nil => exact absurd rfl hne
  | cons a l =>
    have h1 : ((l.length + 1 + 1) * 8 ≤ 140737488355328) := by simp at hl; omega
    simp [appAt, rowsAt, rowsI, headFit, purs, pur, getTok, setTok, modFr, getFr, tokGet, tokSet, h1]
theorem With_ev {n : Nat} (hn : 3 ≤ n) (l : List Int) (hl : l.length ≤ 1000) {t : Tok} (ht : purTok t = true) (z : Int) :
    (evKR Bk Gx fsT n).1 0 90 [.sl (rowsI l) t, .int .i64 z] [] ansK = some (.sl (rowsI (l ++ [z])) .any, []) := by
  refine call_open (show fsT.find 90 = some a90 from rfl) (by omega) fun n' B cl rd hn' hB hcl hrd => ?_
  cases l with
  | nil =>
    conv => lhs; whnf
    repeat' ((first | refine fnat_pred hB ?_ | refine tok_step hB ht ?_ | refine tokE_step hB ?_ | refine purs_step hB rfl ?_ | refine lt_tt hB (by decide) ?_ | refine lt_ff hB (by decide) ?_ | refine le_tt hB (by decide) ?_ | refine le_ff hB (by decide) ?_ | refine eq_tt hB (by decide) ?_ | refine eq_ff hB (by decide) ?_ | refine fint_wrp hB (by omega) (by omega) ?_ | refine fint_step hB ?_ | refine fbool_tt hB ?_ | refine fbool_ff hB ?_ | refine fbool_split hB (fun _ => ?_) (fun _ => ?_) | refine ftok_step hB ?_ | refine frows_step hB ?_ | refine fstr_step hB ?_ | refine len_map hB ?_ | refine len_step hB ?_ | refine lens_step hB ?_ | refine byte_step hB ?_ | refine drop_step hB rfl ?_ | refine fl_step hB rfl ?_ | refine add_one hB (by first | omega | decide) ?_ | refine opt_step hB rfl ?_ | refine fnat_step hB ?_ | refine ifk_step hB rfl ?_ | refine ifk_step hB (flat_or rfl) ?_ | refine opt2_step hB rfl ?_ | refine obj_raw hB ?_ | refine sob_raw hB ?_ | refine fst_raw hB ?_ | refine optl_raw hB ?_ | refine tok_step hB rfl ?_) <;> conv => lhs; whnf)
    all_goals rfl
  | cons a l =>
    have h1 : ∀ t : Tok, appAt 0 [⟨[], []⟩] 7 1 8 (.sl [] .full) (.sl (rowsI (a :: l)) t) = some (.sl (rowsI (a :: l)) (.site 0 7 1), [⟨[], [(7, 1, (a :: l).length)]⟩]) := fun t => with1 hl
    have h2 : appAt 0 [⟨[], [(7, 1, (a :: l).length)]⟩] 10 1 8 (.sl (rowsI (a :: l)) (.site 0 7 1)) (.sl [[.int .i64 z]] .full) = some (.sl (rowsI ((a :: l) ++ [z])) (.site 0 7 1), [⟨[], [(7, 1, (a :: l).length + 1)]⟩]) := with2 hl z (by simp)
    conv => lhs; whnf
    repeat' ((first | refine fnat_pred hB ?_ | refine tok_step hB ht ?_ | refine purs_step hB rfl ?_ | refine lt_tt hB (by decide) ?_ | refine lt_ff hB (by decide) ?_ | refine le_tt hB (by decide) ?_ | refine le_ff hB (by decide) ?_ | refine eq_tt hB (by decide) ?_ | refine eq_ff hB (by decide) ?_ | refine fint_wrp hB (by omega) (by omega) ?_ | refine fint_step hB ?_ | refine fbool_tt hB ?_ | refine fbool_ff hB ?_ | refine fbool_split hB (fun _ => ?_) (fun _ => ?_) | refine ftok_step hB ?_ | refine frows_step hB ?_ | refine fstr_step hB ?_ | refine len_map hB ?_ | refine len_step hB ?_ | refine lens_step hB ?_ | refine byte_step hB ?_ | refine drop_step hB rfl ?_ | refine fl_step hB rfl ?_ | refine add_one hB (by first | omega | decide) ?_ | refine opt_step hB rfl ?_ | refine fnat_step hB ?_ | refine ifk_step hB rfl ?_ | refine ifk_step hB (flat_or rfl) ?_ | refine opt2_step hB rfl ?_ | refine obj_raw hB ?_ | refine sob_raw hB ?_ | refine fst_raw hB ?_ | refine optl_raw hB ?_ | refine tok_step hB rfl ?_) <;> conv => lhs; whnf)
    refine opt2_step hB (h1 t) ?_
    conv => lhs; whnf
    repeat' ((first | refine fnat_pred hB ?_ | refine tok_step hB ht ?_ | refine purs_step hB rfl ?_ | refine lt_tt hB (by decide) ?_ | refine lt_ff hB (by decide) ?_ | refine le_tt hB (by decide) ?_ | refine le_ff hB (by decide) ?_ | refine eq_tt hB (by decide) ?_ | refine eq_ff hB (by decide) ?_ | refine fint_wrp hB (by omega) (by omega) ?_ | refine fint_step hB ?_ | refine fbool_tt hB ?_ | refine fbool_ff hB ?_ | refine fbool_split hB (fun _ => ?_) (fun _ => ?_) | refine ftok_step hB ?_ | refine frows_step hB ?_ | refine fstr_step hB ?_ | refine len_map hB ?_ | refine len_step hB ?_ | refine lens_step hB ?_ | refine byte_step hB ?_ | refine drop_step hB rfl ?_ | refine fl_step hB rfl ?_ | refine add_one hB (by first | omega | decide) ?_ | refine opt_step hB rfl ?_ | refine fnat_step hB ?_ | refine ifk_step hB rfl ?_ | refine ifk_step hB (flat_or rfl) ?_ | refine opt2_step hB rfl ?_ | refine obj_raw hB ?_ | refine sob_raw hB ?_ | refine fst_raw hB ?_ | refine optl_raw hB ?_ | refine tok_step hB rfl ?_) <;> conv => lhs; whnf)
    refine opt2_step hB h2 ?_
    conv => lhs; whnf
    repeat' ((first | refine fnat_pred hB ?_ | refine tok_step hB ht ?_ | refine tokE_step hB ?_ | refine purs_step hB rfl ?_ | refine lt_tt hB (by decide) ?_ | refine lt_ff hB (by decide) ?_ | refine le_tt hB (by decide) ?_ | refine le_ff hB (by decide) ?_ | refine eq_tt hB (by decide) ?_ | refine eq_ff hB (by decide) ?_ | refine fint_wrp hB (by omega) (by omega) ?_ | refine fint_step hB ?_ | refine fbool_tt hB ?_ | refine fbool_ff hB ?_ | refine fbool_split hB (fun _ => ?_) (fun _ => ?_) | refine ftok_step hB ?_ | refine frows_step hB ?_ | refine fstr_step hB ?_ | refine len_map hB ?_ | refine len_step hB ?_ | refine lens_step hB ?_ | refine byte_step hB ?_ | refine drop_step hB rfl ?_ | refine fl_step hB rfl ?_ | refine add_one hB (by first | omega | decide) ?_ | refine opt_step hB rfl ?_ | refine fnat_step hB ?_ | refine ifk_step hB rfl ?_ | refine ifk_step hB (flat_or rfl) ?_ | refine opt2_step hB rfl ?_ | refine obj_raw hB ?_ | refine sob_raw hB ?_ | refine fst_raw hB ?_ | refine optl_raw hB ?_ | refine tok_step hB rfl ?_) <;> conv => lhs; whnf)
    all_goals rfl

/-! ### Of -/
def ofFrom (t P j : Nat) : List Int := List.map (fun k : Nat => (k : Int)) ((List.range' j (P - j)).filter fun k => t.testBit k)
theorem ofFrom_end {t P j : Nat} (h : P ≤ j) : ofFrom t P j = [] := by
  unfold ofFrom
  rw [Nat.sub_eq_zero_of_le h]; rfl
theorem ofFrom_yes {t P j : Nat} (h : j < P) (hf : t.testBit j = true) : ofFrom t P j = (j : Int) :: ofFrom t P (j + 1) := by
  unfold ofFrom
  rw [show P - j = (P - (j + 1)) + 1 by omega, List.range'_succ, List.filter_cons_of_pos (p := fun k : Nat => t.testBit k) hf]; rfl
theorem ofFrom_no {t P j : Nat} (h : j < P) (hf : t.testBit j = false) : ofFrom t P j = ofFrom t P (j + 1) := by
  unfold ofFrom
  rw [show P - j = (P - (j + 1)) + 1 by omega, List.range'_succ, List.filter_cons_of_neg (p := fun k : Nat => t.testBit k) (by rw [hf]; exact Bool.false_ne_true)]
theorem a72_L1_step {B : Bnd} (hB : B = Bk) {cl : CallK} {rd : RoundK} (t P : Nat) (hP : P ≤ 8) {zt zP : Int} (hzP : zP = (P : Int)) (H40 : ∀ k : Nat, k < 9 → cl 0 40 [.int .i64 zt, .int .i64 (k : Int)] [] ansK = some (.bool (t.testBit k), []))
    (n : Nat) (k : Ex → Env → St → Ans) (r : Ans) :
    ∀ (j i0 : Nat) (acc : List Int), P < i0 + j → i0 ≤ P → acc.length ≤ i0 →
    (∀ x : Int, k (.exit 0) [(0, .int .i64 zt), (1, .int .i64 zP), (5, .sl (rowsI (acc ++ ofFrom t P i0)) (tk 0 18 (acc ++ ofFrom t P i0))), (6, .int .i64 x)] [⟨[], tks 18 (acc ++ ofFrom t P i0)⟩] = r) →
    B.loop (evCK B a72_L1) [0, 1, 5, 6] n j cl rd Gx 0 1 [(0, .int .i64 zt), (1, .int .i64 zP), (5, .sl (rowsI acc) (tk 0 18 acc)), (6, .int .i64 (.ofNat i0))] [⟨[], tks 18 acc⟩] k = r := by
  intro j
  induction j with
  | zero => intro i0 acc h1 h2; omega
  | succ j ih =>
    intro i0 acc h1 h2 h3 k1
    refine loop_succ hB ?_
    subst hzP
    conv => lhs; whnf
    refine lt_nat hB (fun h => ?_) (fun h => ?_) <;> conv => lhs; whnf
    · repeat' ((first | refine fnat_pred hB ?_ | refine pans_bool hB (H40 i0 (by omega)) (fun hc => ?_) (fun hc => ?_) | refine opt2_step hB (app_tk acc (i0 : Int) (by omega) _) ?_ | refine purs_step hB rfl ?_ | refine lt_tt hB (by decide) ?_ | refine lt_ff hB (by decide) ?_ | refine le_tt hB (by decide) ?_ | refine le_ff hB (by decide) ?_ | refine eq_tt hB (by decide) ?_ | refine eq_ff hB (by decide) ?_ | refine fint_wrp hB (by omega) (by omega) ?_ | refine fint_step hB ?_ | refine fbool_tt hB ?_ | refine fbool_ff hB ?_ | refine fbool_split hB (fun _ => ?_) (fun _ => ?_) | refine ftok_step hB ?_ | refine frows_step hB ?_ | refine fstr_step hB ?_ | refine len_map hB ?_ | refine len_step hB ?_ | refine lens_step hB ?_ | refine byte_step hB ?_ | refine drop_step hB rfl ?_ | refine fl_step hB rfl ?_ | refine add_one hB (by first | omega | decide) ?_ | refine opt_step hB rfl ?_ | refine fnat_step hB ?_ | refine ifk_step hB rfl ?_ | refine ifk_step hB (flat_or rfl) ?_ | refine opt2_step hB rfl ?_ | refine obj_raw hB ?_ | refine sob_raw hB ?_ | refine fst_raw hB ?_ | refine optl_raw hB ?_ | refine tok_step hB rfl ?_) <;> conv => lhs; whnf)
      · rw [ofFrom_yes h hc] at k1
        rw [clamp_tk (by omega)]
        refine ih (i0 + 1) (acc ++ [(i0 : Int)]) (by omega) (by omega) (by simp; omega) ?_
        rw [List.append_assoc]; exact k1
      · rw [ofFrom_no h hc] at k1
        rw [clamp_tk (by omega)]
        exact ih (i0 + 1) acc (by omega) (by omega) (by omega) k1
    · repeat' ((first | refine purs_step hB rfl ?_ | refine lt_tt hB (by decide) ?_ | refine lt_ff hB (by decide) ?_ | refine le_tt hB (by decide) ?_ | refine le_ff hB (by decide) ?_ | refine eq_tt hB (by decide) ?_ | refine eq_ff hB (by decide) ?_ | refine fint_wrp hB (by omega) (by omega) ?_ | refine fint_step hB ?_ | refine fbool_tt hB ?_ | refine fbool_ff hB ?_ | refine fbool_split hB (fun _ => ?_) (fun _ => ?_) | refine ftok_step hB ?_ | refine frows_step hB ?_ | refine fstr_step hB ?_ | refine len_map hB ?_ | refine len_step hB ?_ | refine lens_step hB ?_ | refine byte_step hB ?_ | refine drop_step hB rfl ?_ | refine fl_step hB rfl ?_ | refine add_one hB (by first | omega | decide) ?_ | refine opt_step hB rfl ?_ | refine fnat_step hB ?_ | refine ifk_step hB rfl ?_ | refine ifk_step hB (flat_or rfl) ?_ | refine opt2_step hB rfl ?_ | refine obj_raw hB ?_ | refine sob_raw hB ?_ | refine fst_raw hB ?_ | refine optl_raw hB ?_ | refine tok_step hB rfl ?_) <;> conv => lhs; whnf)
      have hi : i0 = P := by omega
      subst hi
      rw [ofFrom_end (Nat.le_refl _), List.append_nil] at k1
      rw [clamp_tk (by omega)]
      exact k1 _
theorem Of_ev {n : Nat} (hn : 1000000000000002 ≤ n) (t P : Nat) (ht : t < 512) (hP : P ≤ 8) {zt zP : Int} (hzt : zt = (t : Int)) (hzP : zP = (P : Int)) :
    (evKR Bk Gx fsT n).1 0 72 [.int .i64 zt, .int .i64 zP] [] ansK = some (.sl (rowsI (ofFrom t P 0)) (if (ofFrom t P 0).isEmpty = true then .nil else .any), []) := by
  refine call_open (show fsT.find 72 = some a72 from rfl) (by omega) fun n' B cl rd hn' hB hcl hrd => ?_
  have H40 : ∀ k : Nat, k < 9 → (evKR Bk Gx fsT n').1 0 40 [.int .i64 zt, .int .i64 (k : Int)] [] ansK = some (.bool (t.testBit k), []) := fun k hk => In_ev (n := n') (by omega) t k (by omega) hk hzt rfl
  rw [← hcl] at H40
  conv => lhs; whnf
  repeat' ((first | refine fnat_pred hB ?_ | refine a72_L1_step hB t P hP hzP H40 _ _ _ _ 0 [] (by omega) (by omega) (by simp) (fun x => ?_) | refine tokE_step hB ?_ | refine purs_step hB rfl ?_ | refine lt_tt hB (by decide) ?_ | refine lt_ff hB (by decide) ?_ | refine le_tt hB (by decide) ?_ | refine le_ff hB (by decide) ?_ | refine eq_tt hB (by decide) ?_ | refine eq_ff hB (by decide) ?_ | refine fint_wrp hB (by omega) (by omega) ?_ | refine fint_step hB ?_ | refine fbool_tt hB ?_ | refine fbool_ff hB ?_ | refine fbool_split hB (fun _ => ?_) (fun _ => ?_) | refine ftok_step hB ?_ | refine frows_step hB ?_ | refine fstr_step hB ?_ | refine len_map hB ?_ | refine len_step hB ?_ | refine lens_step hB ?_ | refine byte_step hB ?_ | refine drop_step hB rfl ?_ | refine fl_step hB rfl ?_ | refine add_one hB (by first | omega | decide) ?_ | refine opt_step hB rfl ?_ | refine fnat_step hB ?_ | refine ifk_step hB rfl ?_ | refine ifk_step hB (flat_or rfl) ?_ | refine opt2_step hB rfl ?_ | refine obj_raw hB ?_ | refine sob_raw hB ?_ | refine fst_raw hB ?_ | refine optl_raw hB ?_ | refine tok_step hB rfl ?_) <;> conv => lhs; whnf)
  rw [List.nil_append]
  unfold tk
  split <;> rfl

/-! ### sets -/
theorem bv_nat {a : Nat} (ha : a < 512) : (BitVec.ofInt 64 (a : Int)).toNat = a := by
  rw [BitVec.ofInt_natCast, BitVec.toNat_ofNat]
  omega
theorem and_gen {a b : Nat} (ha : a < 512) (hb : b < 512) : binAV .and (.int .i64 (a : Int)) (.int .i64 (b : Int)) = some (.int .i64 ((a &&& b : Nat) : Int)) := by
  have h : a &&& b < 512 := Nat.and_lt_two_pow (n := 9) a hb
  show (if IntKind.i64 = IntKind.i64 then intBin .and .i64 (a : Int) (b : Int) else none) = _
  rw [if_pos rfl]
  show some (AV.int .i64 (wrp .i64 (BitVec.ofInt 64 (a : Int) &&& BitVec.ofInt 64 (b : Int)).toNat)) = _
  rw [BitVec.toNat_and, bv_nat ha, bv_nat hb, wrp_i64 (by omega) (by omega)]
theorem or_gen {a b : Nat} (ha : a < 512) (hb : b < 512) : binAV .or (.int .i64 (a : Int)) (.int .i64 (b : Int)) = some (.int .i64 ((a ||| b : Nat) : Int)) := by
  have h : a ||| b < 512 := Nat.or_lt_two_pow (n := 9) ha hb
  show (if IntKind.i64 = IntKind.i64 then intBin .or .i64 (a : Int) (b : Int) else none) = _
  rw [if_pos rfl]
  show some (AV.int .i64 (wrp .i64 (BitVec.ofInt 64 (a : Int) ||| BitVec.ofInt 64 (b : Int)).toNat)) = _
  rw [BitVec.toNat_or, bv_nat ha, bv_nat hb, wrp_i64 (by omega) (by omega)]
theorem shl_all9 : ∀ k : Fin 9, isI (binAV .shl (.int .i64 1) (.int .i64 (k.val : Int))) ((1 <<< k.val : Nat) : Int) = true := by decide +kernel
theorem shl_gen {k : Nat} {b : Int} (hb : b = (k : Int)) (hk : k < 9) : binAV .shl (.int .i64 1) (.int .i64 b) = some (.int .i64 ((1 <<< k : Nat) : Int)) := by subst hb; exact isI_ok (shl_all9 ⟨k, hk⟩)
end Go.Ab.Cl

namespace Go.Ab.Cl
open Go.Ab

/-- What truths have told so far. -/
structure Sn where
  many : Int
  is : List Nat
  all : Nat
  some : Nat
  lo : Int
  hi : Int

/-- The bit of what a box is. -/
def keyOf (P : Nat) (z : Int) : Nat := if z < 0 then P else z.toNat
def markIs (P : Nat) (is : List Nat) (l : List Int) : List Nat := List.zipWith (fun x z => x ||| 1 <<< keyOf P z) is l
def tell (d : Desk) (s : Sn) (l : List Int) (t : Nat) : Sn :=
  if s.many = 0 then ⟨1, markIs d.ps.length s.is l, t, t, val d l, val d l⟩
  else ⟨s.many + 1, markIs d.ps.length s.is l, s.all &&& t, s.some ||| t, loI s.lo (val d l), hiI s.hi (val d l)⟩
def stepS (d : Desk) (rest : List Int → Nat → Int → Sn → Sn) (pre : List Int) (t : Nat) (st : Int) (s : Sn) (k : Int) : Sn :=
  if k = -1 then (if st < d.strange then rest (pre ++ [-1]) t (st + 1) s else s) else rest (pre ++ [k]) (t ||| 1 <<< k.toNat) st s
def walkV (d : Desk) : Nat → List Int → Nat → Int → Sn → Sn
  | 0, pre, t, _, s => tell d s pre t
  | m + 1, pre, t, st, s => (opts d (d.bs.length - (m + 1)) t).foldl (stepS d (walkV d m) pre t st) s

/-- All that truths of a kind tell. -/
structure Tells (d : Desk) (s : Sn) (S : List Int → Prop) (B : Int) : Prop where
  len : s.is.length = d.bs.length
  pos : 0 ≤ s.many
  bnd : s.many ≤ B
  non : s.many = 0 → ∀ l, ¬ S l
  one : s.many ≠ 0 → ∃ l, S l
  is : ∀ b n, b < d.bs.length → ((s.is[b]?.getD 0).testBit n = true ↔ ∃ l z, S l ∧ l[b]? = some z ∧ keyOf d.ps.length z = n)
  all : s.many ≠ 0 → ∀ n, (s.all.testBit n = true ↔ ∀ l, S l → (n : Int) ∈ l)
  some : s.many ≠ 0 → ∀ n, (s.some.testBit n = true ↔ ∃ l, S l ∧ (n : Int) ∈ l)
  lo : s.many ≠ 0 → (∃ l, S l ∧ s.lo = val d l) ∧ ∀ l, S l → s.lo ≤ val d l
  hi : s.many ≠ 0 → (∃ l, S l ∧ s.hi = val d l) ∧ ∀ l, S l → val d l ≤ s.hi
  lt : s.all < 256 ∧ s.some < 256 ∧ ∀ x ∈ s.is, x < 512

theorem one_bit (k n : Nat) : (1 <<< k : Nat).testBit n = decide (n = k) := by
  have := bit_or 0 k n
  simpa using this
theorem shl_lt {k : Nat} (hk : k < 9) : (1 <<< k : Nat) < 512 := by
  have : ∀ k : Fin 9, (1 <<< k.val : Nat) < 512 := by decide
  exact this ⟨k, hk⟩
theorem or_lt9 {a b : Nat} (ha : a < 512) (hb : b < 512) : a ||| b < 512 := Nat.or_lt_two_pow (n := 9) ha hb
theorem or_lt8 {a b : Nat} (ha : a < 256) (hb : b < 256) : a ||| b < 256 := Nat.or_lt_two_pow (n := 8) ha hb
theorem and_lt8 {a b : Nat} (hb : b < 256) : a &&& b < 256 := Nat.and_lt_two_pow (n := 8) a hb
theorem key_lt {P : Nat} {z : Int} (hP : P ≤ 8) (hz : z < P) : keyOf P z < 9 := by
  unfold keyOf; split <;> omega

theorem markIs_get {P : Nat} {is : List Nat} {l : List Int} {b : Nat} {z : Int} (hl : is.length = l.length) (hz : l[b]? = some z) : (markIs P is l)[b]?.getD 0 = (is[b]?.getD 0) ||| 1 <<< keyOf P z := by
  have hb : b < l.length := (List.getElem?_eq_some_iff.1 hz).1
  obtain ⟨_, hz2⟩ := List.getElem?_eq_some_iff.1 hz
  unfold markIs
  rw [List.getElem?_zipWith]
  rw [hz, List.getElem?_eq_getElem (by omega)]
  simp
theorem tells_congr {d : Desk} {s : Sn} {S T : List Int → Prop} {B : Int} (h : Tells d s S B) (e : ∀ l, S l ↔ T l) : Tells d s T B := by
  have : S = T := funext fun l => propext (e l)
  rw [← this]; exact h
theorem tells_le {d : Desk} {s : Sn} {S : List Int → Prop} {B C : Int} (h : Tells d s S B) (e : B ≤ C) : Tells d s S C := ⟨h.len, h.pos, by have := h.bnd; omega, h.non, h.one, h.is, h.all, h.some, h.lo, h.hi, h.lt⟩

theorem tell_tells {d : Desk} (hP : d.ps.length ≤ 8) {s : Sn} {S : List Int → Prop} {B : Int} (h : Tells d s S B) {l : List Int} {t : Nat} (hl : l.length = d.bs.length) (hz : ∀ z ∈ l, z < d.ps.length) (ht : t < 256) (htl : ∀ n, t.testBit n = true ↔ (n : Int) ∈ l) :
    Tells d (tell d s l t) (fun x => S x ∨ x = l) (B + 1) := by
  have h0 := h.pos
  have hB := h.bnd
  have his : ∀ b n, b < d.bs.length → (((markIs d.ps.length s.is l)[b]?.getD 0).testBit n = true ↔ ∃ x z, (S x ∨ x = l) ∧ x[b]? = some z ∧ keyOf d.ps.length z = n) := by
    intro b n hb
    obtain ⟨z, hzb⟩ : ∃ z, l[b]? = some z := ⟨l[b], by simp [hl, hb]⟩
    rw [markIs_get (by rw [h.len, hl]) hzb, Nat.testBit_or, one_bit, Bool.or_eq_true, decide_eq_true_eq, h.is b n hb]
    constructor
    · rintro (⟨x, z, h1, h2, h3⟩ | h1)
      · exact ⟨x, z, .inl h1, h2, h3⟩
      · exact ⟨l, z, .inr rfl, hzb, h1.symm⟩
    · rintro ⟨x, z', h1 | rfl, h2, h3⟩
      · exact .inl ⟨x, z', h1, h2, h3⟩
      · rw [hzb] at h2; cases h2; exact .inr h3.symm
  have hlen : (markIs d.ps.length s.is l).length = d.bs.length := by
    unfold markIs
    rw [List.length_zipWith, h.len, hl, Nat.min_self]
  have hlt : ∀ x ∈ markIs d.ps.length s.is l, x < 512 := by
    intro x hx
    obtain ⟨i, hi, rfl⟩ := List.mem_iff_getElem.1 hx
    have hi2 : i < d.bs.length := by omega
    obtain ⟨z, hzb⟩ : ∃ z, l[i]? = some z := ⟨l[i], by simp [hl, hi2]⟩
    have := markIs_get (P := d.ps.length) (is := s.is) (by rw [h.len, hl]) hzb
    rw [List.getElem?_eq_getElem hi] at this
    simp only [Option.getD_some] at this
    rw [this]
    refine or_lt9 ?_ (shl_lt (key_lt hP (hz z (List.mem_of_getElem? hzb))))
    have hi3 : i < s.is.length := by rw [h.len]; omega
    rw [List.getElem?_eq_getElem hi3, Option.getD_some]
    exact h.lt.2.2 _ (List.getElem_mem _)
  unfold tell
  split
  · rename_i hm
    have hn := h.non hm
    refine ⟨hlen, by show (0 : Int) ≤ 1; omega, by show (1 : Int) ≤ B + 1; omega, fun h => ?_, fun _ => ⟨l, .inr rfl⟩, his, fun _ n => ?_, fun _ n => ?_, fun _ => ?_, fun _ => ?_, ht, ht, hlt⟩
    · have h : (1 : Int) = 0 := h
      omega
    · show t.testBit n = true ↔ _
      rw [htl]
      exact ⟨fun h x hx => hx.elim (fun h => absurd h (hn x)) (fun e => e ▸ h), fun h => h l (.inr rfl)⟩
    · show t.testBit n = true ↔ _
      rw [htl]
      exact ⟨fun h => ⟨l, .inr rfl, h⟩, fun ⟨x, hx, h⟩ => hx.elim (fun h => absurd h (hn x)) (fun e => e ▸ h)⟩
    · exact ⟨⟨l, .inr rfl, rfl⟩, fun x hx => hx.elim (fun h => absurd h (hn x)) (fun e => e ▸ Int.le_refl _)⟩
    · exact ⟨⟨l, .inr rfl, rfl⟩, fun x hx => hx.elim (fun h => absurd h (hn x)) (fun e => e ▸ Int.le_refl _)⟩
  · rename_i hm
    refine ⟨hlen, by show (0 : Int) ≤ s.many + 1; omega, by show s.many + 1 ≤ B + 1; omega, fun h => ?_, fun _ => ⟨l, .inr rfl⟩, his, fun _ n => ?_, fun _ n => ?_, fun _ => ?_, fun _ => ?_, and_lt8 ht, or_lt8 h.lt.2.1 ht, hlt⟩
    · have h : s.many + 1 = 0 := h
      omega
    · show (s.all &&& t).testBit n = true ↔ _
      rw [Nat.testBit_and, Bool.and_eq_true, htl, h.all hm]
      exact ⟨fun ⟨h1, h2⟩ x hx => hx.elim (h1 x) (fun e => e ▸ h2), fun h => ⟨fun x hx => h x (.inl hx), h l (.inr rfl)⟩⟩
    · show (s.some ||| t).testBit n = true ↔ _
      rw [Nat.testBit_or, Bool.or_eq_true, htl, h.some hm]
      constructor
      · rintro (⟨x, h1, h2⟩ | h1)
        · exact ⟨x, .inl h1, h2⟩
        · exact ⟨l, .inr rfl, h1⟩
      · rintro ⟨x, h1 | rfl, h2⟩
        · exact .inl ⟨x, h1, h2⟩
        · exact .inr h2
    · obtain ⟨⟨x, h1, h2⟩, h3⟩ := h.lo hm
      show (∃ y, (S y ∨ y = l) ∧ loI s.lo (val d l) = val d y) ∧ ∀ y, S y ∨ y = l → loI s.lo (val d l) ≤ val d y
      refine ⟨?_, fun y hy => ?_⟩
      · rcases lo_or s.lo (val d l) with h | h <;> rw [h]
        · exact ⟨x, .inl h1, h2⟩
        · exact ⟨l, .inr rfl, rfl⟩
      · rcases hy with hy | rfl
        · have := lo_better.l s.lo (val d l)
          have := h3 y hy
          omega
        · exact lo_better.r s.lo (val d y)
    · obtain ⟨⟨x, h1, h2⟩, h3⟩ := h.hi hm
      show (∃ y, (S y ∨ y = l) ∧ hiI s.hi (val d l) = val d y) ∧ ∀ y, S y ∨ y = l → val d y ≤ hiI s.hi (val d l)
      refine ⟨?_, fun y hy => ?_⟩
      · rcases hi_or s.hi (val d l) with h | h <;> rw [h]
        · exact ⟨x, .inl h1, h2⟩
        · exact ⟨l, .inr rfl, rfl⟩
      · rcases hy with hy | rfl
        · have := hi_better.l s.hi (val d l)
          have := h3 y hy
          omega
        · exact hi_better.r s.hi (val d y)

/-- How many truths there can be. -/
def cnt : Nat → Int
  | 0 => 1
  | m + 1 => 9 * cnt m
theorem cnt_pos : ∀ m, 0 ≤ cnt m
  | 0 => by decide
  | m + 1 => by have := cnt_pos m; simp only [cnt]; omega

/-- What a walk begins with. -/
structure Pre (d : Desk) (m : Nat) (pre : List Int) (t : Nat) : Prop where
  len : pre.length + m = d.bs.length
  lt : ∀ z ∈ pre, z < d.ps.length
  ge : ∀ z ∈ pre, -1 ≤ z
  small : t < 256
  bits : ∀ n, t.testBit n = true ↔ (n : Int) ∈ pre
theorem Pre.odd {d : Desk} {m : Nat} {pre : List Int} {t : Nat} (h : Pre d (m + 1) pre t) : Pre d m (pre ++ [-1]) t where
  len := by have := h.len; simp; omega
  lt z hz := by
    rcases List.mem_append.1 hz with hz | hz
    · exact h.lt z hz
    · simp at hz; omega
  ge z hz := by
    rcases List.mem_append.1 hz with hz | hz
    · exact h.ge z hz
    · simp at hz; omega
  small := h.small
  bits n := by
    rw [h.bits, List.mem_append]
    constructor
    · exact .inl
    · rintro (h | h)
      · exact h
      · simp at h <;> omega
theorem Pre.par {d : Desk} {m : Nat} {pre : List Int} {t k : Nat} (h : Pre d (m + 1) pre t) (hk : k < d.ps.length) (hP : d.ps.length ≤ 8) : Pre d m (pre ++ [(k : Int)]) (t ||| 1 <<< k) where
  len := by have := h.len; simp; omega
  lt z hz := by
    rcases List.mem_append.1 hz with hz | hz
    · exact h.lt z hz
    · simp at hz; omega
  ge z hz := by
    rcases List.mem_append.1 hz with hz | hz
    · exact h.ge z hz
    · simp at hz; omega
  small := bits_lt h.small (by omega)
  bits n := by
    rw [bit_or, Bool.or_eq_true, h.bits, List.mem_append, decide_eq_true_eq, List.mem_singleton]
    constructor
    · rintro (h | h)
      · exact .inl h
      · exact .inr (by omega)
    · rintro (h | h)
      · exact .inl h
      · exact .inr (by omega)

theorem fold_tells {d : Desk} (hP : d.ps.length ≤ 8) {m : Nat} {pre : List Int} {t : Nat} {st : Int} (hp : Pre d (m + 1) pre t)
    (ih : ∀ {pre : List Int} {t : Nat} {st : Int} {s : Sn} {S : List Int → Prop} {B : Int}, Pre d m pre t → Tells d s S B → Tells d (walkV d m pre t st s) (fun x => S x ∨ ∃ l, Suf d (fun _ => none) m t st l ∧ x = pre ++ l) (B + cnt m)) : ∀ (ks : List Int), (∀ k ∈ ks, k ∈ opts d (d.bs.length - (m + 1)) t) → ∀ {s : Sn} {S : List Int → Prop} {B : Int}, Tells d s S B →
    Tells d (ks.foldl (stepS d (walkV d m) pre t st) s) (fun x => S x ∨ ∃ k l, k ∈ ks ∧ Ch d (fun _ => none) (d.bs.length - (m + 1)) t st (Suf d (fun _ => none) m) k l ∧ x = pre ++ k :: l) (B + (ks.length : Nat) * cnt m)
  | [], _, s, S, B, h => by
    refine tells_le (tells_congr h fun l => ?_) (by simp)
    simp
  | k :: ks, hk, s, S, B, h => by
    have hc := cnt_pos m
    have h1 : Tells d (stepS d (walkV d m) pre t st s k) (fun x => S x ∨ ∃ l, Ch d (fun _ => none) (d.bs.length - (m + 1)) t st (Suf d (fun _ => none) m) k l ∧ x = pre ++ k :: l) (B + cnt m) := by
      unfold stepS
      rcases opts_iff.1 (hk k (List.mem_cons_self ..)) with ⟨rfl, ho⟩ | ⟨n, rfl, hf⟩
      · rw [if_pos rfl]
        split
        · rename_i hst
          refine tells_congr (ih (st := st + 1) hp.odd h) fun x => ?_
          constructor
          · rintro (h | ⟨l, h1, rfl⟩)
            · exact .inl h
            · exact .inr ⟨l, ⟨rfl, by rw [if_pos rfl]; exact ⟨by omega, h1⟩⟩, by simp⟩
          · rintro (h | ⟨l, ⟨_, h1⟩, rfl⟩)
            · exact .inl h
            · rw [if_pos rfl] at h1
              exact .inr ⟨l, h1.2, by simp⟩
        · rename_i hst
          refine tells_le (tells_congr h fun x => ?_) (by omega)
          constructor
          · exact .inl
          · rintro (h | ⟨l, ⟨_, h1⟩, rfl⟩)
            · exact h
            · rw [if_pos rfl] at h1
              exact absurd h1.1 (by omega)
      · have hn : ¬ ((n : Int) = -1) := by omega
        rw [if_neg hn, Int.toNat_natCast]
        rw [fits_fit, Bool.and_eq_true] at hf
        refine tells_congr (ih (st := st) (hp.par (fit_lt hf.2).2 hP) h) fun x => ?_
        constructor
        · rintro (h | ⟨l, h1, rfl⟩)
          · exact .inl h
          · exact .inr ⟨l, ⟨rfl, by rw [if_neg hn, Int.toNat_natCast]; exact h1⟩, by simp⟩
        · rintro (h | ⟨l, ⟨_, h1⟩, rfl⟩)
          · exact .inl h
          · rw [if_neg hn, Int.toNat_natCast] at h1
            exact .inr ⟨l, h1, by simp⟩
    have hh := fold_tells hP (st := st) hp ih ks (fun k hk' => hk k (List.mem_cons_of_mem _ hk')) h1
    refine tells_le (tells_congr hh fun x => ?_) ?_
    · constructor
      · rintro ((h | ⟨l, h1, rfl⟩) | ⟨k', l, h1, h2, rfl⟩)
        · exact .inl h
        · exact .inr ⟨k, l, List.mem_cons_self .., h1, rfl⟩
        · exact .inr ⟨k', l, List.mem_cons_of_mem _ h1, h2, rfl⟩
      · rintro (h | ⟨k', l, h1, h2, rfl⟩)
        · exact .inl (.inl h)
        · rcases List.mem_cons.1 h1 with rfl | h1
          · exact .inl (.inr ⟨l, h2, rfl⟩)
          · exact .inr ⟨k', l, h1, h2, rfl⟩
    · simp only [List.length_cons, Int.natCast_add, Int.add_mul]
      omega

theorem opts_len {d : Desk} {i t : Nat} (hP : d.ps.length ≤ 8) : (opts d i t).length ≤ 9 := by
  have : (optsFrom d i t 0).length ≤ d.ps.length := by
    unfold optsFrom
    rw [List.length_map]
    refine Nat.le_trans (List.length_filter_le _ _) ?_
    simp
  unfold opts; split <;> simp <;> omega

theorem walk_tells {d : Desk} (hP : d.ps.length ≤ 8) : ∀ (m : Nat) {pre : List Int} {t : Nat} {st : Int} {s : Sn} {S : List Int → Prop} {B : Int}, Pre d m pre t → Tells d s S B →
    Tells d (walkV d m pre t st s) (fun x => S x ∨ ∃ l, Suf d (fun _ => none) m t st l ∧ x = pre ++ l) (B + cnt m)
  | 0, pre, t, st, s, S, B, hp, h => by
    refine tells_congr (tell_tells hP h (by have := hp.len; omega) hp.lt hp.small hp.bits) fun x => ?_
    constructor
    · rintro (h | rfl)
      · exact .inl h
      · exact .inr ⟨[], rfl, by simp⟩
    · rintro (h | ⟨l, h1, rfl⟩)
      · exact .inl h
      · have h1 : l = [] := h1
        subst h1
        exact .inr (by simp)
  | m + 1, pre, t, st, s, S, B, hp, h => by
    have h1 := fold_tells hP (st := st) hp (fun hp h => walk_tells hP m hp h) (opts d (d.bs.length - (m + 1)) t) (fun _ h => h) h
    have h9 : (opts d (d.bs.length - (m + 1)) t).length ≤ 9 := opts_len hP
    refine tells_le (tells_congr h1 fun x => ?_) ?_
    · constructor
      · rintro (h | ⟨k, l, h1, h2, rfl⟩)
        · exact .inl h
        · exact .inr ⟨k :: l, ⟨k, l, rfl, h1, h2⟩, rfl⟩
      · rintro (h | ⟨_, ⟨k, l, rfl, h1, h2⟩, rfl⟩)
        · exact .inl h
        · exact .inr ⟨k, l, h1, h2, rfl⟩
    · have : ((opts d (d.bs.length - (m + 1)) t).length : Int) * cnt m ≤ 9 * cnt m := Int.mul_le_mul_of_nonneg_right (by omega) (cnt_pos m)
      simp only [cnt]
      omega

/-- What all truths tell. -/
def seenV (d : Desk) : Sn := walkV d d.bs.length [] 0 0 ⟨0, List.replicate d.bs.length 0, 0, 0, 0, 0⟩
theorem tells_none (d : Desk) : Tells d ⟨0, List.replicate d.bs.length 0, 0, 0, 0, 0⟩ (fun _ => False) 0 where
  len := by simp
  pos := by simp
  bnd := by simp
  non _ l h := h
  one h := absurd rfl h
  is b n hb := by simp [hb]
  all h := absurd rfl h
  some h := absurd rfl h
  lo h := absurd rfl h
  hi h := absurd rfl h
  lt := ⟨by show (0 : Nat) < 256; omega, by show (0 : Nat) < 256; omega, fun x hx => by have := List.eq_of_mem_replicate hx; omega⟩
theorem seen_tells {d : Desk} (hc : d.check = true) : Tells d (seenV d) (Tr d) (cnt d.bs.length) := by
  have hs := check_strange hc
  have h := walk_tells (check_fine hc).np d.bs.length (pre := []) (t := 0) (st := 0) ⟨by simp, by simp, by simp, by decide, by simp⟩ (tells_none d)
  refine tells_le (tells_congr h fun x => ?_) (by omega)
  simp only [false_or, List.nil_append, Suf_all hs.1]
  constructor
  · rintro ⟨l, ⟨h, _⟩, rfl⟩; exact h
  · intro h; exact ⟨x, ⟨h, fun _ _ _ => rfl⟩, rfl⟩
end Go.Ab.Cl

namespace Go.Ab.Cl
open Go.Ab

def cellsI (l : List Nat) : List AV := l.map fun x : Nat => .int .i64 (x : Int)
def nats (l : List Nat) : List Int := l.map fun x : Nat => (x : Int)
def Sn.c (s : Sn) (v : AV) : List AV := [.int .i64 s.many, v, .int .i64 (s.all : Int), .int .i64 (s.some : Int), .int .i64 s.lo, .int .i64 s.hi]
/-- A value that stands for numbers, seen from below a frame. -/
def IsV (s : St) (v : AV) (is : List Nat) : Prop := (∃ t, purTok t = true ∧ v = .sl (rowsI (nats is)) t) ∨ ∃ l i, v = .os l i 0 is.length 1 ∧ l < s.length ∧ getObj s l i = some (.cells (cellsI is))
def wt : List Nat → Tok
  | [] => .full
  | _ :: _ => .any
theorem wt_pur (l : List Nat) : purTok (wt l) = true := by cases l <;> rfl
theorem wt_ne {l : List Nat} (h : l ≠ []) : wt l = .any := by cases l <;> first | rfl | exact absurd rfl h
def IsR (v : AV) (is : List Nat) (v' : AV) (is' : List Nat) : Prop := v' = .sl (rowsI (nats is')) (wt is') ∨ (v' = v ∧ is' = is ∧ is ≠ [])
theorem IsR.refl (v : AV) {is : List Nat} (h : is ≠ []) : IsR v is v is := .inr ⟨rfl, rfl, h⟩
theorem IsR.trans {v v' v'' : AV} {is is' is'' : List Nat} (h : IsR v is v' is') (h' : IsR v' is' v'' is'') : IsR v is v'' is'' := by
  rcases h' with h' | ⟨rfl, rfl, _⟩
  · exact .inl h'
  · exact h
theorem IsR.isV {s : St} {v v' : AV} {is is' : List Nat} (h : IsR v is v' is') (hv : IsV s v is) : IsV s v' is' := by
  rcases h with rfl | ⟨rfl, rfl, _⟩
  · exact .inl ⟨_, wt_pur _, rfl⟩
  · exact hv
theorem IsV.up {s : St} {v : AV} {is : List Nat} (h : IsV s v is) (f : Fr) : IsV (f :: s) v is := by
  rcases h with h | ⟨l, i, h1, h2, h3⟩
  · exact .inl h
  · exact .inr ⟨l, i, h1, by simp; omega, (getObj_sub h2).trans h3⟩

theorem clamps_sn {s : St} {D : Nat} (hD : D = s.length) {v : AV} {is : List Nat} (sn : Sn) (hv : IsV s v is) : clamps D (sn.c v) = some (sn.c v) := by
  rcases hv with ⟨t, ht, rfl⟩ | ⟨l, i, rfl, h1, _⟩
  · simp [clamps, clamp, Sn.c, clampTok_pur ht]
  · have : l ≤ D := by omega
    simp [clamps, clamp, Sn.c, this]
theorem a87_L2_step {B : Bnd} (hB : B = Bk) {cl : CallK} {rd : RoundK} (d : Desk) (hd : d.ok) (hc : d.check = true) (i t : Nat) (ht : t < 256) (b : Box) (hb : d.bs[i]? = some b) (st : Int) {zi zt : Int} (hzi : zi = (i : Int)) (hzt : zt = (t : Int))
    (pre : List Int) {tp : Tok} (htp : purTok tp = true) (s : St) {D : Nat} (hD : D = s.length) (z6 : List AV) (rest : List Int → Nat → Int → Sn → Sn)
    (H40 : ∀ k : Nat, k < 9 → cl 0 40 [.int .i64 zt, .int .i64 (k : Int)] [] ansK = some (.bool (t.testBit k), []))
    (H56 : ∀ (k : Nat) (p : Parcel), d.ps[k]? = some p → cl 0 56 [d.v, .int .i64 zi, .int .i64 (k : Int)] [] ansK = some (.bool (couldB d b p), []))
    (H90 : ∀ k : Nat, cl 0 90 [.sl (rowsI pre) tp, .int .i64 (k : Int)] [] ansK = some (.sl (rowsI (pre ++ [(k : Int)])) .any, []))
    (Q : Nat → Sn → Prop)
    (H87 : ∀ (k : Nat) (sn : Sn) (v : AV) (f f' : Fr) (kont : AV → St → Ans) (r : Ans), k < d.ps.length → fitsB d i t k = true → Q k sn → IsV s v sn.is → (∀ v', IsR v sn.is v' (rest (pre ++ [(k : Int)]) (t ||| 1 <<< k) st sn).is → kont (.agg ((rest (pre ++ [(k : Int)]) (t ||| 1 <<< k) st sn).c v')) (f :: f' :: s) = r) →
      cl (D + 1 + 1) 87 [d.v, .sl (rowsI (pre ++ [(k : Int)])) .any, .int .i64 ((t ||| 1 <<< k : Nat) : Int), .int .i64 st, .agg (sn.c v)] (f :: f' :: s) kont = r)
    (hQ : ∀ k sn, k < d.ps.length → fitsB d i t k = true → Q k sn → Q (k + 1) (rest (pre ++ [(k : Int)]) (t ||| 1 <<< k) st sn)) (hQn : ∀ k sn, Q k sn → Q (k + 1) sn) (hQe : ∀ k sn, Q k sn → sn.is ≠ [])
    (n : Nat) (k : Ex → Env → St → Ans) (r : Ans) :
    ∀ (j i0 : Nat) (sn : Sn) (v : AV), d.ps.length < i0 + j → i0 ≤ d.ps.length → Q i0 sn → IsV s v sn.is →
    (∀ v' x, IsR v sn.is v' ((optsFrom d i t i0).foldl (stepS d rest pre t st) sn).is → k (.exit 2) [(1, .sl (rowsI pre) tp), (2, .int .i64 zt), (3, .int .i64 st), (5, .ptr D 0 0), (9, .ptr D 1 0), (10, .ptr D 2 0), (14, .int .i64 zi), (15, .int .i64 x)] (⟨[.cells d.c, .cells (((optsFrom d i t i0).foldl (stepS d rest pre t st) sn).c v'), .cells z6], []⟩ :: s) = r) →
    B.loop (evCK B a87_L2) [1, 2, 3, 5, 9, 10, 14, 15] n j cl rd Gx D (D + 1) [(1, .sl (rowsI pre) tp), (2, .int .i64 zt), (3, .int .i64 st), (5, .ptr D 0 0), (9, .ptr D 1 0), (10, .ptr D 2 0), (14, .int .i64 zi), (15, .int .i64 (.ofNat i0))] (⟨[.cells d.c, .cells (sn.c v), .cells z6], []⟩ :: s) k = r := by
  intro j
  induction j with
  | zero => intro i0 sn v h1 h2; omega
  | succ j ih =>
    intro i0 sn v h1 h2 h3 hv k1
    have hnp := (check_fine hc).np
    have hi := (List.getElem?_eq_some_iff.1 hb).1
    have hnb := (check_fine hc).nb
    have hl2 : ∀ (g g' : Fr), D + 1 + 1 = (g :: g' :: s : St).length := fun _ _ => by simp [hD]
    have hl0 : ∀ (g : Fr), D < (g :: s : St).length := fun _ => by simp [hD]
    refine loop_succ hB ?_
    conv => lhs; whnf
    repeat' ((first | refine fnat_pred hB ?_ | refine obj_step hB (hl2 _ _) ((getObj_sub (hl0 _)).trans ((getObj_top hD).trans rfl)) ?_ | refine sob_step hB (hl2 _ _) ((setObj_sub (hl0 _)).trans (congrArg (_ :: ·) (setTop1 hD))) ?_ | refine lt_nat hB (fun h => ?_) (fun h => ?_) | refine purs_step hB rfl ?_ | refine lt_tt hB (by decide) ?_ | refine lt_ff hB (by decide) ?_ | refine le_tt hB (by decide) ?_ | refine le_ff hB (by decide) ?_ | refine eq_tt hB (by decide) ?_ | refine eq_ff hB (by decide) ?_ | refine fint_wrp hB (by omega) (by omega) ?_ | refine fint_step hB ?_ | refine fbool_tt hB ?_ | refine fbool_ff hB ?_ | refine fbool_split hB (fun _ => ?_) (fun _ => ?_) | refine ftok_step hB ?_ | refine frows_step hB ?_ | refine fstr_step hB ?_ | refine len_map hB ?_ | refine len_step hB ?_ | refine lens_step hB ?_ | refine byte_step hB ?_ | refine drop_step hB rfl ?_ | refine fl_step hB rfl ?_ | refine add_one hB (by first | omega | decide) ?_ | refine opt_step hB rfl ?_ | refine fnat_step hB ?_ | refine ifk_step hB rfl ?_ | refine ifk_step hB (flat_or rfl) ?_ | refine opt2_step hB rfl ?_ | refine obj_raw hB ?_ | refine sob_raw hB ?_ | refine fst_raw hB ?_ | refine optl_raw hB ?_ | refine tok_step hB rfl ?_) <;> conv => lhs; whnf)
    · obtain ⟨p, hp⟩ := meantRow d h
      have hfit : fitsB d i t i0 = (!t.testBit i0 && couldB d b p) := by simp [fitsB, hb, hp]
      have HIn := H40 i0 (by omega)
      have HC := H56 i0 p hp
      have HW := H90 i0
      have hv0 := hv
      rcases hv with ⟨tv, htv, rfl⟩ | ⟨lv, iv, rfl, hlv, hgv⟩
      · conv => lhs; whnf
        repeat' ((first | refine fnat_pred hB ?_ | refine tok_step hB hd.tp ?_ | refine tok_step hB hd.tb ?_ | refine tok_step hB htp ?_ | refine tok_step hB htv ?_ | refine purs_step hB (by simp [purs, pur, hd.tp, hd.tb, htp]) ?_ | refine obj_step hB (hl2 _ _) ((getObj_sub (hl0 _)).trans ((getObj_top hD).trans rfl)) ?_ | refine sob_step hB (hl2 _ _) ((setObj_sub (hl0 _)).trans (congrArg (_ :: ·) (setTop1 hD))) ?_ | refine pans_bool hB HIn (fun a1 => ?_) (fun a1 => ?_) | refine pans_bool hB HC (fun a2 => ?_) (fun a2 => ?_) | refine pans_step hB HW ?_ | refine opt_step hB (shl_ok rfl (by omega)) ?_ | refine opt_step hB (or_ok hzt ht (by omega)) ?_ | refine fbool_same hB (by omega) ?_ | refine fbool_other hB (by omega) ?_ | refine ifk_step hB (Nat.ble_eq_true_of_le (by omega)) ?_ | refine optl_step hB (clamps_sn hD _ (hv'.isV hv0)) ?_ | refine H87 i0 sn _ _ _ _ _ h (by rw [hfit, a1, a2]; rfl) h3 hv0 (fun v' hv' => ?_) | refine purs_step hB rfl ?_ | refine lt_tt hB (by decide) ?_ | refine lt_ff hB (by decide) ?_ | refine le_tt hB (by decide) ?_ | refine le_ff hB (by decide) ?_ | refine eq_tt hB (by decide) ?_ | refine eq_ff hB (by decide) ?_ | refine fint_wrp hB (by omega) (by omega) ?_ | refine fint_step hB ?_ | refine fbool_tt hB ?_ | refine fbool_ff hB ?_ | refine fbool_split hB (fun _ => ?_) (fun _ => ?_) | refine ftok_step hB ?_ | refine frows_step hB ?_ | refine fstr_step hB ?_ | refine len_map hB ?_ | refine len_step hB ?_ | refine lens_step hB ?_ | refine byte_step hB ?_ | refine drop_step hB rfl ?_ | refine fl_step hB rfl ?_ | refine add_one hB (by first | omega | decide) ?_ | refine opt_step hB rfl ?_ | refine fnat_step hB ?_ | refine ifk_step hB rfl ?_ | refine ifk_step hB (flat_or rfl) ?_ | refine opt2_step hB rfl ?_ | refine obj_raw hB ?_ | refine sob_raw hB ?_ | refine fst_raw hB ?_ | refine optl_raw hB ?_ | refine tok_step hB rfl ?_) <;> conv => lhs; whnf)
        · rw [optsFrom_no h (by rw [hfit, a1]; rfl)] at k1
          rw [clampTok_pur htp]
          exact ih (i0 + 1) sn _ (by omega) (by omega) (hQn _ _ h3) hv0 k1
        · have hf : fitsB d i t i0 = true := by rw [hfit, a1, a2]; rfl
          have hne : ¬ ((i0 : Int) = -1) := by omega
          have hstep : stepS d rest pre t st sn (i0 : Int) = rest (pre ++ [(i0 : Int)]) (t ||| 1 <<< i0) st sn := by
            unfold stepS
            rw [if_neg hne, Int.toNat_natCast]
          rw [optsFrom_yes h hf, List.foldl_cons, hstep] at k1
          rw [clampTok_pur htp]
          exact ih (i0 + 1) _ _ (by omega) (by omega) (hQ i0 sn h hf h3) (hv'.isV hv0) fun v'' x hr => k1 v'' x (hv'.trans hr)
        · rw [optsFrom_no h (by rw [hfit, a1, a2]; rfl)] at k1
          rw [clampTok_pur htp]
          exact ih (i0 + 1) sn _ (by omega) (by omega) (hQn _ _ h3) hv0 k1
      · conv => lhs; whnf
        repeat' ((first | refine fnat_pred hB ?_ | refine tok_step hB hd.tp ?_ | refine tok_step hB hd.tb ?_ | refine tok_step hB htp ?_ | refine fnat_step hB ?_ | refine purs_step hB (by simp [purs, pur, hd.tp, hd.tb, htp]) ?_ | refine obj_step hB (hl2 _ _) ((getObj_sub (hl0 _)).trans ((getObj_top hD).trans rfl)) ?_ | refine sob_step hB (hl2 _ _) ((setObj_sub (hl0 _)).trans (congrArg (_ :: ·) (setTop1 hD))) ?_ | refine pans_bool hB HIn (fun a1 => ?_) (fun a1 => ?_) | refine pans_bool hB HC (fun a2 => ?_) (fun a2 => ?_) | refine pans_step hB HW ?_ | refine opt_step hB (shl_ok rfl (by omega)) ?_ | refine opt_step hB (or_ok hzt ht (by omega)) ?_ | refine fbool_same hB (by omega) ?_ | refine fbool_other hB (by omega) ?_ | refine ifk_step hB (Nat.ble_eq_true_of_le (by omega)) ?_ | refine optl_step hB (clamps_sn hD _ (hv'.isV hv0)) ?_ | refine H87 i0 sn _ _ _ _ _ h (by rw [hfit, a1, a2]; rfl) h3 hv0 (fun v' hv' => ?_) | refine purs_step hB rfl ?_ | refine lt_tt hB (by decide) ?_ | refine lt_ff hB (by decide) ?_ | refine le_tt hB (by decide) ?_ | refine le_ff hB (by decide) ?_ | refine eq_tt hB (by decide) ?_ | refine eq_ff hB (by decide) ?_ | refine fint_wrp hB (by omega) (by omega) ?_ | refine fint_step hB ?_ | refine fbool_tt hB ?_ | refine fbool_ff hB ?_ | refine fbool_split hB (fun _ => ?_) (fun _ => ?_) | refine ftok_step hB ?_ | refine frows_step hB ?_ | refine fstr_step hB ?_ | refine len_map hB ?_ | refine len_step hB ?_ | refine lens_step hB ?_ | refine byte_step hB ?_ | refine drop_step hB rfl ?_ | refine fl_step hB rfl ?_ | refine add_one hB (by first | omega | decide) ?_ | refine opt_step hB rfl ?_ | refine fnat_step hB ?_ | refine ifk_step hB rfl ?_ | refine ifk_step hB (flat_or rfl) ?_ | refine opt2_step hB rfl ?_ | refine obj_raw hB ?_ | refine sob_raw hB ?_ | refine fst_raw hB ?_ | refine optl_raw hB ?_ | refine tok_step hB rfl ?_) <;> conv => lhs; whnf)
        · rw [optsFrom_no h (by rw [hfit, a1]; rfl)] at k1
          rw [clampTok_pur htp]
          exact ih (i0 + 1) sn _ (by omega) (by omega) (hQn _ _ h3) hv0 k1
        · have hf : fitsB d i t i0 = true := by rw [hfit, a1, a2]; rfl
          have hne : ¬ ((i0 : Int) = -1) := by omega
          have hstep : stepS d rest pre t st sn (i0 : Int) = rest (pre ++ [(i0 : Int)]) (t ||| 1 <<< i0) st sn := by
            unfold stepS
            rw [if_neg hne, Int.toNat_natCast]
          rw [optsFrom_yes h hf, List.foldl_cons, hstep] at k1
          rw [clampTok_pur htp]
          exact ih (i0 + 1) _ _ (by omega) (by omega) (hQ i0 sn h hf h3) (hv'.isV hv0) fun v'' x hr => k1 v'' x (hv'.trans hr)
        · rw [optsFrom_no h (by rw [hfit, a1, a2]; rfl)] at k1
          rw [clampTok_pur htp]
          exact ih (i0 + 1) sn _ (by omega) (by omega) (hQn _ _ h3) hv0 k1
    · repeat' ((first | refine ifk_step hB (Nat.ble_eq_true_of_le (by omega)) ?_ | refine tok_step hB htp ?_ | refine purs_step hB rfl ?_ | refine lt_tt hB (by decide) ?_ | refine lt_ff hB (by decide) ?_ | refine le_tt hB (by decide) ?_ | refine le_ff hB (by decide) ?_ | refine eq_tt hB (by decide) ?_ | refine eq_ff hB (by decide) ?_ | refine fint_wrp hB (by omega) (by omega) ?_ | refine fint_step hB ?_ | refine fbool_tt hB ?_ | refine fbool_ff hB ?_ | refine fbool_split hB (fun _ => ?_) (fun _ => ?_) | refine ftok_step hB ?_ | refine frows_step hB ?_ | refine fstr_step hB ?_ | refine len_map hB ?_ | refine len_step hB ?_ | refine lens_step hB ?_ | refine byte_step hB ?_ | refine drop_step hB rfl ?_ | refine fl_step hB rfl ?_ | refine add_one hB (by first | omega | decide) ?_ | refine opt_step hB rfl ?_ | refine fnat_step hB ?_ | refine ifk_step hB rfl ?_ | refine ifk_step hB (flat_or rfl) ?_ | refine opt2_step hB rfl ?_ | refine obj_raw hB ?_ | refine sob_raw hB ?_ | refine fst_raw hB ?_ | refine optl_raw hB ?_ | refine tok_step hB rfl ?_) <;> conv => lhs; whnf)
      have hi : i0 = d.ps.length := by omega
      subst hi
      rw [optsFrom_end (Nat.le_refl _)] at k1
      rw [clampTok_pur htp]
      exact k1 v _ (IsR.refl _ (hQe _ _ h3))
end Go.Ab.Cl
