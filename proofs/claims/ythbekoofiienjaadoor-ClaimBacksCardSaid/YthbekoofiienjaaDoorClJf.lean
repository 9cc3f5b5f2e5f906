/-
  The claims: Match, With and Of; sets of small numbers.
-/
import Derived.Test.YthbekoofiienjaaDoorClFb
import Derived.Test.YthbekoofiienjaaDoorClG
import Derived.Test.YthbekoofiienjaaDoorClS
namespace Go.Ab.Cl
open Go.Ab

theorem tokE_step {B : Bnd} (hB : B = Bk) {t : Tok} {k : Tok → Ans} {r : Ans} (h : k (eraseTok t) = r) : B.tok t k = r := by subst hB; show tokK t k = r; rw [tokK_eq]; exact h
/-! ### Match -/
theorem row_get {l : List Int} {i : Nat} (h : i < l.length) : (rowsI l)[i]? = some [.int .i64 l[i]] := by simp [rowsI, h]
theorem a24_L1_step {B : Bnd} (hB : B = Bk) {cl : CallK} {rd : RoundK} (l m : List Int) (hl : l.length ≤ 1000000000000000) {t t' : Tok} (ht : purTok t = true) (ht' : purTok t' = true) (n : Nat) (k : Ex → Env → St → Ans) (r : Ans) :
    ∀ (j i : Nat) (ok : Bool), l.length < i + j → i ≤ l.length → (ok = true → l.length = m.length) →
    (∀ x : Int, k (.exit 0) [(0, .sl (rowsI l) t), (1, .sl (rowsI m) t'), (5, .bool (ok && decide (l.drop i = m.drop i))), (6, .int .i64 x)] [⟨[], []⟩] = r) →
    B.loop (evCK B a24_L1) [0, 1, 5, 6] n j cl rd Gx 0 1 [(0, .sl (rowsI l) t), (1, .sl (rowsI m) t'), (5, .bool ok), (6, .int .i64 (.ofNat i))] [⟨[], []⟩] k = r := by
  intro j
  induction j with
  | zero => intro i ok h1 h2; omega
  | succ j ih =>
    intro i ok h1 h2 h3 k1
    refine loop_succ hB ?_
    cases ok
    · conv => lhs; whnf
      repeat' ((first | refine purs_step hB rfl ?_ | refine lt_tt hB (by decide) ?_ | refine lt_ff hB (by decide) ?_ | refine le_tt hB (by decide) ?_ | refine le_ff hB (by decide) ?_ | refine eq_tt hB (by decide) ?_ | refine eq_ff hB (by decide) ?_ | refine fint_wrp hB (by omega) (by omega) ?_ | refine fint_step hB ?_ | refine fbool_tt hB ?_ | refine fbool_ff hB ?_ | refine fbool_split hB (fun _ => ?_) (fun _ => ?_) | refine ftok_step hB ?_ | refine frows_step hB ?_ | refine fstr_step hB ?_ | refine len_map hB ?_ | refine len_step hB ?_ | refine lens_step hB ?_ | refine byte_step hB ?_ | refine drop_step hB rfl ?_ | refine fl_step hB rfl ?_ | refine add_one hB (by first | omega | decide) ?_ | refine opt_step hB rfl ?_ | refine fnat_step hB ?_ | refine ifk_step hB rfl ?_ | refine ifk_step hB (flat_or rfl) ?_ | refine opt2_step hB rfl ?_ | refine obj_raw hB ?_ | refine sob_raw hB ?_ | refine fst_raw hB ?_ | refine optl_raw hB ?_ | refine tok_step hB rfl ?_) <;> conv => lhs; whnf)
      rw [clampTok_pur ht, clampTok_pur ht']
      exact k1 _
    · have hlm := h3 rfl
      conv => lhs; whnf
      (repeat' ((first | refine fnat_step hB ?_ | refine obj_raw hB ?_ | refine drop_step hB rfl ?_ | refine len_map hB ?_) <;> conv => lhs; whnf))
      refine lt_nat hB (fun h => ?_) (fun h => ?_) <;> conv => lhs; whnf
      · have hx := row_get h
        have hy := row_get (l := m) (i := i) (by omega)
        have hdl : l.drop i = l[i] :: l.drop (i + 1) := List.drop_eq_getElem_cons h
        have hdm : m.drop i = m[i] :: m.drop (i + 1) := List.drop_eq_getElem_cons (by omega)
        rw [hdl, hdm] at k1
        generalize l[i] = a at hx k1
        generalize m[i] = b at hy k1
        repeat' ((first | refine fnat_pred hB ?_ | refine natOf_step hB (m := i) rfl ?_ | refine nth_step hB hx ?_ | refine nth_step hB hy ?_ | refine eq_split hB (fun heq => ?_) (fun heq => ?_) | refine purs_step hB rfl ?_ | refine lt_tt hB (by decide) ?_ | refine lt_ff hB (by decide) ?_ | refine le_tt hB (by decide) ?_ | refine le_ff hB (by decide) ?_ | refine eq_tt hB (by decide) ?_ | refine eq_ff hB (by decide) ?_ | refine fint_wrp hB (by omega) (by omega) ?_ | refine fint_step hB ?_ | refine fbool_tt hB ?_ | refine fbool_ff hB ?_ | refine fbool_split hB (fun _ => ?_) (fun _ => ?_) | refine ftok_step hB ?_ | refine frows_step hB ?_ | refine fstr_step hB ?_ | refine len_map hB ?_ | refine len_step hB ?_ | refine lens_step hB ?_ | refine byte_step hB ?_ | refine drop_step hB rfl ?_ | refine fl_step hB rfl ?_ | refine add_one hB (by first | omega | decide) ?_ | refine opt_step hB rfl ?_ | refine fnat_step hB ?_ | refine ifk_step hB rfl ?_ | refine ifk_step hB (flat_or rfl) ?_ | refine opt2_step hB rfl ?_ | refine obj_raw hB ?_ | refine sob_raw hB ?_ | refine fst_raw hB ?_ | refine optl_raw hB ?_ | refine tok_step hB rfl ?_) <;> conv => lhs; whnf)
        · subst heq
          rw [clampTok_pur ht, clampTok_pur ht']
          refine ih (i + 1) true (by omega) (by omega) (fun _ => hlm) fun x => ?_
          have k1 := k1 x
          simpa using k1
        · rw [clampTok_pur ht, clampTok_pur ht']
          refine ih (i + 1) false (by omega) (by omega) (fun h => by cases h) fun x => ?_
          have k1 := k1 x
          simpa [heq] using k1
      · repeat' ((first | refine purs_step hB rfl ?_ | refine lt_tt hB (by decide) ?_ | refine lt_ff hB (by decide) ?_ | refine le_tt hB (by decide) ?_ | refine le_ff hB (by decide) ?_ | refine eq_tt hB (by decide) ?_ | refine eq_ff hB (by decide) ?_ | refine fint_wrp hB (by omega) (by omega) ?_ | refine fint_step hB ?_ | refine fbool_tt hB ?_ | refine fbool_ff hB ?_ | refine fbool_split hB (fun _ => ?_) (fun _ => ?_) | refine ftok_step hB ?_ | refine frows_step hB ?_ | refine fstr_step hB ?_ | refine len_map hB ?_ | refine len_step hB ?_ | refine lens_step hB ?_ | refine byte_step hB ?_ | refine drop_step hB rfl ?_ | refine fl_step hB rfl ?_ | refine add_one hB (by first | omega | decide) ?_ | refine opt_step hB rfl ?_ | refine fnat_step hB ?_ | refine ifk_step hB rfl ?_ | refine ifk_step hB (flat_or rfl) ?_ | refine opt2_step hB rfl ?_ | refine obj_raw hB ?_ | refine sob_raw hB ?_ | refine fst_raw hB ?_ | refine optl_raw hB ?_ | refine tok_step hB rfl ?_) <;> conv => lhs; whnf)
        have hi : i = l.length := by omega
        subst hi
        rw [List.drop_length, hlm, List.drop_length] at k1
        rw [clampTok_pur ht, clampTok_pur ht']
        exact k1 _
theorem Match_ev {n : Nat} (hn : 1000000000000002 ≤ n) (l m : List Int) (hl : l.length ≤ 1000000000000000) {t t' : Tok} (ht : purTok t = true) (ht' : purTok t' = true) :
    (evKR Bk Gx fsT n).1 0 24 [.sl (rowsI l) t, .sl (rowsI m) t'] [] ansK = some (.bool (decide (l = m)), []) := by
  refine call_open (show fsT.find 24 = some a24 from rfl) (by omega) fun n' B cl rd hn' hB hcl hrd => ?_
  conv => lhs; whnf
  repeat' ((first | refine fnat_pred hB ?_ | refine tok_step hB ht ?_ | refine tok_step hB ht' ?_ | refine len_map hB ?_ | refine eq_split hB (fun heq => ?_) (fun heq => ?_) | refine a24_L1_step hB l m hl (purTok_clamp ht) (purTok_clamp ht') _ _ _ _ 0 _ (by omega) (by omega) (fun h => ?_) (fun x => ?_) | refine purs_step hB rfl ?_ | refine lt_tt hB (by decide) ?_ | refine lt_ff hB (by decide) ?_ | refine le_tt hB (by decide) ?_ | refine le_ff hB (by decide) ?_ | refine eq_tt hB (by decide) ?_ | refine eq_ff hB (by decide) ?_ | refine fint_wrp hB (by omega) (by omega) ?_ | refine fint_step hB ?_ | refine fbool_tt hB ?_ | refine fbool_ff hB ?_ | refine fbool_split hB (fun _ => ?_) (fun _ => ?_) | refine ftok_step hB ?_ | refine frows_step hB ?_ | refine fstr_step hB ?_ | refine len_map hB ?_ | refine len_step hB ?_ | refine lens_step hB ?_ | refine byte_step hB ?_ | refine drop_step hB rfl ?_ | refine fl_step hB rfl ?_ | refine add_one hB (by first | omega | decide) ?_ | refine opt_step hB rfl ?_ | refine fnat_step hB ?_ | refine ifk_step hB rfl ?_ | refine ifk_step hB (flat_or rfl) ?_ | refine opt2_step hB rfl ?_ | refine obj_raw hB ?_ | refine sob_raw hB ?_ | refine fst_raw hB ?_ | refine optl_raw hB ?_ | refine tok_step hB rfl ?_) <;> conv => lhs; whnf)
  · exact Int.ofNat.inj heq
  · rw [Bool.true_and, List.drop_zero, List.drop_zero]
  · cases h
  · have hne : ¬ l = m := fun h => heq (by rw [h])
    rw [Bool.false_and, decide_eq_false hne]

/-! ### With -/
theorem with1 {l : List Int} (hl : l.length ≤ 1000) {t : Tok} {f : List AObj} : appAt 0 [⟨f, []⟩] 7 1 8 (.sl [] .full) (.sl (rowsI l) t) = some (if l.isEmpty = true then (.sl [] .full, [⟨f, []⟩]) else (.sl (rowsI l) (.site 0 7 1), [⟨f, [(7, 1, l.length)]⟩])) := by
  cases l with
  | nil => rfl
  | cons a l =>
    have h1 : ((l.length + 1) * 8 ≤ 140737488355328) := by simp at hl; omega
    simp [appAt, rowsAt, rowsI, headFit, purs, pur, getTok, setTok, modFr, getFr, tokGet, tokSet, h1]
theorem with2 {l : List Int} (hl : l.length ≤ 1000) {f : List AObj} (z : Int) (hne : l ≠ []) : appAt 0 [⟨f, [(7, 1, l.length)]⟩] 10 1 8 (.sl (rowsI l) (.site 0 7 1)) (.sl [[.int .i64 z]] .full) = some (.sl (rowsI (l ++ [z])) (.site 0 7 1), [⟨f, [(7, 1, l.length + 1)]⟩]) := by
  cases l with
  | nil => exact absurd rfl hne
  | cons a l =>
    have h1 : ((l.length + 1 + 1) * 8 ≤ 140737488355328) := by simp at hl; omega
    simp [appAt, rowsAt, rowsI, headFit, purs, pur, getTok, setTok, modFr, getFr, tokGet, tokSet, h1]
theorem With_ev {n : Nat} (hn : 3 ≤ n) (l : List Int) (hl : l.length ≤ 1000) {t : Tok} (ht : purTok t = true) (z : Int) :
    (evKR Bk Gx fsT n).1 0 90 [.sl (rowsI l) t, .int .i64 z] [] ansK = some (.sl (rowsI (l ++ [z])) .any, []) := by
  refine call_open (show fsT.find 90 = some a90 from rfl) (by omega) fun n' B cl rd hn' hB hcl hrd => ?_
  cases l with
  | nil =>
    conv => lhs; whnf
    repeat' ((first | refine fnat_pred hB ?_ | refine tok_step hB ht ?_ | refine tokE_step hB ?_ | refine purs_step hB rfl ?_ | refine lt_tt hB (by decide) ?_ | refine lt_ff hB (by decide) ?_ | refine le_tt hB (by decide) ?_ | refine le_ff hB (by decide) ?_ | refine eq_tt hB (by decide) ?_ | refine eq_ff hB (by decide) ?_ | refine fint_wrp hB (by omega) (by omega) ?_ | refine fint_step hB ?_ | refine fbool_tt hB ?_ | refine fbool_ff hB ?_ | refine fbool_split hB (fun _ => ?_) (fun _ => ?_) | refine ftok_step hB ?_ | refine frows_step hB ?_ | refine fstr_step hB ?_ | refine len_map hB ?_ | refine len_step hB ?_ | refine lens_step hB ?_ | refine byte_step hB ?_ | refine drop_step hB rfl ?_ | refine fl_step hB rfl ?_ | refine add_one hB (by first | omega | decide) ?_ | refine opt_step hB rfl ?_ | refine fnat_step hB ?_ | refine ifk_step hB rfl ?_ | refine ifk_step hB (flat_or rfl) ?_ | refine opt2_step hB rfl ?_ | refine obj_raw hB ?_ | refine sob_raw hB ?_ | refine fst_raw hB ?_ | refine optl_raw hB ?_ | refine tok_step hB rfl ?_) <;> conv => lhs; whnf)
    all_goals rfl
  | cons a l =>
    have h1 : ∀ t : Tok, appAt 0 [⟨[], []⟩] 7 1 8 (.sl [] .full) (.sl (rowsI (a :: l)) t) = some (.sl (rowsI (a :: l)) (.site 0 7 1), [⟨[], [(7, 1, (a :: l).length)]⟩]) := fun t => with1 hl
    have h2 : appAt 0 [⟨[], [(7, 1, (a :: l).length)]⟩] 10 1 8 (.sl (rowsI (a :: l)) (.site 0 7 1)) (.sl [[.int .i64 z]] .full) = some (.sl (rowsI ((a :: l) ++ [z])) (.site 0 7 1), [⟨[], [(7, 1, (a :: l).length + 1)]⟩]) := with2 hl z (by simp)
    conv => lhs; whnf
    repeat' ((first | refine fnat_pred hB ?_ | refine tok_step hB ht ?_ | refine purs_step hB rfl ?_ | refine lt_tt hB (by decide) ?_ | refine lt_ff hB (by decide) ?_ | refine le_tt hB (by decide) ?_ | refine le_ff hB (by decide) ?_ | refine eq_tt hB (by decide) ?_ | refine eq_ff hB (by decide) ?_ | refine fint_wrp hB (by omega) (by omega) ?_ | refine fint_step hB ?_ | refine fbool_tt hB ?_ | refine fbool_ff hB ?_ | refine fbool_split hB (fun _ => ?_) (fun _ => ?_) | refine ftok_step hB ?_ | refine frows_step hB ?_ | refine fstr_step hB ?_ | refine len_map hB ?_ | refine len_step hB ?_ | refine lens_step hB ?_ | refine byte_step hB ?_ | refine drop_step hB rfl ?_ | refine fl_step hB rfl ?_ | refine add_one hB (by first | omega | decide) ?_ | refine opt_step hB rfl ?_ | refine fnat_step hB ?_ | refine ifk_step hB rfl ?_ | refine ifk_step hB (flat_or rfl) ?_ | refine opt2_step hB rfl ?_ | refine obj_raw hB ?_ | refine sob_raw hB ?_ | refine fst_raw hB ?_ | refine optl_raw hB ?_ | refine tok_step hB rfl ?_) <;> conv => lhs; whnf)
    refine opt2_step hB (h1 t) ?_
    conv => lhs; whnf
    repeat' ((first | refine fnat_pred hB ?_ | refine tok_step hB ht ?_ | refine purs_step hB rfl ?_ | refine lt_tt hB (by decide) ?_ | refine lt_ff hB (by decide) ?_ | refine le_tt hB (by decide) ?_ | refine le_ff hB (by decide) ?_ | refine eq_tt hB (by decide) ?_ | refine eq_ff hB (by decide) ?_ | refine fint_wrp hB (by omega) (by omega) ?_ | refine fint_step hB ?_ | refine fbool_tt hB ?_ | refine fbool_ff hB ?_ | refine fbool_split hB (fun _ => ?_) (fun _ => ?_) | refine ftok_step hB ?_ | refine frows_step hB ?_ | refine fstr_step hB ?_ | refine len_map hB ?_ | refine len_step hB ?_ | refine lens_step hB ?_ | refine byte_step hB ?_ | refine drop_step hB rfl ?_ | refine fl_step hB rfl ?_ | refine add_one hB (by first | omega | decide) ?_ | refine opt_step hB rfl ?_ | refine fnat_step hB ?_ | refine ifk_step hB rfl ?_ | refine ifk_step hB (flat_or rfl) ?_ | refine opt2_step hB rfl ?_ | refine obj_raw hB ?_ | refine sob_raw hB ?_ | refine fst_raw hB ?_ | refine optl_raw hB ?_ | refine tok_step hB rfl ?_) <;> conv => lhs; whnf)
    refine opt2_step hB h2 ?_
    conv => lhs; whnf
    repeat' ((first | refine fnat_pred hB ?_ | refine tok_step hB ht ?_ | refine tokE_step hB ?_ | refine purs_step hB rfl ?_ | refine lt_tt hB (by decide) ?_ | refine lt_ff hB (by decide) ?_ | refine le_tt hB (by decide) ?_ | refine le_ff hB (by decide) ?_ | refine eq_tt hB (by decide) ?_ | refine eq_ff hB (by decide) ?_ | refine fint_wrp hB (by omega) (by omega) ?_ | refine fint_step hB ?_ | refine fbool_tt hB ?_ | refine fbool_ff hB ?_ | refine fbool_split hB (fun _ => ?_) (fun _ => ?_) | refine ftok_step hB ?_ | refine frows_step hB ?_ | refine fstr_step hB ?_ | refine len_map hB ?_ | refine len_step hB ?_ | refine lens_step hB ?_ | refine byte_step hB ?_ | refine drop_step hB rfl ?_ | refine fl_step hB rfl ?_ | refine add_one hB (by first | omega | decide) ?_ | refine opt_step hB rfl ?_ | refine fnat_step hB ?_ | refine ifk_step hB rfl ?_ | refine ifk_step hB (flat_or rfl) ?_ | refine opt2_step hB rfl ?_ | refine obj_raw hB ?_ | refine sob_raw hB ?_ | refine fst_raw hB ?_ | refine optl_raw hB ?_ | refine tok_step hB rfl ?_) <;> conv => lhs; whnf)
    all_goals rfl

/-! ### Of -/
def ofFrom (t P j : Nat) : List Int := List.map (fun k : Nat => (k : Int)) ((List.range' j (P - j)).filter fun k => t.testBit k)
theorem ofFrom_end {t P j : Nat} (h : P ≤ j) : ofFrom t P j = [] := by
  unfold ofFrom
  rw [Nat.sub_eq_zero_of_le h]; rfl
theorem ofFrom_yes {t P j : Nat} (h : j < P) (hf : t.testBit j = true) : ofFrom t P j = (j : Int) :: ofFrom t P (j + 1) := by
  unfold ofFrom
  rw [show P - j = (P - (j + 1)) + 1 by omega, List.range'_succ, List.filter_cons_of_pos (p := fun k : Nat => t.testBit k) hf]; rfl
theorem ofFrom_no {t P j : Nat} (h : j < P) (hf : t.testBit j = false) : ofFrom t P j = ofFrom t P (j + 1) := by
  unfold ofFrom
  rw [show P - j = (P - (j + 1)) + 1 by omega, List.range'_succ, List.filter_cons_of_neg (p := fun k : Nat => t.testBit k) (by rw [hf]; exact Bool.false_ne_true)]
theorem a72_L1_step {B : Bnd} (hB : B = Bk) {cl : CallK} {rd : RoundK} (t P : Nat) (hP : P ≤ 8) {zt zP : Int} (hzP : zP = (P : Int)) (H40 : ∀ k : Nat, k < 9 → cl 0 40 [.int .i64 zt, .int .i64 (k : Int)] [] ansK = some (.bool (t.testBit k), []))
    (n : Nat) (k : Ex → Env → St → Ans) (r : Ans) :
    ∀ (j i0 : Nat) (acc : List Int), P < i0 + j → i0 ≤ P → acc.length ≤ i0 →
    (∀ x : Int, k (.exit 0) [(0, .int .i64 zt), (1, .int .i64 zP), (5, .sl (rowsI (acc ++ ofFrom t P i0)) (tk 0 18 (acc ++ ofFrom t P i0))), (6, .int .i64 x)] [⟨[], tks 18 (acc ++ ofFrom t P i0)⟩] = r) →
    B.loop (evCK B a72_L1) [0, 1, 5, 6] n j cl rd Gx 0 1 [(0, .int .i64 zt), (1, .int .i64 zP), (5, .sl (rowsI acc) (tk 0 18 acc)), (6, .int .i64 (.ofNat i0))] [⟨[], tks 18 acc⟩] k = r := by
  intro j
  induction j with
  | zero => intro i0 acc h1 h2; omega
  | succ j ih =>
    intro i0 acc h1 h2 h3 k1
    refine loop_succ hB ?_
    subst hzP
    conv => lhs; whnf
    refine lt_nat hB (fun h => ?_) (fun h => ?_) <;> conv => lhs; whnf
    · repeat' ((first | refine fnat_pred hB ?_ | refine pans_bool hB (H40 i0 (by omega)) (fun hc => ?_) (fun hc => ?_) | refine opt2_step hB (app_tk acc (i0 : Int) (by omega) _) ?_ | refine purs_step hB rfl ?_ | refine lt_tt hB (by decide) ?_ | refine lt_ff hB (by decide) ?_ | refine le_tt hB (by decide) ?_ | refine le_ff hB (by decide) ?_ | refine eq_tt hB (by decide) ?_ | refine eq_ff hB (by decide) ?_ | refine fint_wrp hB (by omega) (by omega) ?_ | refine fint_step hB ?_ | refine fbool_tt hB ?_ | refine fbool_ff hB ?_ | refine fbool_split hB (fun _ => ?_) (fun _ => ?_) | refine ftok_step hB ?_ | refine frows_step hB ?_ | refine fstr_step hB ?_ | refine len_map hB ?_ | refine len_step hB ?_ | refine lens_step hB ?_ | refine byte_step hB ?_ | refine drop_step hB rfl ?_ | refine fl_step hB rfl ?_ | refine add_one hB (by first | omega | decide) ?_ | refine opt_step hB rfl ?_ | refine fnat_step hB ?_ | refine ifk_step hB rfl ?_ | refine ifk_step hB (flat_or rfl) ?_ | refine opt2_step hB rfl ?_ | refine obj_raw hB ?_ | refine sob_raw hB ?_ | refine fst_raw hB ?_ | refine optl_raw hB ?_ | refine tok_step hB rfl ?_) <;> conv => lhs; whnf)
      · rw [ofFrom_yes h hc] at k1
        rw [clamp_tk (by omega)]
        refine ih (i0 + 1) (acc ++ [(i0 : Int)]) (by omega) (by omega) (by simp; omega) ?_
        rw [List.append_assoc]; exact k1
      · rw [ofFrom_no h hc] at k1
        rw [clamp_tk (by omega)]
        exact ih (i0 + 1) acc (by omega) (by omega) (by omega) k1
    · repeat' ((first | refine purs_step hB rfl ?_ | refine lt_tt hB (by decide) ?_ | refine lt_ff hB (by decide) ?_ | refine le_tt hB (by decide) ?_ | refine le_ff hB (by decide) ?_ | refine eq_tt hB (by decide) ?_ | refine eq_ff hB (by decide) ?_ | refine fint_wrp hB (by omega) (by omega) ?_ | refine fint_step hB ?_ | refine fbool_tt hB ?_ | refine fbool_ff hB ?_ | refine fbool_split hB (fun _ => ?_) (fun _ => ?_) | refine ftok_step hB ?_ | refine frows_step hB ?_ | refine fstr_step hB ?_ | refine len_map hB ?_ | refine len_step hB ?_ | refine lens_step hB ?_ | refine byte_step hB ?_ | refine drop_step hB rfl ?_ | refine fl_step hB rfl ?_ | refine add_one hB (by first | omega | decide) ?_ | refine opt_step hB rfl ?_ | refine fnat_step hB ?_ | refine ifk_step hB rfl ?_ | refine ifk_step hB (flat_or rfl) ?_ | refine opt2_step hB rfl ?_ | refine obj_raw hB ?_ | refine sob_raw hB ?_ | refine fst_raw hB ?_ | refine optl_raw hB ?_ | refine tok_step hB rfl ?_) <;> conv => lhs; whnf)
      have hi : i0 = P := by omega
      subst hi
      rw [ofFrom_end (Nat.le_refl _), List.append_nil] at k1
      rw [clamp_tk (by omega)]
      exact k1 _
theorem Of_ev {n : Nat} (hn : 1000000000000002 ≤ n) (t P : Nat) (ht : t < 512) (hP : P ≤ 8) {zt zP : Int} (hzt : zt = (t : Int)) (hzP : zP = (P : Int)) :
    (evKR Bk Gx fsT n).1 0 72 [.int .i64 zt, .int .i64 zP] [] ansK = some (.sl (rowsI (ofFrom t P 0)) (if (ofFrom t P 0).isEmpty = true then .nil else .any), []) := by
  refine call_open (show fsT.find 72 = some a72 from rfl) (by omega) fun n' B cl rd hn' hB hcl hrd => ?_
  have H40 : ∀ k : Nat, k < 9 → (evKR Bk Gx fsT n').1 0 40 [.int .i64 zt, .int .i64 (k : Int)] [] ansK = some (.bool (t.testBit k), []) := fun k hk => In_ev (n := n') (by omega) t k (by omega) hk hzt rfl
  rw [← hcl] at H40
  conv => lhs; whnf
  repeat' ((first | refine fnat_pred hB ?_ | refine a72_L1_step hB t P hP hzP H40 _ _ _ _ 0 [] (by omega) (by omega) (by simp) (fun x => ?_) | refine tokE_step hB ?_ | refine purs_step hB rfl ?_ | refine lt_tt hB (by decide) ?_ | refine lt_ff hB (by decide) ?_ | refine le_tt hB (by decide) ?_ | refine le_ff hB (by decide) ?_ | refine eq_tt hB (by decide) ?_ | refine eq_ff hB (by decide) ?_ | refine fint_wrp hB (by omega) (by omega) ?_ | refine fint_step hB ?_ | refine fbool_tt hB ?_ | refine fbool_ff hB ?_ | refine fbool_split hB (fun _ => ?_) (fun _ => ?_) | refine ftok_step hB ?_ | refine frows_step hB ?_ | refine fstr_step hB ?_ | refine len_map hB ?_ | refine len_step hB ?_ | refine lens_step hB ?_ | refine byte_step hB ?_ | refine drop_step hB rfl ?_ | refine fl_step hB rfl ?_ | refine add_one hB (by first | omega | decide) ?_ | refine opt_step hB rfl ?_ | refine fnat_step hB ?_ | refine ifk_step hB rfl ?_ | refine ifk_step hB (flat_or rfl) ?_ | refine opt2_step hB rfl ?_ | refine obj_raw hB ?_ | refine sob_raw hB ?_ | refine fst_raw hB ?_ | refine optl_raw hB ?_ | refine tok_step hB rfl ?_) <;> conv => lhs; whnf)
  rw [List.nil_append]
  unfold tk
  split <;> rfl

/-! ### sets -/
theorem bv_nat {a : Nat} (ha : a < 512) : (BitVec.ofInt 64 (a : Int)).toNat = a := by
  rw [BitVec.ofInt_natCast, BitVec.toNat_ofNat]
  omega
theorem and_gen {a b : Nat} (ha : a < 512) (hb : b < 512) : binAV .and (.int .i64 (a : Int)) (.int .i64 (b : Int)) = some (.int .i64 ((a &&& b : Nat) : Int)) := by
  have h : a &&& b < 512 := Nat.and_lt_two_pow (n := 9) a hb
  show (if IntKind.i64 = IntKind.i64 then intBin .and .i64 (a : Int) (b : Int) else none) = _
  rw [if_pos rfl]
  show some (AV.int .i64 (wrp .i64 (BitVec.ofInt 64 (a : Int) &&& BitVec.ofInt 64 (b : Int)).toNat)) = _
  rw [BitVec.toNat_and, bv_nat ha, bv_nat hb, wrp_i64 (by omega) (by omega)]
theorem or_gen {a b : Nat} (ha : a < 512) (hb : b < 512) : binAV .or (.int .i64 (a : Int)) (.int .i64 (b : Int)) = some (.int .i64 ((a ||| b : Nat) : Int)) := by
  have h : a ||| b < 512 := Nat.or_lt_two_pow (n := 9) ha hb
  show (if IntKind.i64 = IntKind.i64 then intBin .or .i64 (a : Int) (b : Int) else none) = _
  rw [if_pos rfl]
  show some (AV.int .i64 (wrp .i64 (BitVec.ofInt 64 (a : Int) ||| BitVec.ofInt 64 (b : Int)).toNat)) = _
  rw [BitVec.toNat_or, bv_nat ha, bv_nat hb, wrp_i64 (by omega) (by omega)]
theorem shl_all9 : ∀ k : Fin 9, isI (binAV .shl (.int .i64 1) (.int .i64 (k.val : Int))) ((1 <<< k.val : Nat) : Int) = true := by decide +kernel
theorem shl_gen {k : Nat} {b : Int} (hb : b = (k : Int)) (hk : k < 9) : binAV .shl (.int .i64 1) (.int .i64 b) = some (.int .i64 ((1 <<< k : Nat) : Int)) := by subst hb; exact isI_ok (shl_all9 ⟨k, hk⟩)
end Go.Ab.Cl

namespace Go.Ab.Cl
open Go.Ab

/-- What truths have told so far. -/
structure Sn where
  many : Int
  is : List Nat
  all : Nat
  some : Nat
  lo : Int
  hi : Int

/-- The bit of what a box is. -/
def keyOf (P : Nat) (z : Int) : Nat := if z < 0 then P else z.toNat
def markIs (P : Nat) (is : List Nat) (l : List Int) : List Nat := List.zipWith (fun x z => x ||| 1 <<< keyOf P z) is l
def tell (d : Desk) (s : Sn) (l : List Int) (t : Nat) : Sn :=
  if s.many = 0 then ⟨1, markIs d.ps.length s.is l, t, t, val d l, val d l⟩
  else ⟨s.many + 1, markIs d.ps.length s.is l, s.all &&& t, s.some ||| t, loI s.lo (val d l), hiI s.hi (val d l)⟩
def stepS (d : Desk) (rest : List Int → Nat → Int → Sn → Sn) (pre : List Int) (t : Nat) (st : Int) (s : Sn) (k : Int) : Sn :=
  if k = -1 then (if st < d.strange then rest (pre ++ [-1]) t (st + 1) s else s) else rest (pre ++ [k]) (t ||| 1 <<< k.toNat) st s
def walkV (d : Desk) : Nat → List Int → Nat → Int → Sn → Sn
  | 0, pre, t, _, s => tell d s pre t
  | m + 1, pre, t, st, s => (opts d (d.bs.length - (m + 1)) t).foldl (stepS d (walkV d m) pre t st) s

/-- All that truths of a kind tell. -/
structure Tells (d : Desk) (s : Sn) (S : List Int → Prop) (B : Int) : Prop where
  len : s.is.length = d.bs.length
  pos : 0 ≤ s.many
  bnd : s.many ≤ B
  non : s.many = 0 → ∀ l, ¬ S l
  one : s.many ≠ 0 → ∃ l, S l
  is : ∀ b n, b < d.bs.length → ((s.is[b]?.getD 0).testBit n = true ↔ ∃ l z, S l ∧ l[b]? = some z ∧ keyOf d.ps.length z = n)
  all : s.many ≠ 0 → ∀ n, (s.all.testBit n = true ↔ ∀ l, S l → (n : Int) ∈ l)
  some : s.many ≠ 0 → ∀ n, (s.some.testBit n = true ↔ ∃ l, S l ∧ (n : Int) ∈ l)
  lo : s.many ≠ 0 → (∃ l, S l ∧ s.lo = val d l) ∧ ∀ l, S l → s.lo ≤ val d l
  hi : s.many ≠ 0 → (∃ l, S l ∧ s.hi = val d l) ∧ ∀ l, S l → val d l ≤ s.hi
  lt : s.all < 256 ∧ s.some < 256 ∧ ∀ x ∈ s.is, x < 512

theorem one_bit (k n : Nat) : (1 <<< k : Nat).testBit n = decide (n = k) := by
  have := bit_or 0 k n
  simpa using this
theorem shl_lt {k : Nat} (hk : k < 9) : (1 <<< k : Nat) < 512 := by
  have : ∀ k : Fin 9, (1 <<< k.val : Nat) < 512 := by decide
  exact this ⟨k, hk⟩
theorem or_lt9 {a b : Nat} (ha : a < 512) (hb : b < 512) : a ||| b < 512 := Nat.or_lt_two_pow (n := 9) ha hb
theorem or_lt8 {a b : Nat} (ha : a < 256) (hb : b < 256) : a ||| b < 256 := Nat.or_lt_two_pow (n := 8) ha hb
theorem and_lt8 {a b : Nat} (hb : b < 256) : a &&& b < 256 := Nat.and_lt_two_pow (n := 8) a hb
theorem key_lt {P : Nat} {z : Int} (hP : P ≤ 8) (hz : z < P) : keyOf P z < 9 := by
  unfold keyOf; split <;> omega

theorem markIs_get {P : Nat} {is : List Nat} {l : List Int} {b : Nat} {z : Int} (hl : is.length = l.length) (hz : l[b]? = some z) : (markIs P is l)[b]?.getD 0 = (is[b]?.getD 0) ||| 1 <<< keyOf P z := by
  have hb : b < l.length := (List.getElem?_eq_some_iff.1 hz).1
  obtain ⟨_, hz2⟩ := List.getElem?_eq_some_iff.1 hz
  unfold markIs
  rw [List.getElem?_zipWith]
  rw [hz, List.getElem?_eq_getElem (by omega)]
  simp
theorem tells_congr {d : Desk} {s : Sn} {S T : List Int → Prop} {B : Int} (h : Tells d s S B) (e : ∀ l, S l ↔ T l) : Tells d s T B := by
  have : S = T := funext fun l => propext (e l)
  rw [← this]; exact h
theorem tells_le {d : Desk} {s : Sn} {S : List Int → Prop} {B C : Int} (h : Tells d s S B) (e : B ≤ C) : Tells d s S C := ⟨h.len, h.pos, by have := h.bnd; omega, h.non, h.one, h.is, h.all, h.some, h.lo, h.hi, h.lt⟩

theorem tell_tells {d : Desk} (hP : d.ps.length ≤ 8) {s : Sn} {S : List Int → Prop} {B : Int} (h : Tells d s S B) {l : List Int} {t : Nat} (hl : l.length = d.bs.length) (hz : ∀ z ∈ l, z < d.ps.length) (ht : t < 256) (htl : ∀ n, t.testBit n = true ↔ (n : Int) ∈ l) :
    Tells d (tell d s l t) (fun x => S x ∨ x = l) (B + 1) := by
  have h0 := h.pos
  have hB := h.bnd
  have his : ∀ b n, b < d.bs.length → (((markIs d.ps.length s.is l)[b]?.getD 0).testBit n = true ↔ ∃ x z, (S x ∨ x = l) ∧ x[b]? = some z ∧ keyOf d.ps.length z = n) := by
    intro b n hb
    obtain ⟨z, hzb⟩ : ∃ z, l[b]? = some z := ⟨l[b], by simp [hl, hb]⟩
    rw [markIs_get (by rw [h.len, hl]) hzb, Nat.testBit_or, one_bit, Bool.or_eq_true, decide_eq_true_eq, h.is b n hb]
    constructor
    · rintro (⟨x, z, h1, h2, h3⟩ | h1)
      · exact ⟨x, z, .inl h1, h2, h3⟩
      · exact ⟨l, z, .inr rfl, hzb, h1.symm⟩
    · rintro ⟨x, z', h1 | rfl, h2, h3⟩
      · exact .inl ⟨x, z', h1, h2, h3⟩
      · rw [hzb] at h2; cases h2; exact .inr h3.symm
  have hlen : (markIs d.ps.length s.is l).length = d.bs.length := by
    unfold markIs
    rw [List.length_zipWith, h.len, hl, Nat.min_self]
  have hlt : ∀ x ∈ markIs d.ps.length s.is l, x < 512 := by
    intro x hx
    obtain ⟨i, hi, rfl⟩ := List.mem_iff_getElem.1 hx
    have hi2 : i < d.bs.length := by omega
    obtain ⟨z, hzb⟩ : ∃ z, l[i]? = some z := ⟨l[i], by simp [hl, hi2]⟩
    have := markIs_get (P := d.ps.length) (is := s.is) (by rw [h.len, hl]) hzb
    rw [List.getElem?_eq_getElem hi] at this
    simp only [Option.getD_some] at this
    rw [this]
    refine or_lt9 ?_ (shl_lt (key_lt hP (hz z (List.mem_of_getElem? hzb))))
    have hi3 : i < s.is.length := by rw [h.len]; omega
    rw [List.getElem?_eq_getElem hi3, Option.getD_some]
    exact h.lt.2.2 _ (List.getElem_mem _)
  unfold tell
  split
  · rename_i hm
    have hn := h.non hm
    refine ⟨hlen, by show (0 : Int) ≤ 1; omega, by show (1 : Int) ≤ B + 1; omega, fun h => ?_, fun _ => ⟨l, .inr rfl⟩, his, fun _ n => ?_, fun _ n => ?_, fun _ => ?_, fun _ => ?_, ht, ht, hlt⟩
    · have h : (1 : Int) = 0 := h
      omega
    · show t.testBit n = true ↔ _
      rw [htl]
      exact ⟨fun h x hx => hx.elim (fun h => absurd h (hn x)) (fun e => e ▸ h), fun h => h l (.inr rfl)⟩
    · show t.testBit n = true ↔ _
      rw [htl]
      exact ⟨fun h => ⟨l, .inr rfl, h⟩, fun ⟨x, hx, h⟩ => hx.elim (fun h => absurd h (hn x)) (fun e => e ▸ h)⟩
    · exact ⟨⟨l, .inr rfl, rfl⟩, fun x hx => hx.elim (fun h => absurd h (hn x)) (fun e => e ▸ Int.le_refl _)⟩
    · exact ⟨⟨l, .inr rfl, rfl⟩, fun x hx => hx.elim (fun h => absurd h (hn x)) (fun e => e ▸ Int.le_refl _)⟩
  · rename_i hm
    refine ⟨hlen, by show (0 : Int) ≤ s.many + 1; omega, by show s.many + 1 ≤ B + 1; omega, fun h => ?_, fun _ => ⟨l, .inr rfl⟩, his, fun _ n => ?_, fun _ n => ?_, fun _ => ?_, fun _ => ?_, and_lt8 ht, or_lt8 h.lt.2.1 ht, hlt⟩
    · have h : s.many + 1 = 0 := h
      omega
    · show (s.all &&& t).testBit n = true ↔ _
      rw [Nat.testBit_and, Bool.and_eq_true, htl, h.all hm]
      exact ⟨fun ⟨h1, h2⟩ x hx => hx.elim (h1 x) (fun e => e ▸ h2), fun h => ⟨fun x hx => h x (.inl hx), h l (.inr rfl)⟩⟩
    · show (s.some ||| t).testBit n = true ↔ _
      rw [Nat.testBit_or, Bool.or_eq_true, htl, h.some hm]
      constructor
      · rintro (⟨x, h1, h2⟩ | h1)
        · exact ⟨x, .inl h1, h2⟩
        · exact ⟨l, .inr rfl, h1⟩
      · rintro ⟨x, h1 | rfl, h2⟩
        · exact .inl ⟨x, h1, h2⟩
        · exact .inr h2
    · obtain ⟨⟨x, h1, h2⟩, h3⟩ := h.lo hm
      show (∃ y, (S y ∨ y = l) ∧ loI s.lo (val d l) = val d y) ∧ ∀ y, S y ∨ y = l → loI s.lo (val d l) ≤ val d y
      refine ⟨?_, fun y hy => ?_⟩
      · rcases lo_or s.lo (val d l) with h | h <;> rw [h]
        · exact ⟨x, .inl h1, h2⟩
        · exact ⟨l, .inr rfl, rfl⟩
      · rcases hy with hy | rfl
        · have := lo_better.l s.lo (val d l)
          have := h3 y hy
          omega
        · exact lo_better.r s.lo (val d y)
    · obtain ⟨⟨x, h1, h2⟩, h3⟩ := h.hi hm
      show (∃ y, (S y ∨ y = l) ∧ hiI s.hi (val d l) = val d y) ∧ ∀ y, S y ∨ y = l → val d y ≤ hiI s.hi (val d l)
      refine ⟨?_, fun y hy => ?_⟩
      · rcases hi_or s.hi (val d l) with h | h <;> rw [h]
        · exact ⟨x, .inl h1, h2⟩
        · exact ⟨l, .inr rfl, rfl⟩
      · rcases hy with hy | rfl
        · have := hi_better.l s.hi (val d l)
          have := h3 y hy
          omega
        · exact hi_better.r s.hi (val d y)

/-- How many truths there can be. -/
def cnt : Nat → Int
  | 0 => 1
  | m + 1 => 9 * cnt m
theorem cnt_pos : ∀ m, 0 ≤ cnt m
  | 0 => by decide
  | m + 1 => by have := cnt_pos m; simp only [cnt]; omega

/-- What a walk begins with. -/
structure Pre (d : Desk) (m : Nat) (pre : List Int) (t : Nat) : Prop where
  len : pre.length + m = d.bs.length
  lt : ∀ z ∈ pre, z < d.ps.length
  ge : ∀ z ∈ pre, -1 ≤ z
  small : t < 256
  bits : ∀ n, t.testBit n = true ↔ (n : Int) ∈ pre
theorem Pre.odd {d : Desk} {m : Nat} {pre : List Int} {t : Nat} (h : Pre d (m + 1) pre t) : Pre d m (pre ++ [-1]) t where
  len := by have := h.len; simp; omega
  lt z hz := by
    rcases List.mem_append.1 hz with hz | hz
    · exact h.lt z hz
    · simp at hz; omega
  ge z hz := by
    rcases List.mem_append.1 hz with hz | hz
    · exact h.ge z hz
    · simp at hz; omega
  small := h.small
  bits n := by
    rw [h.bits, List.mem_append]
    constructor
    · exact .inl
    · rintro (h | h)
      · exact h
      · simp at h <;> omega
theorem Pre.par {d : Desk} {m : Nat} {pre : List Int} {t k : Nat} (h : Pre d (m + 1) pre t) (hk : k < d.ps.length) (hP : d.ps.length ≤ 8) : Pre d m (pre ++ [(k : Int)]) (t ||| 1 <<< k) where
  len := by have := h.len; simp; omega
  lt z hz := by
    rcases List.mem_append.1 hz with hz | hz
    · exact h.lt z hz
    · simp at hz; omega
  ge z hz := by
    rcases List.mem_append.1 hz with hz | hz
    · exact h.ge z hz
    · simp at hz; omega
  small := bits_lt h.small (by omega)
  bits n := by
    rw [bit_or, Bool.or_eq_true, h.bits, List.mem_append, decide_eq_true_eq, List.mem_singleton]
    constructor
    · rintro (h | h)
      · exact .inl h
      · exact .inr (by omega)
    · rintro (h | h)
      · exact .inl h
      · exact .inr (by omega)

theorem fold_tells {d : Desk} (hP : d.ps.length ≤ 8) {m : Nat} {pre : List Int} {t : Nat} {st : Int} (hp : Pre d (m + 1) pre t)
    (ih : ∀ {pre : List Int} {t : Nat} {st : Int} {s : Sn} {S : List Int → Prop} {B : Int}, Pre d m pre t → Tells d s S B → Tells d (walkV d m pre t st s) (fun x => S x ∨ ∃ l, Suf d (fun _ => none) m t st l ∧ x = pre ++ l) (B + cnt m)) : ∀ (ks : List Int), (∀ k ∈ ks, k ∈ opts d (d.bs.length - (m + 1)) t) → ∀ {s : Sn} {S : List Int → Prop} {B : Int}, Tells d s S B →
    Tells d (ks.foldl (stepS d (walkV d m) pre t st) s) (fun x => S x ∨ ∃ k l, k ∈ ks ∧ Ch d (fun _ => none) (d.bs.length - (m + 1)) t st (Suf d (fun _ => none) m) k l ∧ x = pre ++ k :: l) (B + (ks.length : Nat) * cnt m)
  | [], _, s, S, B, h => by
    refine tells_le (tells_congr h fun l => ?_) (by simp)
    simp
  | k :: ks, hk, s, S, B, h => by
    have hc := cnt_pos m
    have h1 : Tells d (stepS d (walkV d m) pre t st s k) (fun x => S x ∨ ∃ l, Ch d (fun _ => none) (d.bs.length - (m + 1)) t st (Suf d (fun _ => none) m) k l ∧ x = pre ++ k :: l) (B + cnt m) := by
      unfold stepS
      rcases opts_iff.1 (hk k (List.mem_cons_self ..)) with ⟨rfl, ho⟩ | ⟨n, rfl, hf⟩
      · rw [if_pos rfl]
        split
        · rename_i hst
          refine tells_congr (ih (st := st + 1) hp.odd h) fun x => ?_
          constructor
          · rintro (h | ⟨l, h1, rfl⟩)
            · exact .inl h
            · exact .inr ⟨l, ⟨rfl, by rw [if_pos rfl]; exact ⟨by omega, h1⟩⟩, by simp⟩
          · rintro (h | ⟨l, ⟨_, h1⟩, rfl⟩)
            · exact .inl h
            · rw [if_pos rfl] at h1
              exact .inr ⟨l, h1.2, by simp⟩
        · rename_i hst
          refine tells_le (tells_congr h fun x => ?_) (by omega)
          constructor
          · exact .inl
          · rintro (h | ⟨l, ⟨_, h1⟩, rfl⟩)
            · exact h
            · rw [if_pos rfl] at h1
              exact absurd h1.1 (by omega)
      · have hn : ¬ ((n : Int) = -1) := by omega
        rw [if_neg hn, Int.toNat_natCast]
        rw [fits_fit, Bool.and_eq_true] at hf
        refine tells_congr (ih (st := st) (hp.par (fit_lt hf.2).2 hP) h) fun x => ?_
        constructor
        · rintro (h | ⟨l, h1, rfl⟩)
          · exact .inl h
          · exact .inr ⟨l, ⟨rfl, by rw [if_neg hn, Int.toNat_natCast]; exact h1⟩, by simp⟩
        · rintro (h | ⟨l, ⟨_, h1⟩, rfl⟩)
          · exact .inl h
          · rw [if_neg hn, Int.toNat_natCast] at h1
            exact .inr ⟨l, h1, by simp⟩
    have hh := fold_tells hP (st := st) hp ih ks (fun k hk' => hk k (List.mem_cons_of_mem _ hk')) h1
    refine tells_le (tells_congr hh fun x => ?_) ?_
    · constructor
      · rintro ((h | ⟨l, h1, rfl⟩) | ⟨k', l, h1, h2, rfl⟩)
        · exact .inl h
        · exact .inr ⟨k, l, List.mem_cons_self .., h1, rfl⟩
        · exact .inr ⟨k', l, List.mem_cons_of_mem _ h1, h2, rfl⟩
      · rintro (h | ⟨k', l, h1, h2, rfl⟩)
        · exact .inl (.inl h)
        · rcases List.mem_cons.1 h1 with rfl | h1
          · exact .inl (.inr ⟨l, h2, rfl⟩)
          · exact .inr ⟨k', l, h1, h2, rfl⟩
    · simp only [List.length_cons, Int.natCast_add, Int.add_mul]
      omega

theorem opts_len {d : Desk} {i t : Nat} (hP : d.ps.length ≤ 8) : (opts d i t).length ≤ 9 := by
  have : (optsFrom d i t 0).length ≤ d.ps.length := by
    unfold optsFrom
    rw [List.length_map]
    refine Nat.le_trans (List.length_filter_le _ _) ?_
    simp
  unfold opts; split <;> simp <;> omega

theorem walk_tells {d : Desk} (hP : d.ps.length ≤ 8) : ∀ (m : Nat) {pre : List Int} {t : Nat} {st : Int} {s : Sn} {S : List Int → Prop} {B : Int}, Pre d m pre t → Tells d s S B →
    Tells d (walkV d m pre t st s) (fun x => S x ∨ ∃ l, Suf d (fun _ => none) m t st l ∧ x = pre ++ l) (B + cnt m)
  | 0, pre, t, st, s, S, B, hp, h => by
    refine tells_congr (tell_tells hP h (by have := hp.len; omega) hp.lt hp.small hp.bits) fun x => ?_
    constructor
    · rintro (h | rfl)
      · exact .inl h
      · exact .inr ⟨[], rfl, by simp⟩
    · rintro (h | ⟨l, h1, rfl⟩)
      · exact .inl h
      · have h1 : l = [] := h1
        subst h1
        exact .inr (by simp)
  | m + 1, pre, t, st, s, S, B, hp, h => by
    have h1 := fold_tells hP (st := st) hp (fun hp h => walk_tells hP m hp h) (opts d (d.bs.length - (m + 1)) t) (fun _ h => h) h
    have h9 : (opts d (d.bs.length - (m + 1)) t).length ≤ 9 := opts_len hP
    refine tells_le (tells_congr h1 fun x => ?_) ?_
    · constructor
      · rintro (h | ⟨k, l, h1, h2, rfl⟩)
        · exact .inl h
        · exact .inr ⟨k :: l, ⟨k, l, rfl, h1, h2⟩, rfl⟩
      · rintro (h | ⟨_, ⟨k, l, rfl, h1, h2⟩, rfl⟩)
        · exact .inl h
        · exact .inr ⟨k, l, h1, h2, rfl⟩
    · have : ((opts d (d.bs.length - (m + 1)) t).length : Int) * cnt m ≤ 9 * cnt m := Int.mul_le_mul_of_nonneg_right (by omega) (cnt_pos m)
      simp only [cnt]
      omega

/-- What all truths tell. -/
def seenV (d : Desk) : Sn := walkV d d.bs.length [] 0 0 ⟨0, List.replicate d.bs.length 0, 0, 0, 0, 0⟩
theorem tells_none (d : Desk) : Tells d ⟨0, List.replicate d.bs.length 0, 0, 0, 0, 0⟩ (fun _ => False) 0 where
  len := by simp
  pos := by simp
  bnd := by simp
  non _ l h := h
  one h := absurd rfl h
  is b n hb := by simp [hb]
  all h := absurd rfl h
  some h := absurd rfl h
  lo h := absurd rfl h
  hi h := absurd rfl h
  lt := ⟨by show (0 : Nat) < 256; omega, by show (0 : Nat) < 256; omega, fun x hx => by have := List.eq_of_mem_replicate hx; omega⟩
theorem seen_tells {d : Desk} (hc : d.check = true) : Tells d (seenV d) (Tr d) (cnt d.bs.length) := by
  have hs := check_strange hc
  have h := walk_tells (check_fine hc).np d.bs.length (pre := []) (t := 0) (st := 0) ⟨by simp, by simp, by simp, by decide, by simp⟩ (tells_none d)
  refine tells_le (tells_congr h fun x => ?_) (by omega)
  simp only [false_or, List.nil_append, Suf_all hs.1]
  constructor
  · rintro ⟨l, ⟨h, _⟩, rfl⟩; exact h
  · intro h; exact ⟨x, ⟨h, fun _ _ _ => rfl⟩, rfl⟩
end Go.Ab.Cl

namespace Go.Ab.Cl
open Go.Ab

theorem Tr.key {d : Desk} {l : List Int} (h : Tr d l) {b : Nat} {z : Int} (hz : l[b]? = some z) : z = -1 ∨ ∃ n : Nat, z = (n : Int) ∧ n < d.ps.length := by
  rcases h.ok b z hz with ⟨h1, _⟩ | ⟨n, h1, h2⟩
  · exact .inl h1
  · exact .inr ⟨n, h1, (fit_lt h2).2⟩
theorem seen_bit {d : Desk} (hc : d.check = true) {b : Nat} (hb : b < d.bs.length) {n : Nat} (hn : n < d.ps.length) : ((seenV d).is[b]?.getD 0).testBit n = canB d (b : Int) (n : Int) := by
  rw [Bool.eq_iff_iff, (seen_tells hc).is b n hb, can_iff hc hb]
  constructor
  · rintro ⟨l, z, h1, h2, h3⟩
    refine ⟨l, h1, ?_⟩
    rcases h1.key h2 with rfl | ⟨m, rfl, hm⟩
    · simp [keyOf] at h3; omega
    · simp [keyOf] at h3
      rw [h2]
      have : m = n := by split at h3 <;> omega
      rw [this]
  · rintro ⟨l, h1, h2⟩
    refine ⟨l, (n : Int), h1, h2, ?_⟩
    unfold keyOf
    rw [if_neg (by omega), Int.toNat_natCast]
theorem seen_odd {d : Desk} (hc : d.check = true) {b : Nat} (hb : b < d.bs.length) : ((seenV d).is[b]?.getD 0).testBit d.ps.length = canB d (b : Int) (-1) := by
  rw [Bool.eq_iff_iff, (seen_tells hc).is b _ hb, can_iff hc hb]
  constructor
  · rintro ⟨l, z, h1, h2, h3⟩
    refine ⟨l, h1, ?_⟩
    rcases h1.key h2 with rfl | ⟨m, rfl, hm⟩
    · exact h2
    · simp [keyOf] at h3
      omega
  · rintro ⟨l, h1, h2⟩
    exact ⟨l, -1, h1, h2, by simp [keyOf]⟩
theorem which_of {d : Desk} (hc : d.check = true) {b : Nat} (hb : b < d.bs.length) : ofFrom ((seenV d).is[b]?.getD 0) d.ps.length 0 = whichFrom d (b : Int) 0 := by
  unfold ofFrom whichFrom
  congr 1
  refine List.filter_congr fun k hk => ?_
  simp only [List.mem_range'] at hk
  obtain ⟨m, h1, rfl⟩ := hk
  exact seen_bit hc hb (by omega)

theorem which_ok {d : Desk} {z : Int} (he : whichE d z = 0) : d.check = true ∧ trueB d = true ∧ 0 ≤ z ∧ z < d.bs.length := by
  unfold whichE askE at he
  split at he
  · rename_i h1
    split at he
    · rename_i h2
      split at he
      · rename_i h3
        simp only [within, Bool.and_eq_true, decide_eq_true_eq] at h2
        exact ⟨h1, h3, h2.1, by omega⟩
      · cases he
    · cases he
  · cases he
theorem told_of {d : Desk} {z : Int} {b : Nat} (hz : z = (b : Int)) (he : whichE d z = 0) : toldV d z = if canB d z (-1) = true then (if (whichL d z).length = 0 then 0 else 2) else 1 := by
  obtain ⟨hc, ht, h0, h1⟩ := which_ok he
  subst hz
  have hb : b < d.bs.length := by omega
  unfold toldV
  rw [if_pos he]
  by_cases hl : (whichL d (b : Int)).length = 0
  · rw [if_pos hl]
    by_cases hcn : canB d (b : Int) (-1) = true
    · rw [if_pos hcn, if_pos hl]
    · exfalso
      obtain ⟨l, hl2⟩ := (true_iff hc).1 ht
      obtain ⟨z, hzb⟩ : ∃ z, l[b]? = some z := ⟨l[b]'(by rw [hl2.len]; exact hb), by simp⟩
      rcases hl2.key hzb with rfl | ⟨n, rfl, hn⟩
      · exact hcn ((can_iff hc hb).2 ⟨l, hl2, hzb⟩)
      · have hin : (n : Int) ∈ whichL d (b : Int) := by
          unfold whichL
          rw [if_pos he]
          unfold whichFrom
          simp only [List.mem_map, List.mem_filter, List.mem_range']
          exact ⟨n, ⟨⟨n, by omega, by omega⟩, (can_iff hc hb).2 ⟨l, hl2, hzb⟩⟩, rfl⟩
        rw [List.length_eq_zero_iff] at hl
        rw [hl] at hin
        cases hin
  · rw [if_neg hl]
    by_cases hcn : canB d (b : Int) (-1) = true
    · rw [if_pos hcn, if_pos hcn, if_neg hl]
    · rw [if_neg hcn, if_neg hcn]

theorem seen_many {d : Desk} (hc : d.check = true) (ht : trueB d = true) : (seenV d).many ≠ 0 := fun h => by
  obtain ⟨l, hl⟩ := (true_iff hc).1 ht
  exact (seen_tells hc).non h l hl
theorem seen_worth {d : Desk} (hc : d.check = true) (ht : trueB d = true) : (seenV d).lo = worthLo d ∧ (seenV d).hi = worthHi d := by
  have hm := seen_many hc ht
  obtain ⟨⟨l1, h1, e1⟩, b1⟩ := (seen_tells hc).lo hm
  obtain ⟨⟨l2, h2, e2⟩, b2⟩ := (seen_tells hc).hi hm
  obtain ⟨⟨l3, h3, e3⟩, ⟨l4, h4, e4⟩, b3⟩ := worth_spec hc ht
  have a1 := b1 l3 h3
  have a2 := (b3 l1 h1).1
  have a3 := b2 l4 h4
  have a4 := (b3 l2 h2).2
  omega
end Go.Ab.Cl

namespace Go.Ab.Cl
open Go.Ab

theorem lessP_fit {d : Desk} {k i n : Nat} (tp : Tok) : fit0 (lessP d k tp) i n = fit0 d i (up k n) := by
  unfold fit0
  rw [show (lessP d k tp).ps[n]? = d.ps[up k n]? from cut_get n, show (lessP d k tp).bs = d.bs from rfl]
  cases d.bs[i]? <;> cases d.ps[up k n]? <;> rfl
theorem lessP_odd {d : Desk} {k i : Nat} (tp : Tok) : oddB (lessP d k tp) i = oddB d i := rfl
theorem un_odd {k : Nat} {x : Int} : un k x = -1 ↔ x = -1 := by unfold un; split <;> omega
theorem sh_odd {k : Nat} {x : Int} (h : x ≠ (k : Int)) : sh k x = -1 ↔ x = -1 := by unfold sh; split <;> omega
theorem un_nat {k n : Nat} : un k (n : Int) = (up k n : Nat) := by unfold un up; split <;> split <;> omega
theorem Tr_less {d : Desk} {k : Nat} {tp : Tok} {l : List Int} (h : Tr (lessP d k tp) l) : Tr d (l.map (un k)) ∧ (k : Int) ∉ l.map (un k) := by
  refine ⟨⟨by rw [List.length_map]; exact h.len, fun i z hz => ?_, fun i j n h1 h2 => ?_, ?_⟩, fun hm => ?_⟩
  · rw [List.getElem?_map, Option.map_eq_some_iff] at hz
    obtain ⟨x, hx, rfl⟩ := hz
    rcases h.ok i x hx with ⟨rfl, ho⟩ | ⟨n, rfl, hf⟩
    · exact .inl ⟨un_odd.2 rfl, ho⟩
    · exact .inr ⟨up k n, un_nat, by rw [lessP_fit] at hf; exact hf⟩
  · rw [List.getElem?_map, Option.map_eq_some_iff] at h1 h2
    obtain ⟨x, hx, e1⟩ := h1
    obtain ⟨y, hy, e2⟩ := h2
    rcases h.key hx with rfl | ⟨a, rfl, _⟩
    · rw [un_odd.2 rfl] at e1; omega
    · rcases h.key hy with rfl | ⟨b, rfl, _⟩
      · rw [un_odd.2 rfl] at e2; omega
      · rw [un_nat] at e1 e2
        have : a = b := up_inj (i := k) (by omega)
        subst this
        exact h.inj i j a hx hy
  · rw [count_map (fun x => un_odd)]; exact h.few
  · obtain ⟨x, _, e⟩ := List.mem_map.1 hm
    unfold un at e; split at e <;> omega
theorem Tr_more {d : Desk} {k : Nat} (tp : Tok) {l : List Int} (h : Tr d l) (hk : (k : Int) ∉ l) : Tr (lessP d k tp) (l.map (sh k)) := by
  have hne : ∀ (i : Nat) (x : Int), l[i]? = some x → x ≠ (k : Int) := fun i x hx e => hk (e ▸ List.mem_of_getElem? hx)
  have hnat : ∀ (i n : Nat), l[i]? = some (n : Int) → ∃ m : Nat, sh k (n : Int) = (m : Int) ∧ up k m = n := by
    intro i n hn
    have h1 := hne i _ hn
    by_cases h2 : k < n
    · exact ⟨n - 1, by unfold sh; rw [if_pos (by omega)]; omega, by unfold up; rw [if_neg (by omega)]; omega⟩
    · exact ⟨n, by unfold sh; rw [if_neg (by omega)], by unfold up; rw [if_pos (by omega)]⟩
  refine ⟨by rw [List.length_map]; exact h.len, fun i z hz => ?_, fun i j n h1 h2 => ?_, ?_⟩
  · rw [List.getElem?_map, Option.map_eq_some_iff] at hz
    obtain ⟨x, hx, rfl⟩ := hz
    rcases h.ok i x hx with ⟨rfl, ho⟩ | ⟨n, rfl, hf⟩
    · exact .inl ⟨(sh_odd (by omega)).2 rfl, ho⟩
    · obtain ⟨m, e1, e2⟩ := hnat i n hx
      exact .inr ⟨m, e1, by rw [lessP_fit, e2]; exact hf⟩
  · rw [List.getElem?_map, Option.map_eq_some_iff] at h1 h2
    obtain ⟨x, hx, e1⟩ := h1
    obtain ⟨y, hy, e2⟩ := h2
    have e : x = y := by
      have := un_sh (hne i x hx)
      have := un_sh (hne j y hy)
      rw [e1] at *
      simp_all
    subst e
    rcases h.key hx with rfl | ⟨a, rfl, _⟩
    · rw [(sh_odd (by omega)).2 rfl] at e1; omega
    · exact h.inj i j a hx hy
  · have : (l.map (sh k)).count (-1) = l.count (-1) := by
      clear h hnat
      have : ∀ l : List Int, (∀ x ∈ l, x ≠ (k : Int)) → (l.map (sh k)).count (-1) = l.count (-1) := by
        intro l
        induction l with
        | nil => intro _; rfl
        | cons x l ih =>
          intro h
          have h1 := ih fun y hy => h y (List.mem_cons_of_mem _ hy)
          have h2 := sh_odd (h x (List.mem_cons_self ..))
          rw [List.map_cons, List.count_cons, List.count_cons, h1]
          congr 1
          by_cases hx : x = -1
          · rw [h2.2 hx, hx]
          · have h3 : ¬ sh k x = -1 := fun e => hx (h2.1 e)
            simp [hx, h3]
      exact this l fun x hx e => hk (e ▸ hx)
    rw [this]; exact h.few
theorem lessP_check {d : Desk} (hc : d.check = true) {k : Nat} (hk : k < d.ps.length) (tp : Tok) : (lessP d k tp).check = true := by
  have e : (lessP d k tp).check = (isSpan d.lo d.hi 0 400 && within d.wear 0 5000 && within d.strange 0 6 && decide ((d.ps.take k ++ d.ps.drop (k + 1)).length ≤ 8) && decide (d.bs.length ≤ 6) && (d.ps.take k ++ d.ps.drop (k + 1)).all okParcel && d.bs.all okBox) := rfl
  rw [e]
  have e2 : d.check = (isSpan d.lo d.hi 0 400 && within d.wear 0 5000 && within d.strange 0 6 && decide (d.ps.length ≤ 8) && decide (d.bs.length ≤ 6) && d.ps.all okParcel && d.bs.all okBox) := rfl
  rw [e2] at hc
  simp only [Bool.and_eq_true, decide_eq_true_eq] at hc ⊢
  obtain ⟨⟨⟨⟨⟨⟨h1, h2⟩, h3⟩, h4⟩, h5⟩, h6⟩, h7⟩ := hc
  exact ⟨⟨⟨⟨⟨⟨h1, h2⟩, h3⟩, by simp; omega⟩, h5⟩, cut_all h6⟩, h7⟩
theorem lessP_true {d : Desk} (hc : d.check = true) {k : Nat} (hk : k < d.ps.length) (tp : Tok) : trueB (lessP d k tp) = true ↔ ∃ l, Tr d l ∧ (k : Int) ∉ l := by
  rw [true_iff (lessP_check hc hk tp)]
  constructor
  · rintro ⟨l, h⟩; exact ⟨_, Tr_less h⟩
  · rintro ⟨l, h1, h2⟩; exact ⟨_, Tr_more tp h1 h2⟩

/-- Which parcels are back in some truth, and in all. -/
def someB (d : Desk) (k : Nat) : Bool := (List.range d.bs.length).any fun i => canB d (i : Int) (k : Int)
def allB (d : Desk) (k : Nat) : Bool := !trueB (lessP d k .any)
theorem allB_tok {d : Desk} (hc : d.check = true) {k : Nat} (hk : k < d.ps.length) (tp : Tok) : trueB (lessP d k tp) = !allB d k := by
  unfold allB
  rw [Bool.not_not, Bool.eq_iff_iff, lessP_true hc hk, lessP_true hc hk]
theorem someB_iff {d : Desk} (hc : d.check = true) {k : Nat} : someB d k = true ↔ ∃ l, Tr d l ∧ (k : Int) ∈ l := by
  unfold someB
  simp only [List.any_eq_true, List.mem_range]
  constructor
  · rintro ⟨i, hi, h⟩
    obtain ⟨l, h1, h2⟩ := (can_iff hc hi).1 h
    exact ⟨l, h1, List.mem_of_getElem? h2⟩
  · rintro ⟨l, h1, h2⟩
    obtain ⟨i, hi, e⟩ := List.mem_iff_getElem.1 h2
    have : i < d.bs.length := by rw [← h1.len]; exact hi
    exact ⟨i, this, (can_iff hc this).2 ⟨l, h1, by rw [List.getElem?_eq_getElem hi, e]⟩⟩
theorem allB_iff {d : Desk} (hc : d.check = true) {k : Nat} (hk : k < d.ps.length) : allB d k = true ↔ ∀ l, Tr d l → (k : Int) ∈ l := by
  have := lessP_true hc hk .any
  unfold allB
  rw [Bool.not_eq_true', ← Bool.not_eq_true, this]
  constructor
  · intro h l hl
    exact Decidable.byContradiction fun hn => h ⟨l, hl, hn⟩
  · rintro h ⟨l, h1, h2⟩
    exact h2 (h l h1)
theorem all_some {d : Desk} (hc : d.check = true) (ht : trueB d = true) {k : Nat} (hk : k < d.ps.length) (h : allB d k = true) : someB d k = true := by
  obtain ⟨l, hl⟩ := (true_iff hc).1 ht
  exact (someB_iff hc).2 ⟨l, hl, (allB_iff hc hk).1 h l hl⟩
theorem seen_all {d : Desk} (hc : d.check = true) (ht : trueB d = true) {k : Nat} (hk : k < d.ps.length) : (seenV d).all.testBit k = allB d k := by
  rw [Bool.eq_iff_iff, (seen_tells hc).all (seen_many hc ht), allB_iff hc hk]
theorem seen_some {d : Desk} (hc : d.check = true) (ht : trueB d = true) {k : Nat} : (seenV d).some.testBit k = someB d k := by
  rw [Bool.eq_iff_iff, (seen_tells hc).some (seen_many hc ht), someB_iff hc]

def listB (P : Nat) (f : Nat → Bool) (j : Nat) : List Int := List.map (fun k : Nat => (k : Int)) ((List.range' j (P - j)).filter f)
def surelyL (d : Desk) : List Int := listB d.ps.length (allB d) 0
def perhapsL (d : Desk) : List Int := listB d.ps.length (fun k => !allB d k && someB d k) 0
theorem of_list {P t : Nat} {f : Nat → Bool} (h : ∀ k, k < P → t.testBit k = f k) : ofFrom t P 0 = listB P f 0 := by
  unfold ofFrom listB
  congr 1
  refine List.filter_congr fun k hk => ?_
  simp only [List.mem_range'] at hk
  obtain ⟨m, h1, rfl⟩ := hk
  exact h _ (by omega)
/-- A set taken from a greater one. -/
theorem sub_bits : ∀ (N a b : Nat), a < 2 ^ N → b < 2 ^ N → (∀ n, a.testBit n = true → b.testBit n = true) → a ≤ b ∧ ∀ n, (b - a).testBit n = (b.testBit n && !a.testBit n)
  | 0, a, b, ha, hb, _ => by
    obtain rfl : a = 0 := by simp at ha; omega
    obtain rfl : b = 0 := by simp at hb; omega
    simp
  | N + 1, a, b, ha, hb, h => by
    have hp : 2 ^ (N + 1) = 2 ^ N * 2 := Nat.pow_succ ..
    obtain ⟨i1, i2⟩ := sub_bits N (a / 2) (b / 2) (by omega) (by omega) fun n hn => by
      rw [← Nat.testBit_succ] at hn ⊢
      exact h _ hn
    have h0 := h 0
    simp only [Nat.testBit_zero, decide_eq_true_eq] at h0
    have hab : a ≤ b := by omega
    refine ⟨hab, fun n => ?_⟩
    cases n with
    | zero =>
      simp only [Nat.testBit_zero]
      by_cases h1 : a % 2 = 1
      · have h2 := h0 h1
        have h3 : ¬ (b - a) % 2 = 1 := by omega
        simp [h1, h2, h3]
      · by_cases h2 : b % 2 = 1
        · have h3 : (b - a) % 2 = 1 := by omega
          simp [h1, h2, h3]
        · have h3 : ¬ (b - a) % 2 = 1 := by omega
          simp [h1, h2, h3]
    | succ n =>
      rw [Nat.testBit_succ, Nat.testBit_succ, Nat.testBit_succ, show (b - a) / 2 = b / 2 - a / 2 by omega]
      exact i2 n
theorem seen_rest {d : Desk} (hc : d.check = true) (ht : trueB d = true) : (seenV d).all ≤ (seenV d).some ∧ ofFrom ((seenV d).some - (seenV d).all) d.ps.length 0 = perhapsL d ∧ ofFrom (seenV d).all d.ps.length 0 = surelyL d := by
  have hm := seen_many hc ht
  have hT := seen_tells hc
  have hsub := sub_bits 8 (seenV d).all (seenV d).some hT.lt.1 hT.lt.2.1 fun n h => by
    rw [hT.all hm] at h
    rw [hT.some hm]
    obtain ⟨l, hl⟩ := (true_iff hc).1 ht
    exact ⟨l, hl, h l hl⟩
  refine ⟨hsub.1, of_list fun k hk => ?_, of_list fun k hk => seen_all hc ht hk⟩
  rw [hsub.2, seen_all hc ht hk, seen_some hc ht, Bool.and_comm]
end Go.Ab.Cl
