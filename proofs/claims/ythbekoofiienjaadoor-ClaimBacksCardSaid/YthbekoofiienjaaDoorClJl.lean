/-
  The claims: Back.
-/
import Derived.Test.YthbekoofiienjaaDoorClI
import Derived.Test.YthbekoofiienjaaDoorWk
namespace Go.Ab.Cl
open Go.Ab

/-! ### eight answers -/
def flf (f : Nat → Bool) : List AV := (List.range 8).map fun k => .bool (f k)
def setF (f : Nat → Bool) (k : Nat) (v : Bool) (n : Nat) : Bool := if n = k then v else f n
theorem flf_len (f : Nat → Bool) : (flf f).length = 8 := rfl
theorem flf_drop {f : Nat → Bool} {k : Nat} {b : Bool} (hk : k < 8) (hb : f k = b) : (flf f).drop k = .bool b :: (flf f).drop (k + 1) := by
  rw [List.drop_eq_getElem_cons (by rw [flf_len]; exact hk)]
  simp [flf, hb]
theorem flf_put {f : Nat → Bool} {k : Nat} {b : Bool} (hk : k < 8) : putAt (flf f) k [.bool b] = flf (setF f k b) := by
  rw [putAt_set (by rw [flf_len]; exact hk)]
  refine List.ext_getElem (by simp [flf]) fun n h1 h2 => ?_
  have h8 : n < 8 := by simpa [flf] using h2
  simp only [flf, List.getElem_set, List.getElem_map, List.getElem_range, setF]
  by_cases h : k = n
  · rw [if_pos h, if_pos h.symm]
  · rw [if_neg h, if_neg fun e => h e.symm]
theorem flf_congr {f g : Nat → Bool} (h : ∀ k, k < 8 → f k = g k) : flf f = flf g := by
  unfold flf
  refine List.map_congr_left fun k hk => ?_
  rw [h k (by simpa using hk)]
theorem setF_setF {f : Nat → Bool} {k : Nat} {a b : Bool} : setF (setF f k a) k b = setF f k b := by
  funext n; unfold setF; split <;> rfl
theorem setF_at {f : Nat → Bool} {k : Nat} {a : Bool} : setF f k a k = a := if_pos rfl
theorem room8 {f : Nat → Bool} {k : Nat} (hk : k < 8) : Nat.ble (Nat.add k 1) (lenK (flf f)) = true := by
  rw [lenK_eq, flf_len]
  exact Nat.ble_eq_true_of_le (by show k + 1 ≤ 8; omega)

def anyFrom (d : Desk) (k j : Nat) : Bool := (List.range' j (d.bs.length - j)).any fun i => canB d (i : Int) (k : Int)
theorem any_end {d : Desk} {k j : Nat} (h : d.bs.length ≤ j) : anyFrom d k j = false := by
  unfold anyFrom
  rw [Nat.sub_eq_zero_of_le h]; rfl
theorem any_step {d : Desk} {k j : Nat} (h : j < d.bs.length) : anyFrom d k j = (canB d (j : Int) (k : Int) || anyFrom d k (j + 1)) := by
  unfold anyFrom
  rw [show d.bs.length - j = (d.bs.length - (j + 1)) + 1 by omega, List.range'_succ, List.any_cons]
theorem any_all (d : Desk) (k : Nat) : anyFrom d k 0 = someB d k := by
  unfold anyFrom someB
  rw [Nat.sub_zero, List.range_eq_range']

theorem a27_L2_step {B : Bnd} (hB : B = Bk) {cl : CallK} {rd : RoundK} (d : Desk) (hd : d.ok) (hnb : d.bs.length ≤ 6) (k0 : Nat) (hk : k0 < 8) (P : Nat) (f g : Nat → Bool)
    (H71 : ∀ i : Nat, cl 0 71 [d.v, .int .i64 (i : Int), .int .i64 (k0 : Int)] [] ansK = some (.bool (canB d (i : Int) (k0 : Int)), [])) (n : Nat) (k : Ex → Env → St → Ans) (r : Ans) :
    ∀ (j i0 : Nat) (acc : Bool), d.bs.length < i0 + j → i0 ≤ d.bs.length →
    (∀ x, k (.exit 2) [(2, .sl [] .nil), (3, .sl [] .nil), (5, .ptr 0 1 0), (6, .ptr 0 2 0), (7, .ptr 0 3 0), (8, .int .i64 (k0 : Int)), (24, .int .i64 (.ofNat P)), (25, .int .i64 (k0 : Int)), (31, .int .i64 (.ofNat d.bs.length)), (32, .int .i64 x)] [⟨[], []⟩, ⟨[.cells d.c, .cells d.c, .cells (flf (setF f k0 (acc || anyFrom d k0 i0))), .cells (flf g)], []⟩] = r) →
    B.loop (evCK B a27_L2) [2, 3, 5, 6, 7, 8, 24, 25, 31, 32] n j cl rd Gx 0 2 [(2, .sl [] .nil), (3, .sl [] .nil), (5, .ptr 0 1 0), (6, .ptr 0 2 0), (7, .ptr 0 3 0), (8, .int .i64 (k0 : Int)), (24, .int .i64 (.ofNat P)), (25, .int .i64 (k0 : Int)), (31, .int .i64 (.ofNat d.bs.length)), (32, .int .i64 (.ofNat i0))] [⟨[], []⟩, ⟨[.cells d.c, .cells d.c, .cells (flf (setF f k0 acc)), .cells (flf g)], []⟩] k = r := by
  intro j
  induction j with
  | zero => intro i0 acc h1 h2; omega
  | succ j ih =>
    intro i0 acc h1 h2 k1
    refine loop_succ hB ?_
    conv => lhs; whnf
    refine lt_nat hB (fun h => ?_) (fun h => ?_) <;> conv => lhs; whnf
    · rw [any_step h] at k1
      have HC := H71 i0
      cases acc
      · repeat' ((first | refine fnat_pred hB ?_ | refine tok_step hB hd.tp ?_ | refine tok_step hB hd.tb ?_ | refine purs_step hB (by simp [purs, pur, hd.tp, hd.tb]) ?_ | refine opt2_step hB (iarr_ok rfl rfl rfl hk) ?_ | refine drop_step hB (flf_drop hk setF_at) ?_ | refine pans_step hB HC ?_ | refine fl_step hB (flf_put hk) ?_ | refine ifk_step hB (room8 hk) ?_ | refine purs_step hB rfl ?_ | refine lt_tt hB (by decide) ?_ | refine lt_ff hB (by decide) ?_ | refine le_tt hB (by decide) ?_ | refine le_ff hB (by decide) ?_ | refine eq_tt hB (by decide) ?_ | refine eq_ff hB (by decide) ?_ | refine fint_wrp hB (by omega) (by omega) ?_ | refine fint_step hB ?_ | refine fbool_tt hB ?_ | refine fbool_ff hB ?_ | refine fbool_split hB (fun _ => ?_) (fun _ => ?_) | refine ftok_step hB ?_ | refine frows_step hB ?_ | refine fstr_step hB ?_ | refine len_map hB ?_ | refine len_step hB ?_ | refine lens_step hB ?_ | refine byte_step hB ?_ | refine drop_step hB rfl ?_ | refine fl_step hB rfl ?_ | refine add_one hB (by first | omega | decide) ?_ | refine opt_step hB rfl ?_ | refine fnat_step hB ?_ | refine ifk_step hB rfl ?_ | refine ifk_step hB (flat_or rfl) ?_ | refine opt2_step hB rfl ?_ | refine obj_raw hB ?_ | refine sob_raw hB ?_ | refine fst_raw hB ?_ | refine optl_raw hB ?_ | refine tok_step hB rfl ?_) <;> conv => lhs; whnf)
        rw [setF_setF]
        refine ih (i0 + 1) _ (by omega) (by omega) fun x => ?_
        have k1 := k1 x
        rw [Bool.false_or] at k1
        exact k1
      · repeat' ((first | refine fnat_pred hB ?_ | refine tok_step hB hd.tp ?_ | refine tok_step hB hd.tb ?_ | refine opt2_step hB (iarr_ok rfl rfl rfl hk) ?_ | refine drop_step hB (flf_drop hk setF_at) ?_ | refine fl_step hB (flf_put hk) ?_ | refine ifk_step hB (room8 hk) ?_ | refine purs_step hB rfl ?_ | refine lt_tt hB (by decide) ?_ | refine lt_ff hB (by decide) ?_ | refine le_tt hB (by decide) ?_ | refine le_ff hB (by decide) ?_ | refine eq_tt hB (by decide) ?_ | refine eq_ff hB (by decide) ?_ | refine fint_wrp hB (by omega) (by omega) ?_ | refine fint_step hB ?_ | refine fbool_tt hB ?_ | refine fbool_ff hB ?_ | refine fbool_split hB (fun _ => ?_) (fun _ => ?_) | refine ftok_step hB ?_ | refine frows_step hB ?_ | refine fstr_step hB ?_ | refine len_map hB ?_ | refine len_step hB ?_ | refine lens_step hB ?_ | refine byte_step hB ?_ | refine drop_step hB rfl ?_ | refine fl_step hB rfl ?_ | refine add_one hB (by first | omega | decide) ?_ | refine opt_step hB rfl ?_ | refine fnat_step hB ?_ | refine ifk_step hB rfl ?_ | refine ifk_step hB (flat_or rfl) ?_ | refine opt2_step hB rfl ?_ | refine obj_raw hB ?_ | refine sob_raw hB ?_ | refine fst_raw hB ?_ | refine optl_raw hB ?_ | refine tok_step hB rfl ?_) <;> conv => lhs; whnf)
        rw [setF_setF]
        refine ih (i0 + 1) _ (by omega) (by omega) fun x => ?_
        have k1 := k1 x
        rw [Bool.true_or] at k1 ⊢
        exact k1
    · repeat' ((first | refine purs_step hB rfl ?_ | refine lt_tt hB (by decide) ?_ | refine lt_ff hB (by decide) ?_ | refine le_tt hB (by decide) ?_ | refine le_ff hB (by decide) ?_ | refine eq_tt hB (by decide) ?_ | refine eq_ff hB (by decide) ?_ | refine fint_wrp hB (by omega) (by omega) ?_ | refine fint_step hB ?_ | refine fbool_tt hB ?_ | refine fbool_ff hB ?_ | refine fbool_split hB (fun _ => ?_) (fun _ => ?_) | refine ftok_step hB ?_ | refine frows_step hB ?_ | refine fstr_step hB ?_ | refine len_map hB ?_ | refine len_step hB ?_ | refine lens_step hB ?_ | refine byte_step hB ?_ | refine drop_step hB rfl ?_ | refine fl_step hB rfl ?_ | refine add_one hB (by first | omega | decide) ?_ | refine opt_step hB rfl ?_ | refine fnat_step hB ?_ | refine ifk_step hB rfl ?_ | refine ifk_step hB (flat_or rfl) ?_ | refine opt2_step hB rfl ?_ | refine obj_raw hB ?_ | refine sob_raw hB ?_ | refine fst_raw hB ?_ | refine optl_raw hB ?_ | refine tok_step hB rfl ?_) <;> conv => lhs; whnf)
      have hi : i0 = d.bs.length := by omega
      subst hi
      rw [any_end (Nat.le_refl _), Bool.or_false] at k1
      exact k1 _

/-- The answers so far. -/
def upto (f : Nat → Bool) (k n : Nat) : Bool := decide (n < k) && f n
theorem upto_next (f : Nat → Bool) (k : Nat) : setF (upto f k) k (f k) = upto f (k + 1) := by
  funext n; unfold setF upto
  split
  · rename_i h; subst h; simp
  · rename_i h
    have : decide (n < k) = decide (n < k + 1) := by rw [decide_eq_decide]; omega
    rw [this]
theorem upto_is {f : Nat → Bool} {k : Nat} {b : Bool} (h : f k = b) : setF (upto f k) k b = upto f (k + 1) := h ▸ upto_next f k
theorem upto_self (f : Nat → Bool) (k : Nat) : setF (upto f k) k false = upto f k := by
  funext n; unfold setF upto
  split
  · rename_i h; subst h; simp
  · rfl
theorem a27_L1_step {B : Bnd} (hB : B = Bk) {cl : CallK} {rd : RoundK} (d : Desk) (hd : d.ok) (hc : d.check = true)
    (H71 : ∀ i k : Nat, cl 0 71 [d.v, .int .i64 (i : Int), .int .i64 (k : Int)] [] ansK = some (.bool (canB d (i : Int) (k : Int)), []))
    (H74 : ∀ k : Nat, k < d.ps.length → ∃ tp, purTok tp = true ∧ cl 0 74 [d.v, .int .i64 (k : Int)] [] ansK = some ((lessP d k tp).v, []))
    (H75 : ∀ (k : Nat) (tp : Tok), k < d.ps.length → purTok tp = true → cl 0 75 [(lessP d k tp).v] [] ansK = some (.bool (!allB d k), [])) (n : Nat) (hn : 1000 ≤ n) (k : Ex → Env → St → Ans) (r : Ans) :
    ∀ (j i0 : Nat), d.ps.length < i0 + j → i0 ≤ d.ps.length →
    (∀ x, k (.exit 0) [(2, .sl [] .nil), (3, .sl [] .nil), (5, .ptr 0 1 0), (6, .ptr 0 2 0), (7, .ptr 0 3 0), (24, .int .i64 (.ofNat d.ps.length)), (25, .int .i64 x)] [⟨[.cells d.c, .cells d.c, .cells (flf (upto (someB d) d.ps.length)), .cells (flf (upto (allB d) d.ps.length))], []⟩] = r) →
    B.loop (evCK B a27_L1) [2, 3, 5, 6, 7, 24, 25] n j cl rd Gx 0 1 [(2, .sl [] .nil), (3, .sl [] .nil), (5, .ptr 0 1 0), (6, .ptr 0 2 0), (7, .ptr 0 3 0), (24, .int .i64 (.ofNat d.ps.length)), (25, .int .i64 (.ofNat i0))] [⟨[.cells d.c, .cells d.c, .cells (flf (upto (someB d) i0)), .cells (flf (upto (allB d) i0))], []⟩] k = r := by
  intro j
  induction j with
  | zero => intro i0 h1 h2; omega
  | succ j ih =>
    intro i0 h1 h2 k1
    have hnb := (check_fine hc).nb
    have hnp := (check_fine hc).np
    refine loop_succ hB ?_
    conv => lhs; whnf
    refine lt_nat hB (fun h => ?_) (fun h => ?_) <;> conv => lhs; whnf
    · obtain ⟨tp, htp, HW⟩ := H74 i0 h
      have HT := H75 i0 tp h htp
      have hk : i0 < 8 := by omega
      rw [← upto_self (someB d) i0]
      repeat' ((first | refine fnat_pred hB ?_ | refine tok_step hB hd.tp ?_ | refine tok_step hB hd.tb ?_ | refine purs_step hB (by simp [purs, pur, hd.tp, hd.tb]) ?_ | refine a27_L2_step hB d hd hnb i0 hk d.ps.length (upto (someB d) i0) (upto (allB d) i0) (fun i => H71 i i0) _ _ _ _ 0 false (by omega) (by omega) (fun x => ?_) | refine purs_step hB rfl ?_ | refine lt_tt hB (by decide) ?_ | refine lt_ff hB (by decide) ?_ | refine le_tt hB (by decide) ?_ | refine le_ff hB (by decide) ?_ | refine eq_tt hB (by decide) ?_ | refine eq_ff hB (by decide) ?_ | refine fint_wrp hB (by omega) (by omega) ?_ | refine fint_step hB ?_ | refine fbool_tt hB ?_ | refine fbool_ff hB ?_ | refine fbool_split hB (fun _ => ?_) (fun _ => ?_) | refine ftok_step hB ?_ | refine frows_step hB ?_ | refine fstr_step hB ?_ | refine len_map hB ?_ | refine len_step hB ?_ | refine lens_step hB ?_ | refine byte_step hB ?_ | refine drop_step hB rfl ?_ | refine fl_step hB rfl ?_ | refine add_one hB (by first | omega | decide) ?_ | refine opt_step hB rfl ?_ | refine fnat_step hB ?_ | refine ifk_step hB rfl ?_ | refine ifk_step hB (flat_or rfl) ?_ | refine opt2_step hB rfl ?_ | refine obj_raw hB ?_ | refine sob_raw hB ?_ | refine fst_raw hB ?_ | refine optl_raw hB ?_ | refine tok_step hB rfl ?_) <;> conv => lhs; whnf)
      rw [Bool.false_or, any_all, upto_next]
      cases ha : allB d i0
      all_goals
        rw [ha] at HT
        conv => lhs; whnf
        repeat' ((first | refine fnat_pred hB ?_ | refine tok_step hB hd.tp ?_ | refine tok_step hB hd.tb ?_ | refine tok_step hB htp ?_ | refine purs_step hB (by simp [purs, pur, hd.tp, hd.tb, htp, lessP]) ?_ | refine pans_step hB HW ?_ | refine pans_step hB HT ?_ | refine opt2_step hB (iarr_ok rfl rfl rfl hk) ?_ | refine fl_step hB (flf_put hk) ?_ | refine ifk_step hB (room8 hk) ?_ | refine purs_step hB rfl ?_ | refine lt_tt hB (by decide) ?_ | refine lt_ff hB (by decide) ?_ | refine le_tt hB (by decide) ?_ | refine le_ff hB (by decide) ?_ | refine eq_tt hB (by decide) ?_ | refine eq_ff hB (by decide) ?_ | refine fint_wrp hB (by omega) (by omega) ?_ | refine fint_step hB ?_ | refine fbool_tt hB ?_ | refine fbool_ff hB ?_ | refine fbool_split hB (fun _ => ?_) (fun _ => ?_) | refine ftok_step hB ?_ | refine frows_step hB ?_ | refine fstr_step hB ?_ | refine len_map hB ?_ | refine len_step hB ?_ | refine lens_step hB ?_ | refine byte_step hB ?_ | refine drop_step hB rfl ?_ | refine fl_step hB rfl ?_ | refine add_one hB (by first | omega | decide) ?_ | refine opt_step hB rfl ?_ | refine fnat_step hB ?_ | refine ifk_step hB rfl ?_ | refine ifk_step hB (flat_or rfl) ?_ | refine opt2_step hB rfl ?_ | refine obj_raw hB ?_ | refine sob_raw hB ?_ | refine fst_raw hB ?_ | refine optl_raw hB ?_ | refine tok_step hB rfl ?_) <;> conv => lhs; whnf)
        rw [upto_is ha]
        exact ih (i0 + 1) (by omega) (by omega) k1
    · repeat' ((first | refine purs_step hB rfl ?_ | refine lt_tt hB (by decide) ?_ | refine lt_ff hB (by decide) ?_ | refine le_tt hB (by decide) ?_ | refine le_ff hB (by decide) ?_ | refine eq_tt hB (by decide) ?_ | refine eq_ff hB (by decide) ?_ | refine fint_wrp hB (by omega) (by omega) ?_ | refine fint_step hB ?_ | refine fbool_tt hB ?_ | refine fbool_ff hB ?_ | refine fbool_split hB (fun _ => ?_) (fun _ => ?_) | refine ftok_step hB ?_ | refine frows_step hB ?_ | refine fstr_step hB ?_ | refine len_map hB ?_ | refine len_step hB ?_ | refine lens_step hB ?_ | refine byte_step hB ?_ | refine drop_step hB rfl ?_ | refine fl_step hB rfl ?_ | refine add_one hB (by first | omega | decide) ?_ | refine opt_step hB rfl ?_ | refine fnat_step hB ?_ | refine ifk_step hB rfl ?_ | refine ifk_step hB (flat_or rfl) ?_ | refine opt2_step hB rfl ?_ | refine obj_raw hB ?_ | refine sob_raw hB ?_ | refine fst_raw hB ?_ | refine optl_raw hB ?_ | refine tok_step hB rfl ?_) <;> conv => lhs; whnf)
      have hi : i0 = d.ps.length := by omega
      subst hi
      exact k1 _

/-! ### two lists that grow -/
def TokIs (T : List (Nat × Nat × Nat)) (p : Nat) (l : List Int) : Prop := tokGet T p = if l = [] then (0, 0) else (1, l.length)
theorem app_is {f : Fr} {os : List AObj} {T : List (Nat × Nat × Nat)} {p : Nat} {acc : List Int} (hT : TokIs T p acc) (z : Int) (hl : acc.length ≤ 1000) :
    appAt 0 [f, ⟨os, T⟩] p 1 8 (.sl (rowsI acc) (tk 0 p acc)) (.sl [[.int .i64 z]] .full) = some (.sl (rowsI (acc ++ [z])) (tk 0 p (acc ++ [z])), [f, ⟨os, tokSet T p (1, acc.length + 1)⟩]) := by
  unfold TokIs at hT
  cases acc with
  | nil => simp at hT; simp [appAt, rowsAt, rowsI, tk, headFit, purs, pur, getTok, setTok, modFr, getFr, hT]
  | cons a acc =>
    have h1 : ((acc.length + 1 + 1) * 8 ≤ 140737488355328) := by simp at hl; omega
    simp at hT
    simp [appAt, rowsAt, rowsI, tk, headFit, purs, pur, getTok, setTok, modFr, getFr, hT, h1]
theorem tokIs_same {T : List (Nat × Nat × Nat)} {p : Nat} {acc : List Int} (z : Int) : TokIs (tokSet T p (1, acc.length + 1)) p (acc ++ [z]) := by
  unfold TokIs
  rw [tok_set, if_pos rfl, if_neg (by simp)]
  simp
theorem tokIs_other {T : List (Nat × Nat × Nat)} {p q : Nat} {acc : List Int} {x : Nat × Nat} (h : TokIs T q acc) (hpq : p ≠ q) : TokIs (tokSet T p x) q acc := by
  unfold TokIs
  rw [tok_set, if_neg hpq]; exact h
theorem listB_end {P j : Nat} {f : Nat → Bool} (h : P ≤ j) : listB P f j = [] := by
  unfold listB
  rw [Nat.sub_eq_zero_of_le h]; rfl
theorem listB_yes {P j : Nat} {f : Nat → Bool} (h : j < P) (hf : f j = true) : listB P f j = (j : Int) :: listB P f (j + 1) := by
  unfold listB
  rw [show P - j = (P - (j + 1)) + 1 by omega, List.range'_succ, List.filter_cons_of_pos hf]; rfl
theorem listB_no {P j : Nat} {f : Nat → Bool} (h : j < P) (hf : f j = false) : listB P f j = listB P f (j + 1) := by
  unfold listB
  rw [show P - j = (P - (j + 1)) + 1 by omega, List.range'_succ, List.filter_cons_of_neg (by rw [hf]; exact Bool.false_ne_true)]

theorem a27_L3_step {B : Bnd} (hB : B = Bk) {cl : CallK} {rd : RoundK} (P : Nat) (hP : P ≤ 8) (fs fa : Nat → Bool) (o0 o1 : AObj) (n : Nat) (k : Ex → Env → St → Ans) (r : Ans) :
    ∀ (j i0 : Nat) (ls lp : List Int) (T : List (Nat × Nat × Nat)), P < i0 + j → i0 ≤ P → ls.length ≤ i0 → lp.length ≤ i0 → TokIs T 71 ls → TokIs T 78 lp →
    (∀ x T', k (.exit 4) [(2, .sl (rowsI (ls ++ listB P fa i0)) (tk 0 71 (ls ++ listB P fa i0))), (3, .sl (rowsI (lp ++ listB P (fun k => !fa k && fs k) i0)) (tk 0 78 (lp ++ listB P (fun k => !fa k && fs k) i0))), (6, .ptr 0 2 0), (7, .ptr 0 3 0), (61, .int .i64 (.ofNat P)), (62, .int .i64 x)] [⟨[o0, o1, .cells (flf fs), .cells (flf fa)], T'⟩] = r) →
    B.loop (evCK B a27_L3) [2, 3, 6, 7, 61, 62] n j cl rd Gx 0 1 [(2, .sl (rowsI ls) (tk 0 71 ls)), (3, .sl (rowsI lp) (tk 0 78 lp)), (6, .ptr 0 2 0), (7, .ptr 0 3 0), (61, .int .i64 (.ofNat P)), (62, .int .i64 (.ofNat i0))] [⟨[o0, o1, .cells (flf fs), .cells (flf fa)], T⟩] k = r := by
  intro j
  induction j with
  | zero => intro i0 ls lp T h1 h2; omega
  | succ j ih =>
    intro i0 ls lp T h1 h2 h3 h4 hT hT' k1
    refine loop_succ hB ?_
    conv => lhs; whnf
    refine lt_nat hB (fun h => ?_) (fun h => ?_) <;> conv => lhs; whnf
    · have hk : i0 < 8 := by omega
      cases ha : fa i0
      · cases hs : fs i0
        · rw [listB_no h ha, listB_no (f := fun k => !fa k && fs k) h (by simp [ha, hs])] at k1
          repeat' ((first | refine fnat_pred hB ?_ | refine opt2_step hB (iarr_ok rfl rfl rfl hk) ?_ | refine drop_step hB (flf_drop hk ha) ?_ | refine drop_step hB (flf_drop hk hs) ?_ | refine purs_step hB rfl ?_ | refine lt_tt hB (by decide) ?_ | refine lt_ff hB (by decide) ?_ | refine le_tt hB (by decide) ?_ | refine le_ff hB (by decide) ?_ | refine eq_tt hB (by decide) ?_ | refine eq_ff hB (by decide) ?_ | refine fint_wrp hB (by omega) (by omega) ?_ | refine fint_step hB ?_ | refine fbool_tt hB ?_ | refine fbool_ff hB ?_ | refine fbool_split hB (fun _ => ?_) (fun _ => ?_) | refine ftok_step hB ?_ | refine frows_step hB ?_ | refine fstr_step hB ?_ | refine len_map hB ?_ | refine len_step hB ?_ | refine lens_step hB ?_ | refine byte_step hB ?_ | refine drop_step hB rfl ?_ | refine fl_step hB rfl ?_ | refine add_one hB (by first | omega | decide) ?_ | refine opt_step hB rfl ?_ | refine fnat_step hB ?_ | refine ifk_step hB rfl ?_ | refine ifk_step hB (flat_or rfl) ?_ | refine opt2_step hB rfl ?_ | refine obj_raw hB ?_ | refine sob_raw hB ?_ | refine fst_raw hB ?_ | refine optl_raw hB ?_ | refine tok_step hB rfl ?_) <;> conv => lhs; whnf)
          rw [clamp_tk (by omega), clamp_tk (by omega)]
          exact ih (i0 + 1) ls lp T (by omega) (by omega) (by omega) (by omega) hT hT' k1
        · rw [listB_no h ha, listB_yes (f := fun k => !fa k && fs k) h (by simp [ha, hs])] at k1
          repeat' ((first | refine fnat_pred hB ?_ | refine opt2_step hB (iarr_ok rfl rfl rfl hk) ?_ | refine drop_step hB (flf_drop hk ha) ?_ | refine drop_step hB (flf_drop hk hs) ?_ | refine opt2_step hB (app_is hT' (i0 : Int) (by omega)) ?_ | refine purs_step hB rfl ?_ | refine lt_tt hB (by decide) ?_ | refine lt_ff hB (by decide) ?_ | refine le_tt hB (by decide) ?_ | refine le_ff hB (by decide) ?_ | refine eq_tt hB (by decide) ?_ | refine eq_ff hB (by decide) ?_ | refine fint_wrp hB (by omega) (by omega) ?_ | refine fint_step hB ?_ | refine fbool_tt hB ?_ | refine fbool_ff hB ?_ | refine fbool_split hB (fun _ => ?_) (fun _ => ?_) | refine ftok_step hB ?_ | refine frows_step hB ?_ | refine fstr_step hB ?_ | refine len_map hB ?_ | refine len_step hB ?_ | refine lens_step hB ?_ | refine byte_step hB ?_ | refine drop_step hB rfl ?_ | refine fl_step hB rfl ?_ | refine add_one hB (by first | omega | decide) ?_ | refine opt_step hB rfl ?_ | refine fnat_step hB ?_ | refine ifk_step hB rfl ?_ | refine ifk_step hB (flat_or rfl) ?_ | refine opt2_step hB rfl ?_ | refine obj_raw hB ?_ | refine sob_raw hB ?_ | refine fst_raw hB ?_ | refine optl_raw hB ?_ | refine tok_step hB rfl ?_) <;> conv => lhs; whnf)
          rw [clamp_tk (by omega), clamp_tk (by omega)]
          refine ih (i0 + 1) ls (lp ++ [(i0 : Int)]) _ (by omega) (by omega) (by omega) (by simp; omega) (tokIs_other hT (by decide)) (tokIs_same _) ?_
          rw [List.append_assoc]; exact k1
      · rw [listB_yes h ha, listB_no (f := fun k => !fa k && fs k) h (by simp [ha])] at k1
        repeat' ((first | refine fnat_pred hB ?_ | refine opt2_step hB (iarr_ok rfl rfl rfl hk) ?_ | refine drop_step hB (flf_drop hk ha) ?_ | refine opt2_step hB (app_is hT (i0 : Int) (by omega)) ?_ | refine purs_step hB rfl ?_ | refine lt_tt hB (by decide) ?_ | refine lt_ff hB (by decide) ?_ | refine le_tt hB (by decide) ?_ | refine le_ff hB (by decide) ?_ | refine eq_tt hB (by decide) ?_ | refine eq_ff hB (by decide) ?_ | refine fint_wrp hB (by omega) (by omega) ?_ | refine fint_step hB ?_ | refine fbool_tt hB ?_ | refine fbool_ff hB ?_ | refine fbool_split hB (fun _ => ?_) (fun _ => ?_) | refine ftok_step hB ?_ | refine frows_step hB ?_ | refine fstr_step hB ?_ | refine len_map hB ?_ | refine len_step hB ?_ | refine lens_step hB ?_ | refine byte_step hB ?_ | refine drop_step hB rfl ?_ | refine fl_step hB rfl ?_ | refine add_one hB (by first | omega | decide) ?_ | refine opt_step hB rfl ?_ | refine fnat_step hB ?_ | refine ifk_step hB rfl ?_ | refine ifk_step hB (flat_or rfl) ?_ | refine opt2_step hB rfl ?_ | refine obj_raw hB ?_ | refine sob_raw hB ?_ | refine fst_raw hB ?_ | refine optl_raw hB ?_ | refine tok_step hB rfl ?_) <;> conv => lhs; whnf)
        rw [clamp_tk (by omega), clamp_tk (by omega)]
        refine ih (i0 + 1) (ls ++ [(i0 : Int)]) lp _ (by omega) (by omega) (by simp; omega) (by omega) (tokIs_same _) (tokIs_other hT' (by decide)) ?_
        rw [List.append_assoc]; exact k1
    · repeat' ((first | refine purs_step hB rfl ?_ | refine lt_tt hB (by decide) ?_ | refine lt_ff hB (by decide) ?_ | refine le_tt hB (by decide) ?_ | refine le_ff hB (by decide) ?_ | refine eq_tt hB (by decide) ?_ | refine eq_ff hB (by decide) ?_ | refine fint_wrp hB (by omega) (by omega) ?_ | refine fint_step hB ?_ | refine fbool_tt hB ?_ | refine fbool_ff hB ?_ | refine fbool_split hB (fun _ => ?_) (fun _ => ?_) | refine ftok_step hB ?_ | refine frows_step hB ?_ | refine fstr_step hB ?_ | refine len_map hB ?_ | refine len_step hB ?_ | refine lens_step hB ?_ | refine byte_step hB ?_ | refine drop_step hB rfl ?_ | refine fl_step hB rfl ?_ | refine add_one hB (by first | omega | decide) ?_ | refine opt_step hB rfl ?_ | refine fnat_step hB ?_ | refine ifk_step hB rfl ?_ | refine ifk_step hB (flat_or rfl) ?_ | refine opt2_step hB rfl ?_ | refine obj_raw hB ?_ | refine sob_raw hB ?_ | refine fst_raw hB ?_ | refine optl_raw hB ?_ | refine tok_step hB rfl ?_) <;> conv => lhs; whnf)
      have hi : i0 = P := by omega
      subst hi
      rw [listB_end (Nat.le_refl _), listB_end (Nat.le_refl _), List.append_nil, List.append_nil] at k1
      rw [clamp_tk (by omega), clamp_tk (by omega)]
      exact k1 _ _

theorem none8_ev {n : Nat} (hn : 2 ≤ n) : (evKR Bk Gx fsT n).1 0 62 [] [] ansK = some (.agg (flf fun _ => false), []) := by
  refine call_open (show fsT.find 62 = some a62 from rfl) (by omega) fun n' B cl rd hn' hB hcl hrd => ?_
  conv => lhs; whnf
  repeat' ((first | refine fnat_pred hB ?_ | refine purs_step hB rfl ?_ | refine lt_tt hB (by decide) ?_ | refine lt_ff hB (by decide) ?_ | refine le_tt hB (by decide) ?_ | refine le_ff hB (by decide) ?_ | refine eq_tt hB (by decide) ?_ | refine eq_ff hB (by decide) ?_ | refine fint_wrp hB (by omega) (by omega) ?_ | refine fint_step hB ?_ | refine fbool_tt hB ?_ | refine fbool_ff hB ?_ | refine fbool_split hB (fun _ => ?_) (fun _ => ?_) | refine ftok_step hB ?_ | refine frows_step hB ?_ | refine fstr_step hB ?_ | refine len_map hB ?_ | refine len_step hB ?_ | refine lens_step hB ?_ | refine byte_step hB ?_ | refine drop_step hB rfl ?_ | refine fl_step hB rfl ?_ | refine add_one hB (by first | omega | decide) ?_ | refine opt_step hB rfl ?_ | refine fnat_step hB ?_ | refine ifk_step hB rfl ?_ | refine ifk_step hB (flat_or rfl) ?_ | refine opt2_step hB rfl ?_ | refine obj_raw hB ?_ | refine sob_raw hB ?_ | refine fst_raw hB ?_ | refine optl_raw hB ?_ | refine tok_step hB rfl ?_) <;> conv => lhs; whnf)
  all_goals rfl
theorem eqL_bools : ∀ (x y : List Bool), x.length = y.length → eqL (x.map fun _ => SK.bool) (x.map AV.bool) (y.map AV.bool) = some (x == y)
  | [], [], _ => rfl
  | a :: x, b :: y, h => by
    have ih := eqL_bools x y (by simpa using h)
    simp only [List.map_cons, eqL, eqS, Option.bind_some]
    cases hab : a == b
    · simp [hab]
    · rw [if_pos rfl, ih]
      simp only [beq_iff_eq] at hab
      subst hab
      simp
def bl (f : Nat → Bool) : List Bool := (List.range 8).map f
theorem flf_bl (f : Nat → Bool) : flf f = (bl f).map AV.bool := by simp [flf, bl]
theorem eq8 (f g : Nat → Bool) : (eqK (.agg [.bool, .bool, .bool, .bool, .bool, .bool, .bool, .bool]) (.agg (flf f)) (.agg (flf g))).map (fun t => AV.bool (if false = true then !t else t)) = some (.bool (bl f == bl g)) := by
  have h := eqL_bools (bl f) (bl g) rfl
  have h1 : (bl f).map (fun _ => SK.bool) = [.bool, .bool, .bool, .bool, .bool, .bool, .bool, .bool] := rfl
  rw [h1] at h
  have h2 : eqK (.agg [.bool, .bool, .bool, .bool, .bool, .bool, .bool, .bool]) (.agg (flf f)) (.agg (flf g)) = eqL [.bool, .bool, .bool, .bool, .bool, .bool, .bool, .bool] (flf f) (flf g) := rfl
  rw [h2, flf_bl, flf_bl, h]
  rfl
theorem bl_eq {f g : Nat → Bool} : (bl f == bl g) = true ↔ ∀ k, k < 8 → f k = g k := by
  rw [beq_iff_eq]
  unfold bl
  constructor
  · intro h k hk
    have := List.map_inj_left.1 h k (by simpa using hk)
    exact this
  · intro h
    exact List.map_congr_left fun k hk => h k (by simpa using hk)
set_option maxHeartbeats 4000000 in
theorem Back_ev {n : Nat} (hn : 1000000000000600 ≤ n) (d : Desk) (hd : d.ok) : (evKR Bk Gx fsT n).1 0 27 [d.v] [] ansK = some (.tup [.sl (rowsI (surelyR d)) (wtok (surelyR d)), .sl (rowsI (perhapsR d)) (wtok (perhapsR d)), .int .i64 (askE d true)], []) := by
  refine call_open (show fsT.find 27 = some a27 from rfl) (by omega) fun n' B cl rd hn' hB hcl hrd => ?_
  have H63 := asked0_ev (n := n') (by omega) d hd
  have H62 := none8_ev (n := n') (by omega)
  rw [← hcl] at H63 H62
  unfold surelyR perhapsR
  by_cases he : askE d true = 0
  · obtain ⟨hc, ht⟩ := ask_true he
    have hf := check_fine hc
    have hnp := hf.np
    have hnb := hf.nb
    have H71 : ∀ i k : Nat, (evKR Bk Gx fsT n').1 0 71 [d.v, .int .i64 (i : Int), .int .i64 (k : Int)] [] ansK = some (.bool (canB d (i : Int) (k : Int)), []) := fun i k => can_ev (n := n') (by omega) d hd hc i k
    have H74 : ∀ k : Nat, k < d.ps.length → ∃ tp, purTok tp = true ∧ (evKR Bk Gx fsT n').1 0 74 [d.v, .int .i64 (k : Int)] [] ansK = some ((lessP d k tp).v, []) := fun k hk => without_ev (n := n') (by omega) d hd hnp k hk rfl
    have H75 : ∀ (k : Nat) (tp : Tok), k < d.ps.length → purTok tp = true → (evKR Bk Gx fsT n').1 0 75 [(lessP d k tp).v] [] ansK = some (.bool (!allB d k), []) := fun k tp hk htp => by
      rw [← allB_tok hc hk tp]
      exact true_ev (n := n') (by omega) (lessP d k tp) (lessP_ok hd htp) (lessP_check hc hk tp)
    rw [← hcl] at H71 H74 H75
    rw [show askD d true = d from if_pos he, he] at H63
    rw [if_pos he, if_pos he, he]
    have hz0 : ∀ f : Nat → Bool, flf (upto f 0) = flf fun _ => false := fun f => flf_congr fun k _ => by simp [upto]
    have hL1 := fun (k : Ex → Env → St → Ans) (r : Ans) => a27_L1_step hB (rd := rd) d hd hc H71 H74 H75 n' (by omega) k r n' 0 (by omega) (by omega)
    rw [hz0, hz0] at hL1
    have hE := eq8 (upto (someB d) d.ps.length) (fun _ => false)
    cases hb : bl (upto (someB d) d.ps.length) == bl (fun _ => false)
    · rw [hb] at hE
      have hS : ∀ x : Nat, sliceAV 1 (.sl (rowsI (surelyL d)) (tk 0 71 (surelyL d))) none (some (.int .i64 (.ofNat (surelyL d).length))) (some (.int .i64 (.ofNat (surelyL d).length))) = some (.sl (rowsI (surelyL d)) (wtok (surelyL d))) := fun _ => slice_tk _
      have hQ : sliceAV 1 (.sl (rowsI (perhapsL d)) (tk 0 78 (perhapsL d))) none (some (.int .i64 (.ofNat (perhapsL d).length))) (some (.int .i64 (.ofNat (perhapsL d).length))) = some (.sl (rowsI (perhapsL d)) (wtok (perhapsL d))) := slice_tk _
      have eS : [] ++ listB d.ps.length (upto (allB d) d.ps.length) 0 = surelyL d := by
        rw [List.nil_append]
        unfold surelyL listB
        congr 1
        refine List.filter_congr fun k hk => ?_
        simp only [List.mem_range'] at hk
        obtain ⟨m, h1, rfl⟩ := hk
        simp [upto]; omega
      have eP : [] ++ listB d.ps.length (fun k => !upto (allB d) d.ps.length k && upto (someB d) d.ps.length k) 0 = perhapsL d := by
        rw [List.nil_append]
        unfold perhapsL listB
        congr 1
        refine List.filter_congr fun k hk => ?_
        simp only [List.mem_range'] at hk
        obtain ⟨m, h1, rfl⟩ := hk
        have : 0 + 1 * m < d.ps.length := by omega
        simp only [upto, decide_eq_true this, Bool.true_and]
      have hL3 := fun o0 o1 (k : Ex → Env → St → Ans) (r : Ans) => a27_L3_step hB (cl := cl) (rd := rd) d.ps.length hnp (upto (someB d) d.ps.length) (upto (allB d) d.ps.length) o0 o1 n' k r n' 0 [] [] [] (by omega) (by omega) (by simp) (by simp) rfl rfl
      rw [eS, eP] at hL3
      conv => lhs; whnf
      repeat' ((first | refine fnat_pred hB ?_ | refine tok_step hB hd.tp ?_ | refine tok_step hB hd.tb ?_ | refine purs_step hB (by simp [purs, pur, hd.tp, hd.tb]) ?_ | refine pans_step hB H63 ?_ | refine pans_step hB H62 ?_ | refine hL1 _ _ (fun x => ?_) | refine opt_step hB hE ?_ | refine hL3 _ _ _ _ (fun x T => ?_) | refine opt_step hB (hS 0) ?_ | refine opt_step hB hQ ?_ | refine len_map hB ?_ | refine tok_step hB (wtok_pur (surelyL d)) ?_ | refine tok_step hB (wtok_pur (perhapsL d)) ?_ | refine purs_step hB rfl ?_ | refine lt_tt hB (by decide) ?_ | refine lt_ff hB (by decide) ?_ | refine le_tt hB (by decide) ?_ | refine le_ff hB (by decide) ?_ | refine eq_tt hB (by decide) ?_ | refine eq_ff hB (by decide) ?_ | refine fint_wrp hB (by omega) (by omega) ?_ | refine fint_step hB ?_ | refine fbool_tt hB ?_ | refine fbool_ff hB ?_ | refine fbool_split hB (fun _ => ?_) (fun _ => ?_) | refine ftok_step hB ?_ | refine frows_step hB ?_ | refine fstr_step hB ?_ | refine len_map hB ?_ | refine len_step hB ?_ | refine lens_step hB ?_ | refine byte_step hB ?_ | refine drop_step hB rfl ?_ | refine fl_step hB rfl ?_ | refine add_one hB (by first | omega | decide) ?_ | refine opt_step hB rfl ?_ | refine fnat_step hB ?_ | refine ifk_step hB rfl ?_ | refine ifk_step hB (flat_or rfl) ?_ | refine opt2_step hB rfl ?_ | refine obj_raw hB ?_ | refine sob_raw hB ?_ | refine fst_raw hB ?_ | refine optl_raw hB ?_ | refine tok_step hB rfl ?_) <;> conv => lhs; whnf)
      all_goals rfl
    · rw [hb] at hE
      have hz := bl_eq.1 hb
      have hno : ∀ k, k < d.ps.length → someB d k = false := fun k hk => by
        have := hz k (by omega)
        simpa [upto, hk] using this
      have eS : surelyL d = [] := by
        unfold surelyL listB
        rw [List.map_eq_nil_iff, List.filter_eq_nil_iff]
        intro k hk ha
        simp only [List.mem_range'] at hk
        obtain ⟨m, h1, rfl⟩ := hk
        have := all_some hc ht (by omega) ha
        rw [hno _ (by omega)] at this
        cases this
      have eP : perhapsL d = [] := by
        unfold perhapsL listB
        rw [List.map_eq_nil_iff, List.filter_eq_nil_iff]
        intro k hk ha
        simp only [List.mem_range'] at hk
        obtain ⟨m, h1, rfl⟩ := hk
        rw [hno _ (by omega)] at ha
        simp at ha
      rw [eS, eP]
      conv => lhs; whnf
      repeat' ((first | refine fnat_pred hB ?_ | refine tok_step hB hd.tp ?_ | refine tok_step hB hd.tb ?_ | refine purs_step hB (by simp [purs, pur, hd.tp, hd.tb]) ?_ | refine pans_step hB H63 ?_ | refine pans_step hB H62 ?_ | refine hL1 _ _ (fun x => ?_) | refine opt_step hB hE ?_ | refine purs_step hB rfl ?_ | refine lt_tt hB (by decide) ?_ | refine lt_ff hB (by decide) ?_ | refine le_tt hB (by decide) ?_ | refine le_ff hB (by decide) ?_ | refine eq_tt hB (by decide) ?_ | refine eq_ff hB (by decide) ?_ | refine fint_wrp hB (by omega) (by omega) ?_ | refine fint_step hB ?_ | refine fbool_tt hB ?_ | refine fbool_ff hB ?_ | refine fbool_split hB (fun _ => ?_) (fun _ => ?_) | refine ftok_step hB ?_ | refine frows_step hB ?_ | refine fstr_step hB ?_ | refine len_map hB ?_ | refine len_step hB ?_ | refine lens_step hB ?_ | refine byte_step hB ?_ | refine drop_step hB rfl ?_ | refine fl_step hB rfl ?_ | refine add_one hB (by first | omega | decide) ?_ | refine opt_step hB rfl ?_ | refine fnat_step hB ?_ | refine ifk_step hB rfl ?_ | refine ifk_step hB (flat_or rfl) ?_ | refine opt2_step hB rfl ?_ | refine obj_raw hB ?_ | refine sob_raw hB ?_ | refine fst_raw hB ?_ | refine optl_raw hB ?_ | refine tok_step hB rfl ?_) <;> conv => lhs; whnf)
      all_goals rfl
  · rw [if_neg he, if_neg he]
    rw [show askD d true = zeroD from if_neg he] at H63
    conv => lhs; whnf
    repeat' ((first | refine fnat_pred hB ?_ | refine tok_step hB hd.tp ?_ | refine tok_step hB hd.tb ?_ | refine purs_step hB (by simp [purs, pur, hd.tp, hd.tb]) ?_ | refine pans_step hB H63 ?_ | refine eq_ff hB he ?_ | refine purs_step hB rfl ?_ | refine lt_tt hB (by decide) ?_ | refine lt_ff hB (by decide) ?_ | refine le_tt hB (by decide) ?_ | refine le_ff hB (by decide) ?_ | refine eq_tt hB (by decide) ?_ | refine eq_ff hB (by decide) ?_ | refine fint_wrp hB (by omega) (by omega) ?_ | refine fint_step hB ?_ | refine fbool_tt hB ?_ | refine fbool_ff hB ?_ | refine fbool_split hB (fun _ => ?_) (fun _ => ?_) | refine ftok_step hB ?_ | refine frows_step hB ?_ | refine fstr_step hB ?_ | refine len_map hB ?_ | refine len_step hB ?_ | refine lens_step hB ?_ | refine byte_step hB ?_ | refine drop_step hB rfl ?_ | refine fl_step hB rfl ?_ | refine add_one hB (by first | omega | decide) ?_ | refine opt_step hB rfl ?_ | refine fnat_step hB ?_ | refine ifk_step hB rfl ?_ | refine ifk_step hB (flat_or rfl) ?_ | refine opt2_step hB rfl ?_ | refine obj_raw hB ?_ | refine sob_raw hB ?_ | refine fst_raw hB ?_ | refine optl_raw hB ?_ | refine tok_step hB rfl ?_) <;> conv => lhs; whnf)
    all_goals rfl
end Go.Ab.Cl

namespace Go.Ab.Cl
open Go.Ab

theorem listB_len {P : Nat} {f : Nat → Bool} (hP : P ≤ 8) : (listB P f 0).length ≤ 1000 := by
  unfold listB
  rw [List.length_map]
  refine Nat.le_trans (List.length_filter_le _ _) ?_
  simp; omega
theorem surely_len (d : Desk) : (surelyR d).length ≤ 1000 := by
  unfold surelyR; split
  · rename_i he; exact listB_len (check_fine (ask_true he).1).np
  · simp
theorem perhaps_len (d : Desk) : (perhapsR d).length ≤ 1000 := by
  unfold perhapsR; split
  · rename_i he; exact listB_len (check_fine (ask_true he).1).np
  · simp
theorem span_eq (a b : Int) : (eqK (.agg [.int, .int]) (.agg [.int .i64 a, .int .i64 b]) (.agg [.int .i64 a, .int .i64 b])).map (fun t => AV.bool (if false = true then !t else t)) = some (.bool true) := by
  simp [eqK, eqL, eqS]

set_option maxHeartbeats 4000000 in
theorem law_backs (d : Desk) (hd : d.ok) : (evKR Bk Gx fsT 2000000000000000).1 0 5 [d.v] [] ansK = some (.bool true, []) := by
  refine call_open (show fsT.find 5 = some a5 from rfl) (by omega) fun n B cl rd hn' hB hcl hrd => ?_
  have hn : n = 1999999999999999 := by omega
  have H21 : cl 0 21 [] [] ansK = some (.bool true, []) := by rw [hcl, hn]; exact works_ev
  have H27 := Back_ev (n := n) (by omega) d hd
  have H28 := BackF_ev (n := n) (by omega) d hd
  have H24 := Match_ev (n := n) (by omega) (surelyR d) (surelyR d) (by have := surely_len d; omega) (wtok_pur (surelyR d)) (otok_pur (surelyR d))
  have H24b := Match_ev (n := n) (by omega) (perhapsR d) (perhapsR d) (by have := perhaps_len d; omega) (wtok_pur (perhapsR d)) (otok_pur (perhapsR d))
  have H29 := Worth_ev (n := n) (by omega) d hd
  have H30 := WorthF_ev (n := n) (by omega) d hd
  rw [decide_eq_true rfl] at H24 H24b
  rw [← hcl] at H27 H28 H24 H24b H29 H30
  conv => lhs; whnf
  repeat' ((first | refine fnat_pred hB ?_ | refine tok_step hB hd.tp ?_ | refine tok_step hB hd.tb ?_ | refine tok_step hB (wtok_pur (surelyR d)) ?_ | refine tok_step hB (otok_pur (surelyR d)) ?_ | refine tok_step hB (wtok_pur (perhapsR d)) ?_ | refine tok_step hB (otok_pur (perhapsR d)) ?_ | refine purs_step hB (by simp [purs, pur, hd.tp, hd.tb, wtok_pur, otok_pur]) ?_ | refine pans_step hB H27 ?_ | refine pans_step hB H28 ?_ | refine pans_step hB H24 ?_ | refine pans_step hB H24b ?_ | refine pans_step hB H29 ?_ | refine pans_step hB H30 ?_ | refine pans_step hB H21 ?_ | refine eq_tt hB rfl ?_ | refine opt_step hB (span_eq _ _) ?_ | refine purs_step hB rfl ?_ | refine lt_tt hB (by decide) ?_ | refine lt_ff hB (by decide) ?_ | refine le_tt hB (by decide) ?_ | refine le_ff hB (by decide) ?_ | refine eq_tt hB (by decide) ?_ | refine eq_ff hB (by decide) ?_ | refine fint_wrp hB (by omega) (by omega) ?_ | refine fint_step hB ?_ | refine fbool_tt hB ?_ | refine fbool_ff hB ?_ | refine fbool_split hB (fun _ => ?_) (fun _ => ?_) | refine ftok_step hB ?_ | refine frows_step hB ?_ | refine fstr_step hB ?_ | refine len_map hB ?_ | refine len_step hB ?_ | refine lens_step hB ?_ | refine byte_step hB ?_ | refine drop_step hB rfl ?_ | refine fl_step hB rfl ?_ | refine add_one hB (by first | omega | decide) ?_ | refine opt_step hB rfl ?_ | refine fnat_step hB ?_ | refine ifk_step hB rfl ?_ | refine ifk_step hB (flat_or rfl) ?_ | refine opt2_step hB rfl ?_ | refine obj_raw hB ?_ | refine sob_raw hB ?_ | refine fst_raw hB ?_ | refine optl_raw hB ?_ | refine tok_step hB rfl ?_) <;> conv => lhs; whnf)
  all_goals rfl
end Go.Ab.Cl
