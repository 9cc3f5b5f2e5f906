/-
  The claims: spans and places in lists.
-/
import Derived.Test.YthbekoofiienjaaDoorClG
namespace Go.Ab.Cl
open Go.Ab

theorem To_ev {n : Nat} (hn : 2 ≤ n) (a b : Int) : (evKR Bk Gx fsT n).1 0 43 [.int .i64 a, .int .i64 b] [] ansK = some (.agg [.int .i64 a, .int .i64 b], []) := by
  refine call_open (show fsT.find 43 = some a43 from rfl) (by omega) fun n' B cl rd hn' hB hcl hrd => ?_
  conv => lhs; whnf
  repeat' ((first | refine fnat_pred hB ?_ | refine purs_step hB rfl ?_ | refine lt_tt hB (by decide) ?_ | refine lt_ff hB (by decide) ?_ | refine le_tt hB (by decide) ?_ | refine le_ff hB (by decide) ?_ | refine eq_tt hB (by decide) ?_ | refine eq_ff hB (by decide) ?_ | refine fint_wrp hB (by omega) (by omega) ?_ | refine fint_step hB ?_ | refine fbool_tt hB ?_ | refine fbool_ff hB ?_ | refine fbool_split hB (fun _ => ?_) (fun _ => ?_) | refine ftok_step hB ?_ | refine frows_step hB ?_ | refine fstr_step hB ?_ | refine len_map hB ?_ | refine len_step hB ?_ | refine lens_step hB ?_ | refine byte_step hB ?_ | refine drop_step hB rfl ?_ | refine fl_step hB rfl ?_ | refine add_one hB (by first | omega | decide) ?_ | refine opt_step hB rfl ?_ | refine fnat_step hB ?_ | refine ifk_step hB rfl ?_ | refine ifk_step hB (flat_or rfl) ?_ | refine opt2_step hB rfl ?_ | refine obj_raw hB ?_ | refine sob_raw hB ?_ | refine fst_raw hB ?_ | refine optl_raw hB ?_ | refine tok_step hB rfl ?_) <;> conv => lhs; whnf)
  all_goals rfl
def innerB (a b c d : Int) : Bool := decide (c ≤ a) && decide (b ≤ d)
theorem Inner_ev {n : Nat} (hn : 2 ≤ n) (a b c d : Int) : (evKR Bk Gx fsT n).1 0 49 [.agg [.int .i64 a, .int .i64 b], .agg [.int .i64 c, .int .i64 d]] [] ansK = some (.bool (innerB a b c d), []) := by
  refine call_open (show fsT.find 49 = some a49 from rfl) (by omega) fun n' B cl rd hn' hB hcl hrd => ?_
  conv => lhs; whnf
  repeat' ((first | refine fnat_pred hB ?_ | refine le_split hB (fun h1 => ?_) (fun h1 => ?_) | refine purs_step hB rfl ?_ | refine lt_tt hB (by decide) ?_ | refine lt_ff hB (by decide) ?_ | refine le_tt hB (by decide) ?_ | refine le_ff hB (by decide) ?_ | refine eq_tt hB (by decide) ?_ | refine eq_ff hB (by decide) ?_ | refine fint_wrp hB (by omega) (by omega) ?_ | refine fint_step hB ?_ | refine fbool_tt hB ?_ | refine fbool_ff hB ?_ | refine fbool_split hB (fun _ => ?_) (fun _ => ?_) | refine ftok_step hB ?_ | refine frows_step hB ?_ | refine fstr_step hB ?_ | refine len_map hB ?_ | refine len_step hB ?_ | refine lens_step hB ?_ | refine byte_step hB ?_ | refine drop_step hB rfl ?_ | refine fl_step hB rfl ?_ | refine add_one hB (by first | omega | decide) ?_ | refine opt_step hB rfl ?_ | refine fnat_step hB ?_ | refine ifk_step hB rfl ?_ | refine ifk_step hB (flat_or rfl) ?_ | refine opt2_step hB rfl ?_ | refine obj_raw hB ?_ | refine sob_raw hB ?_ | refine fst_raw hB ?_ | refine optl_raw hB ?_ | refine tok_step hB rfl ?_) <;> conv => lhs; whnf)
  all_goals
    refine congrArg some (congrArg (·, []) (congrArg AV.bool ?_))
    simp_all [innerB] <;> omega
def placeI : List Int → Int → Int → Int
  | [], _, _ => -1
  | k :: l, n, i => if k = n then i else placeI l n (i + 1)
theorem a39_L1_step {B : Bnd} (hB : B = Bk) {cl : CallK} {rd : RoundK} (l : List Int) (hl : l.length ≤ 1000000000000000) (z : Int) (n : Nat) (s : St) (k : Ex → Env → St → Ans) (r : Ans) :
    ∀ (j i0 : Nat) (t : Tok), purTok t = true → l.length < i0 + j → i0 ≤ l.length →
    (placeI (l.drop i0) z (i0 : Int) = -1 → ∀ e, k (.exit 0) ((0, .sl (rowsI l) t) :: e) s = r) →
    (∀ e, k .ret ((0, .sl (rowsI l) t) :: (1, .int .i64 z) :: (4, .int .i64 (placeI (l.drop i0) z (i0 : Int))) :: e) s = r) →
    B.loop (evCK B a39_L1) [0, 1, 4, 5] n j cl rd Gx 0 1 [(0, .sl (rowsI l) t), (1, .int .i64 z), (4, .int .i64 0), (5, .int .i64 (.ofNat i0))] s k = r := by
  intro j
  induction j with
  | zero => intro i0 t ht h1 h2; omega
  | succ j ih =>
    intro i0 t ht h1 h2 k1 k2
    refine loop_succ hB ?_
    conv => lhs; whnf
    refine len_map hB ?_
    conv => lhs; whnf
    refine lt_nat hB (fun h => ?_) (fun h => ?_) <;> conv => lhs; whnf
    · have hx : (rowsI l)[i0]? = some [.int .i64 l[i0]] := by simp [rowsI, h]
      have hdr : l.drop i0 = l[i0] :: l.drop (i0 + 1) := List.drop_eq_getElem_cons h
      rw [hdr] at k1 k2
      generalize l[i0] = y at hx hdr k1 k2
      repeat' ((first | refine natOf_step hB (m := i0) rfl ?_ | refine nth_step hB hx ?_ | refine eq_split hB (fun hy => ?_) (fun hy => ?_) | refine purs_step hB rfl ?_ | refine lt_tt hB (by decide) ?_ | refine lt_ff hB (by decide) ?_ | refine le_tt hB (by decide) ?_ | refine le_ff hB (by decide) ?_ | refine eq_tt hB (by decide) ?_ | refine eq_ff hB (by decide) ?_ | refine fint_wrp hB (by omega) (by omega) ?_ | refine fint_step hB ?_ | refine fbool_tt hB ?_ | refine fbool_ff hB ?_ | refine fbool_split hB (fun _ => ?_) (fun _ => ?_) | refine ftok_step hB ?_ | refine frows_step hB ?_ | refine fstr_step hB ?_ | refine len_map hB ?_ | refine len_step hB ?_ | refine lens_step hB ?_ | refine byte_step hB ?_ | refine drop_step hB rfl ?_ | refine fl_step hB rfl ?_ | refine add_one hB (by first | omega | decide) ?_ | refine opt_step hB rfl ?_ | refine fnat_step hB ?_ | refine ifk_step hB rfl ?_ | refine ifk_step hB (flat_or rfl) ?_ | refine opt2_step hB rfl ?_ | refine obj_raw hB ?_ | refine sob_raw hB ?_ | refine fst_raw hB ?_ | refine optl_raw hB ?_ | refine tok_step hB rfl ?_) <;> conv => lhs; whnf)
      · have hp : placeI (y :: l.drop (i0 + 1)) z (i0 : Int) = (i0 : Int) := by simp [placeI, hy]
        rw [hp] at k2
        rw [clampTok_pur ht]
        exact k2 _
      · have hp : placeI (y :: l.drop (i0 + 1)) z (i0 : Int) = placeI (l.drop (i0 + 1)) z ((i0 + 1 : Nat) : Int) := by simp [placeI, hy]
        rw [hp] at k1 k2
        rw [clampTok_pur ht]
        exact ih (i0 + 1) t ht (by omega) (by omega) k1 k2
    · repeat' ((first | refine purs_step hB rfl ?_ | refine lt_tt hB (by decide) ?_ | refine lt_ff hB (by decide) ?_ | refine le_tt hB (by decide) ?_ | refine le_ff hB (by decide) ?_ | refine eq_tt hB (by decide) ?_ | refine eq_ff hB (by decide) ?_ | refine fint_wrp hB (by omega) (by omega) ?_ | refine fint_step hB ?_ | refine fbool_tt hB ?_ | refine fbool_ff hB ?_ | refine fbool_split hB (fun _ => ?_) (fun _ => ?_) | refine ftok_step hB ?_ | refine frows_step hB ?_ | refine fstr_step hB ?_ | refine len_map hB ?_ | refine len_step hB ?_ | refine lens_step hB ?_ | refine byte_step hB ?_ | refine drop_step hB rfl ?_ | refine fl_step hB rfl ?_ | refine add_one hB (by first | omega | decide) ?_ | refine opt_step hB rfl ?_ | refine fnat_step hB ?_ | refine ifk_step hB rfl ?_ | refine ifk_step hB (flat_or rfl) ?_ | refine opt2_step hB rfl ?_ | refine obj_raw hB ?_ | refine sob_raw hB ?_ | refine fst_raw hB ?_ | refine optl_raw hB ?_ | refine tok_step hB rfl ?_) <;> conv => lhs; whnf)
      have hi : i0 = l.length := by omega
      subst hi
      rw [clampTok_pur ht]
      exact k1 (by simp [placeI]) _
theorem Place_ev {n : Nat} (hn : 1000000000000002 ≤ n) (l : List Int) (hl : l.length ≤ 1000000000000000) {t : Tok} (ht : purTok t = true) (z : Int) : (evKR Bk Gx fsT n).1 0 39 [.sl (rowsI l) t, .int .i64 z] [] ansK = some (.int .i64 (placeI l z 0), []) := by
  refine call_open (show fsT.find 39 = some a39 from rfl) (by omega) fun n' B cl rd hn' hB hcl hrd => ?_
  conv => lhs; whnf
  repeat' ((first | refine fnat_pred hB ?_ | refine a39_L1_step hB l hl z _ _ _ _ _ 0 _ (purTok_clamp ht) (by omega) (by omega) (fun hp e => ?_) (fun e => ?_) | refine purs_step hB rfl ?_ | refine lt_tt hB (by decide) ?_ | refine lt_ff hB (by decide) ?_ | refine le_tt hB (by decide) ?_ | refine le_ff hB (by decide) ?_ | refine eq_tt hB (by decide) ?_ | refine eq_ff hB (by decide) ?_ | refine fint_wrp hB (by omega) (by omega) ?_ | refine fint_step hB ?_ | refine fbool_tt hB ?_ | refine fbool_ff hB ?_ | refine fbool_split hB (fun _ => ?_) (fun _ => ?_) | refine ftok_step hB ?_ | refine frows_step hB ?_ | refine fstr_step hB ?_ | refine len_map hB ?_ | refine len_step hB ?_ | refine lens_step hB ?_ | refine byte_step hB ?_ | refine drop_step hB rfl ?_ | refine fl_step hB rfl ?_ | refine add_one hB (by first | omega | decide) ?_ | refine opt_step hB rfl ?_ | refine fnat_step hB ?_ | refine ifk_step hB rfl ?_ | refine ifk_step hB (flat_or rfl) ?_ | refine opt2_step hB rfl ?_ | refine obj_raw hB ?_ | refine sob_raw hB ?_ | refine fst_raw hB ?_ | refine optl_raw hB ?_ | refine tok_step hB rfl ?_) <;> conv => lhs; whnf)
  · have hp : placeI l z 0 = -1 := hp
    rw [hp]
  · rfl
theorem place_lt {l : List Int} {z : Int} : ∀ {i : Int}, 0 ≤ i → (placeI l z i < 0 ↔ z ∉ l) := by
  induction l with
  | nil => intro i hi; simp [placeI]
  | cons k l ih =>
    intro i hi
    unfold placeI
    by_cases h : k = z
    · simp [h]; omega
    · rw [if_neg h, ih (by omega)]
      simp [Ne.symm h]
end Go.Ab.Cl
