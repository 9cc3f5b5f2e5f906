/-
  The claims: ClaimFalse: its loops.
-/
import Derived.Test.YthbekoofiienjaaDoorClKi
import Derived.Test.YthbekoofiienjaaDoorClKd
import Derived.Test.YthbekoofiienjaaDoorClTa
namespace Go.Ab.Cl
open Go.Ab

theorem a10_L1_step {B : Bnd} (hB : B = Bk) {cl : CallK} {rd : RoundK} (d : Desk) (hd : d.ok) (hnb : d.bs.length ≤ 6) (t : Nat) {zs : Int} (e5 e6 : AV) (he5 : ∃ l t, purTok t = true ∧ e5 = .sl (rowsI l) t) (he6 : ∃ z, e6 = .int .i64 z)
    (H42 : cl 0 42 [.int .i64 zs, .int .i64 64] [] ansK = some (.int .i64 (t : Int), []))
    (H40 : ∀ k : Nat, k < 9 → cl 0 40 [.int .i64 (t : Int), .int .i64 (k : Int)] [] ansK = some (.bool (t.testBit k), [])) (n : Nat) (k : Ex → Env → St → Ans) (r : Ans) :
    ∀ (j i0 : Nat) (acc : List Nat), d.bs.length < i0 + j → i0 ≤ d.bs.length → acc.length ≤ i0 →
    (∀ x, k (.exit 0) [(1, .int .i64 zs), (2, .ptr 0 0 0), (5, e5), (6, e6), (15, .sl (rowsI (nats (acc ++ sel d (fun i => t.testBit i && stampB d i) i0))) (tk 0 173 (nats (acc ++ sel d (fun i => t.testBit i && stampB d i) i0)))), (16, .int .i64 x)] [⟨[.cells d.c], tks 173 (nats (acc ++ sel d (fun i => t.testBit i && stampB d i) i0))⟩] = r) →
    B.loop (evCK B a10_L1) [1, 2, 5, 6, 15, 16] n j cl rd Gx 0 1 [(1, .int .i64 zs), (2, .ptr 0 0 0), (5, e5), (6, e6), (15, .sl (rowsI (nats acc)) (tk 0 173 (nats acc))), (16, .int .i64 (.ofNat i0))] [⟨[.cells d.c], tks 173 (nats acc)⟩] k = r := by
  obtain ⟨w, t5, ht5, rfl⟩ := he5
  obtain ⟨z6, rfl⟩ := he6
  intro j
  induction j with
  | zero => intro i0 acc h1 h2; omega
  | succ j ih =>
    intro i0 acc h1 h2 h3 k1
    refine loop_succ hB ?_
    conv => lhs; whnf
    repeat' ((first | refine fnat_pred hB ?_ | refine tok_step hB hd.tb ?_ | refine len_map hB ?_ | refine lt_nat hB (fun h => ?_) (fun h => ?_) | refine purs_step hB rfl ?_ | refine lt_tt hB (by decide) ?_ | refine lt_ff hB (by decide) ?_ | refine le_tt hB (by decide) ?_ | refine le_ff hB (by decide) ?_ | refine eq_tt hB (by decide) ?_ | refine eq_ff hB (by decide) ?_ | refine fint_wrp hB (by omega) (by omega) ?_ | refine fint_step hB ?_ | refine fbool_tt hB ?_ | refine fbool_ff hB ?_ | refine fbool_split hB (fun _ => ?_) (fun _ => ?_) | refine ftok_step hB ?_ | refine frows_step hB ?_ | refine fstr_step hB ?_ | refine len_map hB ?_ | refine len_step hB ?_ | refine lens_step hB ?_ | refine byte_step hB ?_ | refine drop_step hB rfl ?_ | refine fl_step hB rfl ?_ | refine add_one hB (by first | omega | decide) ?_ | refine opt_step hB rfl ?_ | refine fnat_step hB ?_ | refine ifk_step hB rfl ?_ | refine ifk_step hB (flat_or rfl) ?_ | refine opt2_step hB rfl ?_ | refine obj_raw hB ?_ | refine sob_raw hB ?_ | refine fst_raw hB ?_ | refine optl_raw hB ?_ | refine tok_step hB rfl ?_) <;> conv => lhs; whnf)
    · have HI := H40 i0 (by omega)
      obtain ⟨b, hb⟩ : ∃ b, d.bs[i0]? = some b := ⟨d.bs[i0], by simp [h]⟩
      have hxb : (d.bs.map Box.c)[i0]? = some b.c := by simp [hb]
      have hst : stampB d i0 = b.stamp := by unfold stampB; rw [hb]
      have hna : (nats acc).length ≤ 1000 := by simp [nats]; omega
      have hap : nats acc ++ [(i0 : Int)] = nats (acc ++ [i0]) := by simp [nats]
      cases ht : t.testBit i0
      · rw [ht] at HI
        rw [sel_no h (by simp [ht])] at k1
        repeat' ((first | refine fnat_pred hB ?_ | refine tok_step hB hd.tp ?_ | refine tok_step hB hd.tb ?_ | refine tok_step hB ht5 ?_ | refine pans_step hB H42 ?_ | refine pans_step hB HI ?_ | refine purs_step hB rfl ?_ | refine lt_tt hB (by decide) ?_ | refine lt_ff hB (by decide) ?_ | refine le_tt hB (by decide) ?_ | refine le_ff hB (by decide) ?_ | refine eq_tt hB (by decide) ?_ | refine eq_ff hB (by decide) ?_ | refine fint_wrp hB (by omega) (by omega) ?_ | refine fint_step hB ?_ | refine fbool_tt hB ?_ | refine fbool_ff hB ?_ | refine fbool_split hB (fun _ => ?_) (fun _ => ?_) | refine ftok_step hB ?_ | refine frows_step hB ?_ | refine fstr_step hB ?_ | refine len_map hB ?_ | refine len_step hB ?_ | refine lens_step hB ?_ | refine byte_step hB ?_ | refine drop_step hB rfl ?_ | refine fl_step hB rfl ?_ | refine add_one hB (by first | omega | decide) ?_ | refine opt_step hB rfl ?_ | refine fnat_step hB ?_ | refine ifk_step hB rfl ?_ | refine ifk_step hB (flat_or rfl) ?_ | refine opt2_step hB rfl ?_ | refine obj_raw hB ?_ | refine sob_raw hB ?_ | refine fst_raw hB ?_ | refine optl_raw hB ?_ | refine tok_step hB rfl ?_) <;> conv => lhs; whnf)
        rw [clamp_tk (by omega), clampTok_pur ht5]
        exact ih (i0 + 1) acc (by omega) (by omega) (by omega) k1
      · rw [ht] at HI
        rcases b with ⟨b1, b2, b3, b4, b5⟩
        cases b5
        · rw [sel_no h (by simp [ht, hst])] at k1
          repeat' ((first | refine fnat_pred hB ?_ | refine tok_step hB hd.tp ?_ | refine tok_step hB hd.tb ?_ | refine tok_step hB ht5 ?_ | refine pans_step hB H42 ?_ | refine pans_step hB HI ?_ | refine natOf_step hB (m := i0) rfl ?_ | refine nth_step hB hxb ?_ | refine purs_step hB rfl ?_ | refine lt_tt hB (by decide) ?_ | refine lt_ff hB (by decide) ?_ | refine le_tt hB (by decide) ?_ | refine le_ff hB (by decide) ?_ | refine eq_tt hB (by decide) ?_ | refine eq_ff hB (by decide) ?_ | refine fint_wrp hB (by omega) (by omega) ?_ | refine fint_step hB ?_ | refine fbool_tt hB ?_ | refine fbool_ff hB ?_ | refine fbool_split hB (fun _ => ?_) (fun _ => ?_) | refine ftok_step hB ?_ | refine frows_step hB ?_ | refine fstr_step hB ?_ | refine len_map hB ?_ | refine len_step hB ?_ | refine lens_step hB ?_ | refine byte_step hB ?_ | refine drop_step hB rfl ?_ | refine fl_step hB rfl ?_ | refine add_one hB (by first | omega | decide) ?_ | refine opt_step hB rfl ?_ | refine fnat_step hB ?_ | refine ifk_step hB rfl ?_ | refine ifk_step hB (flat_or rfl) ?_ | refine opt2_step hB rfl ?_ | refine obj_raw hB ?_ | refine sob_raw hB ?_ | refine fst_raw hB ?_ | refine optl_raw hB ?_ | refine tok_step hB rfl ?_) <;> conv => lhs; whnf)
          rw [clamp_tk (by omega), clampTok_pur ht5]
          exact ih (i0 + 1) acc (by omega) (by omega) (by omega) k1
        · rw [sel_yes h (by simp [ht, hst])] at k1
          repeat' ((first | refine fnat_pred hB ?_ | refine tok_step hB hd.tp ?_ | refine tok_step hB hd.tb ?_ | refine tok_step hB ht5 ?_ | refine pans_step hB H42 ?_ | refine pans_step hB HI ?_ | refine natOf_step hB (m := i0) rfl ?_ | refine nth_step hB hxb ?_ | refine opt2_step hB (app_tk (nats acc) (i0 : Int) hna _) ?_ | refine purs_step hB rfl ?_ | refine lt_tt hB (by decide) ?_ | refine lt_ff hB (by decide) ?_ | refine le_tt hB (by decide) ?_ | refine le_ff hB (by decide) ?_ | refine eq_tt hB (by decide) ?_ | refine eq_ff hB (by decide) ?_ | refine fint_wrp hB (by omega) (by omega) ?_ | refine fint_step hB ?_ | refine fbool_tt hB ?_ | refine fbool_ff hB ?_ | refine fbool_split hB (fun _ => ?_) (fun _ => ?_) | refine ftok_step hB ?_ | refine frows_step hB ?_ | refine fstr_step hB ?_ | refine len_map hB ?_ | refine len_step hB ?_ | refine lens_step hB ?_ | refine byte_step hB ?_ | refine drop_step hB rfl ?_ | refine fl_step hB rfl ?_ | refine add_one hB (by first | omega | decide) ?_ | refine opt_step hB rfl ?_ | refine fnat_step hB ?_ | refine ifk_step hB rfl ?_ | refine ifk_step hB (flat_or rfl) ?_ | refine opt2_step hB rfl ?_ | refine obj_raw hB ?_ | refine sob_raw hB ?_ | refine fst_raw hB ?_ | refine optl_raw hB ?_ | refine tok_step hB rfl ?_) <;> conv => lhs; whnf)
          rw [clamp_tk (by omega), clampTok_pur ht5, hap]
          refine ih (i0 + 1) (acc ++ [i0]) (by omega) (by omega) (by simp; omega) ?_
          rw [List.append_assoc]
          exact k1
    · repeat' ((first | refine fnat_pred hB ?_ | refine tok_step hB ht5 ?_ | refine purs_step hB rfl ?_ | refine lt_tt hB (by decide) ?_ | refine lt_ff hB (by decide) ?_ | refine le_tt hB (by decide) ?_ | refine le_ff hB (by decide) ?_ | refine eq_tt hB (by decide) ?_ | refine eq_ff hB (by decide) ?_ | refine fint_wrp hB (by omega) (by omega) ?_ | refine fint_step hB ?_ | refine fbool_tt hB ?_ | refine fbool_ff hB ?_ | refine fbool_split hB (fun _ => ?_) (fun _ => ?_) | refine ftok_step hB ?_ | refine frows_step hB ?_ | refine fstr_step hB ?_ | refine len_map hB ?_ | refine len_step hB ?_ | refine lens_step hB ?_ | refine byte_step hB ?_ | refine drop_step hB rfl ?_ | refine fl_step hB rfl ?_ | refine add_one hB (by first | omega | decide) ?_ | refine opt_step hB rfl ?_ | refine fnat_step hB ?_ | refine ifk_step hB rfl ?_ | refine ifk_step hB (flat_or rfl) ?_ | refine opt2_step hB rfl ?_ | refine obj_raw hB ?_ | refine sob_raw hB ?_ | refine fst_raw hB ?_ | refine optl_raw hB ?_ | refine tok_step hB rfl ?_) <;> conv => lhs; whnf)
      have hi : i0 = d.bs.length := by omega
      subst hi
      rw [sel_end (Nat.le_refl _), List.append_nil] at k1
      rw [clamp_tk (by omega), clampTok_pur ht5]
      exact k1 _
theorem a10_L2_step {B : Bnd} (hB : B = Bk) {cl : CallK} {rd : RoundK} (d : Desk) (hd : d.ok) (w : List Nat) (hw : ∀ x ∈ w, x < d.bs.length ∧ stampB d x = true) (hw6 : w.length ≤ 100) {t5 : Tok} (ht5 : purTok t5 = true) (l : List Int) (z18 : Int) (T : List (Nat × Nat × Nat)) (n : Nat) (k : Ex → Env → St → Ans) (r : Ans) :
    ∀ (j i0 : Nat), w.length < i0 + j → i0 ≤ w.length →
    (∀ x, k (.exit 2) [(2, .ptr 0 0 0), (5, .sl (rowsI (nats w)) t5), (15, .sl (rowsI l) (tk 0 173 l)), (18, .int .i64 z18), (19, .int .i64 x)] [⟨[.cells d.c], T⟩] = r) →
    B.loop (evCK B a10_L2) [2, 4, 5, 15, 18, 19] n j cl rd Gx 0 1 [(2, .ptr 0 0 0), (5, .sl (rowsI (nats w)) t5), (15, .sl (rowsI l) (tk 0 173 l)), (18, .int .i64 z18), (19, .int .i64 (.ofNat i0))] [⟨[.cells d.c], T⟩] k = r := by
  intro j
  induction j with
  | zero => intro i0 h1 h2; omega
  | succ j ih =>
    intro i0 h1 h2 k1
    have hnl : (nats w).length = w.length := by simp [nats]
    refine loop_succ hB ?_
    conv => lhs; whnf
    (repeat' ((first | refine fnat_step hB ?_ | refine obj_raw hB ?_ | refine drop_step hB rfl ?_ | refine len_map hB ?_) <;> conv => lhs; whnf))
    refine lt_nat hB (fun h => ?_) (fun h => ?_) <;> rw [hnl] at h <;> conv => lhs; whnf
    · have hx : (rowsI (nats w))[i0]? = some [.int .i64 ((w[i0] : Nat) : Int)] := by simp [rowsI, nats, h]
      obtain ⟨hlt, hst⟩ := hw w[i0] (List.getElem_mem _)
      generalize w[i0] = y at hx hlt hst
      obtain ⟨b, hb⟩ : ∃ b, d.bs[y]? = some b := ⟨d.bs[y], by simp⟩
      have hxb : (d.bs.map Box.c)[y]? = some b.c := by simp [hb]
      have hbs : b.stamp = true := by rw [← hst]; unfold stampB; rw [hb]
      rcases b with ⟨b1, b2, b3, b4, b5⟩
      have hbs : b5 = true := hbs
      subst hbs
      repeat' ((first | refine fnat_pred hB ?_ | refine tok_step hB hd.tp ?_ | refine tok_step hB hd.tb ?_ | refine tok_step hB ht5 ?_ | refine natOf_step hB (m := i0) rfl ?_ | refine nth_step hB hx ?_ | refine natOf_step hB (m := y) rfl ?_ | refine nth_step hB hxb ?_ | refine purs_step hB rfl ?_ | refine lt_tt hB (by decide) ?_ | refine lt_ff hB (by decide) ?_ | refine le_tt hB (by decide) ?_ | refine le_ff hB (by decide) ?_ | refine eq_tt hB (by decide) ?_ | refine eq_ff hB (by decide) ?_ | refine fint_wrp hB (by omega) (by omega) ?_ | refine fint_step hB ?_ | refine fbool_tt hB ?_ | refine fbool_ff hB ?_ | refine fbool_split hB (fun _ => ?_) (fun _ => ?_) | refine ftok_step hB ?_ | refine frows_step hB ?_ | refine fstr_step hB ?_ | refine len_map hB ?_ | refine len_step hB ?_ | refine lens_step hB ?_ | refine byte_step hB ?_ | refine drop_step hB rfl ?_ | refine fl_step hB rfl ?_ | refine add_one hB (by first | omega | decide) ?_ | refine opt_step hB rfl ?_ | refine fnat_step hB ?_ | refine ifk_step hB rfl ?_ | refine ifk_step hB (flat_or rfl) ?_ | refine opt2_step hB rfl ?_ | refine obj_raw hB ?_ | refine sob_raw hB ?_ | refine fst_raw hB ?_ | refine optl_raw hB ?_ | refine tok_step hB rfl ?_) <;> conv => lhs; whnf)
      rw [clamp_tk (by omega), clampTok_pur ht5]
      exact ih (i0 + 1) (by omega) (by omega) k1
    · repeat' ((first | refine fnat_pred hB ?_ | refine tok_step hB ht5 ?_ | refine purs_step hB rfl ?_ | refine lt_tt hB (by decide) ?_ | refine lt_ff hB (by decide) ?_ | refine le_tt hB (by decide) ?_ | refine le_ff hB (by decide) ?_ | refine eq_tt hB (by decide) ?_ | refine eq_ff hB (by decide) ?_ | refine fint_wrp hB (by omega) (by omega) ?_ | refine fint_step hB ?_ | refine fbool_tt hB ?_ | refine fbool_ff hB ?_ | refine fbool_split hB (fun _ => ?_) (fun _ => ?_) | refine ftok_step hB ?_ | refine frows_step hB ?_ | refine fstr_step hB ?_ | refine len_map hB ?_ | refine len_step hB ?_ | refine lens_step hB ?_ | refine byte_step hB ?_ | refine drop_step hB rfl ?_ | refine fl_step hB rfl ?_ | refine add_one hB (by first | omega | decide) ?_ | refine opt_step hB rfl ?_ | refine fnat_step hB ?_ | refine ifk_step hB rfl ?_ | refine ifk_step hB (flat_or rfl) ?_ | refine opt2_step hB rfl ?_ | refine obj_raw hB ?_ | refine sob_raw hB ?_ | refine fst_raw hB ?_ | refine optl_raw hB ?_ | refine tok_step hB rfl ?_) <;> conv => lhs; whnf)
      rw [clamp_tk (by omega), clampTok_pur ht5]
      exact k1 _
end Go.Ab.Cl

namespace Go.Ab.Cl
open Go.Ab

/-! ### can, of a whole desk -/
theorem canAll_ev {n : Nat} (hn : 1000000000000200 ≤ n) (d : Desk) (hd : d.ok) (hc : d.check = true) : (evKR Bk Gx fsT n).1 0 77 [d.v, .int .i64 0, .int .i64 0, .int .i64 0] [] ansK = some (.bool (trueB d), []) := by
  have hnb := (check_fine hc).nb
  have HK := canF_ev hd hc d.bs.length (n := n) (Nat.le_refl _) (by omega) 0 (by omega) 0 (by omega) (by omega) (zi := 0) (zt := 0) (by simp) rfl
  rw [refCan_true hc] at HK
  exact HK

set_option maxHeartbeats 20000000 in
theorem FewestF_ev {n : Nat} (hn : 1000000000000500 ≤ n) (d : Desk) (hd : d.ok) : (evKR Bk Gx fsT n).1 0 32 [d.v] [] ansK = some (.tup [.int .i64 (fewR d).1, .int .i64 (fewR d).2], []) := by
  refine call_open (show fsT.find 32 = some a32 from rfl) (by omega) fun n' B cl rd hn' hB hcl hrd => ?_
  have HC := CheckR_ev (n := n') d hd (by omega)
  rw [← hcl] at HC
  cases hc : d.check
  · rw [hc] at HC
    rw [show fewR d = (0, 90) by simp [fewR, hc]]
    conv => lhs; whnf
    repeat' ((first | refine fnat_pred hB ?_ | refine tok_step hB hd.tp ?_ | refine tok_step hB hd.tb ?_ | refine purs_step hB (by simp [purs, pur, hd.tp, hd.tb]) ?_ | refine pans_step hB HC ?_ | refine purs_step hB rfl ?_ | refine lt_tt hB (by decide) ?_ | refine lt_ff hB (by decide) ?_ | refine le_tt hB (by decide) ?_ | refine le_ff hB (by decide) ?_ | refine eq_tt hB (by decide) ?_ | refine eq_ff hB (by decide) ?_ | refine fint_wrp hB (by omega) (by omega) ?_ | refine fint_step hB ?_ | refine fbool_tt hB ?_ | refine fbool_ff hB ?_ | refine fbool_split hB (fun _ => ?_) (fun _ => ?_) | refine ftok_step hB ?_ | refine frows_step hB ?_ | refine fstr_step hB ?_ | refine len_map hB ?_ | refine len_step hB ?_ | refine lens_step hB ?_ | refine byte_step hB ?_ | refine drop_step hB rfl ?_ | refine fl_step hB rfl ?_ | refine add_one hB (by first | omega | decide) ?_ | refine opt_step hB rfl ?_ | refine fnat_step hB ?_ | refine ifk_step hB rfl ?_ | refine ifk_step hB (flat_or rfl) ?_ | refine opt2_step hB rfl ?_ | refine obj_raw hB ?_ | refine sob_raw hB ?_ | refine fst_raw hB ?_ | refine optl_raw hB ?_ | refine tok_step hB rfl ?_) <;> conv => lhs; whnf)
    all_goals rfl
  · rw [hc] at HC
    have H77 := fun (s : Int) h0 h6 => canAll_ev (n := n') (by omega) (dS d s) (dS_ok hd s) (dS_check hc (s := s) h0 h6)
    rw [← hcl] at H77
    conv => lhs; whnf
    repeat' ((first | refine fnat_pred hB ?_ | refine tok_step hB hd.tp ?_ | refine tok_step hB hd.tb ?_ | refine purs_step hB (by simp [purs, pur, hd.tp, hd.tb]) ?_ | refine pans_step hB HC ?_ | refine loop_step hB (by omega) ?_ | refine pans_bool hB (H77 0 (by decide) (by decide)) (fun h0 => ?_) (fun h0 => ?_) | refine pans_bool hB (H77 1 (by decide) (by decide)) (fun h1 => ?_) (fun h1 => ?_) | refine pans_bool hB (H77 2 (by decide) (by decide)) (fun h2 => ?_) (fun h2 => ?_) | refine pans_bool hB (H77 3 (by decide) (by decide)) (fun h3 => ?_) (fun h3 => ?_) | refine pans_bool hB (H77 4 (by decide) (by decide)) (fun h4 => ?_) (fun h4 => ?_) | refine pans_bool hB (H77 5 (by decide) (by decide)) (fun h5 => ?_) (fun h5 => ?_) | refine pans_bool hB (H77 6 (by decide) (by decide)) (fun h6 => ?_) (fun h6 => ?_) | refine add_step hB (by decide) (by decide) ?_ | refine purs_step hB rfl ?_ | refine lt_tt hB (by decide) ?_ | refine lt_ff hB (by decide) ?_ | refine le_tt hB (by decide) ?_ | refine le_ff hB (by decide) ?_ | refine eq_tt hB (by decide) ?_ | refine eq_ff hB (by decide) ?_ | refine fint_wrp hB (by omega) (by omega) ?_ | refine fint_step hB ?_ | refine fbool_tt hB ?_ | refine fbool_ff hB ?_ | refine fbool_split hB (fun _ => ?_) (fun _ => ?_) | refine ftok_step hB ?_ | refine frows_step hB ?_ | refine fstr_step hB ?_ | refine len_map hB ?_ | refine len_step hB ?_ | refine lens_step hB ?_ | refine byte_step hB ?_ | refine drop_step hB rfl ?_ | refine fl_step hB rfl ?_ | refine add_one hB (by first | omega | decide) ?_ | refine opt_step hB rfl ?_ | refine fnat_step hB ?_ | refine ifk_step hB rfl ?_ | refine ifk_step hB (flat_or rfl) ?_ | refine opt2_step hB rfl ?_ | refine obj_raw hB ?_ | refine sob_raw hB ?_ | refine fst_raw hB ?_ | refine optl_raw hB ?_ | refine tok_step hB rfl ?_) <;> conv => lhs; whnf)
    all_goals simp [fewR, List.range, List.range.loop, *]

/-! ### Ahead -/
def aheadZ : List Int → List Int → Bool
  | [], [] => false
  | [], _ :: _ => true
  | _ :: _, [] => false
  | x :: a, y :: b => if x = y then aheadZ a b else decide (x < y)
theorem ahead_nats : ∀ a b : List Nat, aheadZ (nats a) (nats b) = aheadN a b
  | [], [] => rfl
  | [], _ :: _ => rfl
  | _ :: _, [] => rfl
  | x :: a, y :: b => by
    show (if (x : Int) = (y : Int) then aheadZ (nats a) (nats b) else decide ((x : Int) < (y : Int))) = if x = y then aheadN a b else decide (x < y)
    rw [ahead_nats a b]
    by_cases h : x = y
    · rw [if_pos h, if_pos (by omega)]
    · rw [if_neg h, if_neg (by omega), decide_eq_decide]; omega
theorem a48_L1_step {B : Bnd} (hB : B = Bk) {cl : CallK} {rd : RoundK} (a b : List Int) (ha : a.length ≤ 1000000000000000) (hb : b.length ≤ 1000000000000000) {t t' : Tok} (ht : purTok t = true) (ht' : purTok t' = true) (n : Nat) (k : Ex → Env → St → Ans) (r : Ans) :
    ∀ (j i : Nat), a.length < i + j → i ≤ a.length → i ≤ b.length → aheadZ a b = aheadZ (a.drop i) (b.drop i) →
    (∀ x, aheadZ a b = decide (a.length < b.length) → k (.exit 0) [(0, .sl (rowsI a) t), (1, .sl (rowsI b) t'), (4, .bool false), (5, .int .i64 x)] [⟨[], []⟩] = r) →
    (∀ x y z e, k .ret ((0, x) :: (1, y) :: (4, .bool (aheadZ a b)) :: (5, z) :: e) [⟨[], []⟩] = r) →
    B.loop (evCK B a48_L1) [0, 1, 4, 5] n j cl rd Gx 0 1 [(0, .sl (rowsI a) t), (1, .sl (rowsI b) t'), (4, .bool false), (5, .int .i64 (.ofNat i))] [⟨[], []⟩] k = r := by
  intro j
  induction j with
  | zero => intro i h1 h2; omega
  | succ j ih =>
    intro i h1 h2 h3 he k1 k2
    refine loop_succ hB ?_
    conv => lhs; whnf
    (repeat' ((first | refine fnat_step hB ?_ | refine obj_raw hB ?_ | refine drop_step hB rfl ?_ | refine len_map hB ?_) <;> conv => lhs; whnf))
    refine lt_nat hB (fun h => ?_) (fun h => ?_) <;> conv => lhs; whnf
    · (repeat' ((first | refine fnat_step hB ?_ | refine obj_raw hB ?_ | refine drop_step hB rfl ?_ | refine len_map hB ?_) <;> conv => lhs; whnf))
      refine lt_nat hB (fun h' => ?_) (fun h' => ?_) <;> conv => lhs; whnf
      · have hx := row_get h
        have hy := row_get (l := b) (i := i) h'
        have hda : a.drop i = a[i] :: a.drop (i + 1) := List.drop_eq_getElem_cons h
        have hdb : b.drop i = b[i] :: b.drop (i + 1) := List.drop_eq_getElem_cons h'
        rw [hda, hdb] at he
        generalize a[i] = u at hx he
        generalize b[i] = w at hy he
        have he2 : aheadZ a b = if u = w then aheadZ (a.drop (i + 1)) (b.drop (i + 1)) else decide (u < w) := he
        by_cases huw : u = w
        · rw [if_pos huw] at he2
          subst huw
          repeat' ((first | refine fnat_pred hB ?_ | refine tok_step hB ht ?_ | refine tok_step hB ht' ?_ | refine natOf_step hB (m := i) rfl ?_ | refine nth_step hB hx ?_ | refine nth_step hB hy ?_ | refine eq_tt hB rfl ?_ | refine purs_step hB rfl ?_ | refine lt_tt hB (by decide) ?_ | refine lt_ff hB (by decide) ?_ | refine le_tt hB (by decide) ?_ | refine le_ff hB (by decide) ?_ | refine eq_tt hB (by decide) ?_ | refine eq_ff hB (by decide) ?_ | refine fint_wrp hB (by omega) (by omega) ?_ | refine fint_step hB ?_ | refine fbool_tt hB ?_ | refine fbool_ff hB ?_ | refine fbool_split hB (fun _ => ?_) (fun _ => ?_) | refine ftok_step hB ?_ | refine frows_step hB ?_ | refine fstr_step hB ?_ | refine len_map hB ?_ | refine len_step hB ?_ | refine lens_step hB ?_ | refine byte_step hB ?_ | refine drop_step hB rfl ?_ | refine fl_step hB rfl ?_ | refine add_one hB (by first | omega | decide) ?_ | refine opt_step hB rfl ?_ | refine fnat_step hB ?_ | refine ifk_step hB rfl ?_ | refine ifk_step hB (flat_or rfl) ?_ | refine opt2_step hB rfl ?_ | refine obj_raw hB ?_ | refine sob_raw hB ?_ | refine fst_raw hB ?_ | refine optl_raw hB ?_ | refine tok_step hB rfl ?_) <;> conv => lhs; whnf)
          rw [clampTok_pur ht, clampTok_pur ht']
          exact ih (i + 1) (by omega) (by omega) (by omega) he2 k1 k2
        · rw [if_neg huw] at he2
          by_cases hlt : u < w
          · rw [decide_eq_true hlt] at he2
            rw [he2] at k2
            repeat' ((first | refine fnat_pred hB ?_ | refine tok_step hB ht ?_ | refine tok_step hB ht' ?_ | refine natOf_step hB (m := i) rfl ?_ | refine nth_step hB hx ?_ | refine nth_step hB hy ?_ | refine eq_ff hB huw ?_ | refine lt_tt hB hlt ?_ | refine purs_step hB rfl ?_ | refine lt_tt hB (by decide) ?_ | refine lt_ff hB (by decide) ?_ | refine le_tt hB (by decide) ?_ | refine le_ff hB (by decide) ?_ | refine eq_tt hB (by decide) ?_ | refine eq_ff hB (by decide) ?_ | refine fint_wrp hB (by omega) (by omega) ?_ | refine fint_step hB ?_ | refine fbool_tt hB ?_ | refine fbool_ff hB ?_ | refine fbool_split hB (fun _ => ?_) (fun _ => ?_) | refine ftok_step hB ?_ | refine frows_step hB ?_ | refine fstr_step hB ?_ | refine len_map hB ?_ | refine len_step hB ?_ | refine lens_step hB ?_ | refine byte_step hB ?_ | refine drop_step hB rfl ?_ | refine fl_step hB rfl ?_ | refine add_one hB (by first | omega | decide) ?_ | refine opt_step hB rfl ?_ | refine fnat_step hB ?_ | refine ifk_step hB rfl ?_ | refine ifk_step hB (flat_or rfl) ?_ | refine opt2_step hB rfl ?_ | refine obj_raw hB ?_ | refine sob_raw hB ?_ | refine fst_raw hB ?_ | refine optl_raw hB ?_ | refine tok_step hB rfl ?_) <;> conv => lhs; whnf)
            exact k2 _ _ _ _
          · rw [decide_eq_false hlt] at he2
            rw [he2] at k2
            repeat' ((first | refine fnat_pred hB ?_ | refine tok_step hB ht ?_ | refine tok_step hB ht' ?_ | refine natOf_step hB (m := i) rfl ?_ | refine nth_step hB hx ?_ | refine nth_step hB hy ?_ | refine eq_ff hB huw ?_ | refine lt_ff hB hlt ?_ | refine purs_step hB rfl ?_ | refine lt_tt hB (by decide) ?_ | refine lt_ff hB (by decide) ?_ | refine le_tt hB (by decide) ?_ | refine le_ff hB (by decide) ?_ | refine eq_tt hB (by decide) ?_ | refine eq_ff hB (by decide) ?_ | refine fint_wrp hB (by omega) (by omega) ?_ | refine fint_step hB ?_ | refine fbool_tt hB ?_ | refine fbool_ff hB ?_ | refine fbool_split hB (fun _ => ?_) (fun _ => ?_) | refine ftok_step hB ?_ | refine frows_step hB ?_ | refine fstr_step hB ?_ | refine len_map hB ?_ | refine len_step hB ?_ | refine lens_step hB ?_ | refine byte_step hB ?_ | refine drop_step hB rfl ?_ | refine fl_step hB rfl ?_ | refine add_one hB (by first | omega | decide) ?_ | refine opt_step hB rfl ?_ | refine fnat_step hB ?_ | refine ifk_step hB rfl ?_ | refine ifk_step hB (flat_or rfl) ?_ | refine opt2_step hB rfl ?_ | refine obj_raw hB ?_ | refine sob_raw hB ?_ | refine fst_raw hB ?_ | refine optl_raw hB ?_ | refine tok_step hB rfl ?_) <;> conv => lhs; whnf)
            exact k2 _ _ _ _
      · repeat' ((first | refine fnat_pred hB ?_ | refine tok_step hB ht ?_ | refine tok_step hB ht' ?_ | refine purs_step hB rfl ?_ | refine lt_tt hB (by decide) ?_ | refine lt_ff hB (by decide) ?_ | refine le_tt hB (by decide) ?_ | refine le_ff hB (by decide) ?_ | refine eq_tt hB (by decide) ?_ | refine eq_ff hB (by decide) ?_ | refine fint_wrp hB (by omega) (by omega) ?_ | refine fint_step hB ?_ | refine fbool_tt hB ?_ | refine fbool_ff hB ?_ | refine fbool_split hB (fun _ => ?_) (fun _ => ?_) | refine ftok_step hB ?_ | refine frows_step hB ?_ | refine fstr_step hB ?_ | refine len_map hB ?_ | refine len_step hB ?_ | refine lens_step hB ?_ | refine byte_step hB ?_ | refine drop_step hB rfl ?_ | refine fl_step hB rfl ?_ | refine add_one hB (by first | omega | decide) ?_ | refine opt_step hB rfl ?_ | refine fnat_step hB ?_ | refine ifk_step hB rfl ?_ | refine ifk_step hB (flat_or rfl) ?_ | refine opt2_step hB rfl ?_ | refine obj_raw hB ?_ | refine sob_raw hB ?_ | refine fst_raw hB ?_ | refine optl_raw hB ?_ | refine tok_step hB rfl ?_) <;> conv => lhs; whnf)
        rw [clampTok_pur ht, clampTok_pur ht']
        refine k1 _ ?_
        rw [he, List.drop_eq_getElem_cons h, List.drop_of_length_le (l := b) (by omega), decide_eq_false (by omega)]
        rfl
    · repeat' ((first | refine fnat_pred hB ?_ | refine tok_step hB ht ?_ | refine tok_step hB ht' ?_ | refine purs_step hB rfl ?_ | refine lt_tt hB (by decide) ?_ | refine lt_ff hB (by decide) ?_ | refine le_tt hB (by decide) ?_ | refine le_ff hB (by decide) ?_ | refine eq_tt hB (by decide) ?_ | refine eq_ff hB (by decide) ?_ | refine fint_wrp hB (by omega) (by omega) ?_ | refine fint_step hB ?_ | refine fbool_tt hB ?_ | refine fbool_ff hB ?_ | refine fbool_split hB (fun _ => ?_) (fun _ => ?_) | refine ftok_step hB ?_ | refine frows_step hB ?_ | refine fstr_step hB ?_ | refine len_map hB ?_ | refine len_step hB ?_ | refine lens_step hB ?_ | refine byte_step hB ?_ | refine drop_step hB rfl ?_ | refine fl_step hB rfl ?_ | refine add_one hB (by first | omega | decide) ?_ | refine opt_step hB rfl ?_ | refine fnat_step hB ?_ | refine ifk_step hB rfl ?_ | refine ifk_step hB (flat_or rfl) ?_ | refine opt2_step hB rfl ?_ | refine obj_raw hB ?_ | refine sob_raw hB ?_ | refine fst_raw hB ?_ | refine optl_raw hB ?_ | refine tok_step hB rfl ?_) <;> conv => lhs; whnf)
      rw [clampTok_pur ht, clampTok_pur ht']
      refine k1 _ ?_
      rw [he, List.drop_of_length_le (l := a) (by omega)]
      by_cases h' : i < b.length
      · rw [List.drop_eq_getElem_cons h', decide_eq_true (by omega)]
        rfl
      · rw [List.drop_of_length_le (l := b) (by omega), decide_eq_false (by omega)]
        rfl
theorem Ahead_ev {n : Nat} (hn : 1000000000000002 ≤ n) (a b : List Int) (ha : a.length ≤ 1000000000000000) (hb : b.length ≤ 1000000000000000) {t t' : Tok} (ht : purTok t = true) (ht' : purTok t' = true) :
    (evKR Bk Gx fsT n).1 0 48 [.sl (rowsI a) t, .sl (rowsI b) t'] [] ansK = some (.bool (aheadZ a b), []) := by
  refine call_open (show fsT.find 48 = some a48 from rfl) (by omega) fun n' B cl rd hn' hB hcl hrd => ?_
  conv => lhs; whnf
  repeat' ((first | refine fnat_pred hB ?_ | refine tok_step hB ht ?_ | refine tok_step hB ht' ?_ | refine len_map hB ?_ | refine a48_L1_step hB a b ha hb (purTok_clamp ht) (purTok_clamp ht') _ _ _ _ 0 (by omega) (by omega) (by omega) rfl (fun x e => ?_) (fun x y z e => ?_) | refine lt_nat hB (fun h => ?_) (fun h => ?_) | refine purs_step hB rfl ?_ | refine lt_tt hB (by decide) ?_ | refine lt_ff hB (by decide) ?_ | refine le_tt hB (by decide) ?_ | refine le_ff hB (by decide) ?_ | refine eq_tt hB (by decide) ?_ | refine eq_ff hB (by decide) ?_ | refine fint_wrp hB (by omega) (by omega) ?_ | refine fint_step hB ?_ | refine fbool_tt hB ?_ | refine fbool_ff hB ?_ | refine fbool_split hB (fun _ => ?_) (fun _ => ?_) | refine ftok_step hB ?_ | refine frows_step hB ?_ | refine fstr_step hB ?_ | refine len_map hB ?_ | refine len_step hB ?_ | refine lens_step hB ?_ | refine byte_step hB ?_ | refine drop_step hB rfl ?_ | refine fl_step hB rfl ?_ | refine add_one hB (by first | omega | decide) ?_ | refine opt_step hB rfl ?_ | refine fnat_step hB ?_ | refine ifk_step hB rfl ?_ | refine ifk_step hB (flat_or rfl) ?_ | refine opt2_step hB rfl ?_ | refine obj_raw hB ?_ | refine sob_raw hB ?_ | refine fst_raw hB ?_ | refine optl_raw hB ?_ | refine tok_step hB rfl ?_) <;> conv => lhs; whnf)
  · rw [e, decide_eq_true h]
  · rw [e, decide_eq_false h]

/-! ### a desk without stamps -/
def tokB (l : List Box) : Tok := if l.isEmpty = true then .nil else .site 0 34 1
def tksB (l : List Box) : List (Nat × Nat × Nat) := if l.isEmpty = true then [] else [(34, 1, l.length)]
theorem clamp_tokB {lv : Nat} (l : List Box) : clampTok lv (tokB l) = tokB l := by
  unfold tokB; split
  · rfl
  · simp [clampTok]
theorem app_tokB {os : List AObj} {f : Fr} (acc : List Box) (b : Box) (hl : acc.length ≤ 1000) :
    appAt 0 [f, ⟨os, tksB acc⟩] 34 5 48 (.sl (acc.map Box.c) (tokB acc)) (.sl [b.c] .full) = some (.sl ((acc ++ [b]).map Box.c) (tokB (acc ++ [b])), [f, ⟨os, tksB (acc ++ [b])⟩]) := by
  cases acc with
  | nil => simp [appAt, rowsAt, tokB, tksB, headFit, purs, pur, getTok, setTok, modFr, getFr, tokGet, tokSet, Box.c]
  | cons a acc =>
    have h1 : ((acc.length + 1 + 1) * 48 ≤ 140737488355328) := by simp at hl; omega
    simp [appAt, rowsAt, tokB, tksB, headFit, purs, pur, getTok, setTok, modFr, getFr, tokGet, tokSet, h1, Box.c]
def unsFrom (bs : List Box) (f : Nat → Bool) (i : Nat) : List Box := (unsB bs f).drop i
theorem a79_L1_step {B : Bnd} (hB : B = Bk) {cl : CallK} {rd : RoundK} (d : Desk) (hd : d.ok) (hnb : d.bs.length ≤ 6) (t : Nat) {zt : Int} {t5 : Tok} (ht5 : purTok t5 = true)
    (H40 : ∀ k : Nat, k < 9 → cl 0 40 [.int .i64 zt, .int .i64 (k : Int)] [] ansK = some (.bool (t.testBit k), [])) (z6 : AObj) (n : Nat) (k : Ex → Env → St → Ans) (r : Ans) :
    ∀ (j i0 : Nat) (acc : List Box), d.bs.length < i0 + j → i0 ≤ d.bs.length → acc.length = i0 →
    (∀ x, k (.exit 0) [(1, .int .i64 zt), (2, .ptr 0 0 0), (4, .ptr 0 1 0), (5, .sl (d.bs.map Box.c) t5), (6, .int .i64 x)] [⟨[.cells (dcB d (.sl ((acc ++ unsFrom d.bs (fun i => t.testBit i) i0).map Box.c) (tokB (acc ++ unsFrom d.bs (fun i => t.testBit i) i0)))), z6], tksB (acc ++ unsFrom d.bs (fun i => t.testBit i) i0)⟩] = r) →
    B.loop (evCK B a79_L1) [1, 2, 4, 5, 6] n j cl rd Gx 0 1 [(1, .int .i64 zt), (2, .ptr 0 0 0), (4, .ptr 0 1 0), (5, .sl (d.bs.map Box.c) t5), (6, .int .i64 (.ofNat i0))] [⟨[.cells (dcB d (.sl (acc.map Box.c) (tokB acc))), z6], tksB acc⟩] k = r := by
  intro j
  induction j with
  | zero => intro i0 acc h1 h2; omega
  | succ j ih =>
    intro i0 acc h1 h2 h3 k1
    refine loop_succ hB ?_
    conv => lhs; whnf
    (repeat' ((first | refine fnat_step hB ?_ | refine obj_raw hB ?_ | refine drop_step hB rfl ?_ | refine len_map hB ?_) <;> conv => lhs; whnf))
    refine lt_nat hB (fun h => ?_) (fun h => ?_) <;> conv => lhs; whnf
    · obtain ⟨b, hb⟩ : ∃ b, d.bs[i0]? = some b := ⟨d.bs[i0], by simp [h]⟩
      have hxb : (d.bs.map Box.c)[i0]? = some b.c := by simp [hb]
      have hun : unsFrom d.bs (fun i => t.testBit i) i0 = b.uns (t.testBit i0) :: unsFrom d.bs (fun i => t.testBit i) (i0 + 1) := by
        unfold unsFrom
        have hlt : i0 < (unsB d.bs fun i => t.testBit i).length := by rw [unsB_len]; exact h
        rw [List.drop_eq_getElem_cons hlt]
        congr 1
        have := unsB_get d.bs (fun i => t.testBit i) i0
        rw [List.getElem?_eq_getElem hlt, hb] at this
        exact Option.some.inj this
      have HI := H40 i0 (by omega)
      have happ : ∀ f : Fr, appAt 0 [f, ⟨[.cells (dcB d (.sl (acc.map Box.c) (tokB acc))), z6], tksB acc⟩] 34 5 48 (.sl (acc.map Box.c) (tokB acc)) (.sl [(b.uns (t.testBit i0)).c] .full) = some (.sl ((acc ++ [b.uns (t.testBit i0)]).map Box.c) (tokB (acc ++ [b.uns (t.testBit i0)])), [f, ⟨[.cells (dcB d (.sl (acc.map Box.c) (tokB acc))), z6], tksB (acc ++ [b.uns (t.testBit i0)])⟩]) := fun f => app_tokB acc _ (by omega)
      rw [hun] at k1
      rcases b with ⟨b1, b2, b3, b4, b5⟩
      cases b5
      · have hu : (Box.mk b1 b2 b3 b4 false).uns (t.testBit i0) = Box.mk b1 b2 b3 b4 false := by simp [Box.uns]
        rw [hu] at happ k1
        repeat' ((first | refine fnat_pred hB ?_ | refine tok_step hB hd.tp ?_ | refine tok_step hB ht5 ?_ | refine natOf_step hB (m := i0) rfl ?_ | refine nth_step hB hxb ?_ | refine opt2_step hB (happ _) ?_ | refine purs_step hB rfl ?_ | refine lt_tt hB (by decide) ?_ | refine lt_ff hB (by decide) ?_ | refine le_tt hB (by decide) ?_ | refine le_ff hB (by decide) ?_ | refine eq_tt hB (by decide) ?_ | refine eq_ff hB (by decide) ?_ | refine fint_wrp hB (by omega) (by omega) ?_ | refine fint_step hB ?_ | refine fbool_tt hB ?_ | refine fbool_ff hB ?_ | refine fbool_split hB (fun _ => ?_) (fun _ => ?_) | refine ftok_step hB ?_ | refine frows_step hB ?_ | refine fstr_step hB ?_ | refine len_map hB ?_ | refine len_step hB ?_ | refine lens_step hB ?_ | refine byte_step hB ?_ | refine drop_step hB rfl ?_ | refine fl_step hB rfl ?_ | refine add_one hB (by first | omega | decide) ?_ | refine opt_step hB rfl ?_ | refine fnat_step hB ?_ | refine ifk_step hB rfl ?_ | refine ifk_step hB (flat_or rfl) ?_ | refine opt2_step hB rfl ?_ | refine obj_raw hB ?_ | refine sob_raw hB ?_ | refine fst_raw hB ?_ | refine optl_raw hB ?_ | refine tok_step hB rfl ?_) <;> conv => lhs; whnf)
        rw [clampTok_pur ht5, clamp_tokB]
        refine ih (i0 + 1) (acc ++ [_]) (by omega) (by omega) (by simp; omega) fun x => ?_
        rw [List.append_assoc]
        exact k1 x
      · cases ht : t.testBit i0
        all_goals
          rw [ht] at HI happ k1
          repeat' ((first | refine fnat_pred hB ?_ | refine tok_step hB hd.tp ?_ | refine tok_step hB ht5 ?_ | refine natOf_step hB (m := i0) rfl ?_ | refine nth_step hB hxb ?_ | refine opt2_step hB (happ _) ?_ | refine pans_step hB HI ?_ | refine purs_step hB rfl ?_ | refine lt_tt hB (by decide) ?_ | refine lt_ff hB (by decide) ?_ | refine le_tt hB (by decide) ?_ | refine le_ff hB (by decide) ?_ | refine eq_tt hB (by decide) ?_ | refine eq_ff hB (by decide) ?_ | refine fint_wrp hB (by omega) (by omega) ?_ | refine fint_step hB ?_ | refine fbool_tt hB ?_ | refine fbool_ff hB ?_ | refine fbool_split hB (fun _ => ?_) (fun _ => ?_) | refine ftok_step hB ?_ | refine frows_step hB ?_ | refine fstr_step hB ?_ | refine len_map hB ?_ | refine len_step hB ?_ | refine lens_step hB ?_ | refine byte_step hB ?_ | refine drop_step hB rfl ?_ | refine fl_step hB rfl ?_ | refine add_one hB (by first | omega | decide) ?_ | refine opt_step hB rfl ?_ | refine fnat_step hB ?_ | refine ifk_step hB rfl ?_ | refine ifk_step hB (flat_or rfl) ?_ | refine opt2_step hB rfl ?_ | refine obj_raw hB ?_ | refine sob_raw hB ?_ | refine fst_raw hB ?_ | refine optl_raw hB ?_ | refine tok_step hB rfl ?_) <;> conv => lhs; whnf)
          rw [clampTok_pur ht5, clamp_tokB]
          refine ih (i0 + 1) (acc ++ [_]) (by omega) (by omega) (by simp; omega) fun x => ?_
          rw [List.append_assoc]
          exact k1 x
    · repeat' ((first | refine fnat_pred hB ?_ | refine tok_step hB ht5 ?_ | refine purs_step hB rfl ?_ | refine lt_tt hB (by decide) ?_ | refine lt_ff hB (by decide) ?_ | refine le_tt hB (by decide) ?_ | refine le_ff hB (by decide) ?_ | refine eq_tt hB (by decide) ?_ | refine eq_ff hB (by decide) ?_ | refine fint_wrp hB (by omega) (by omega) ?_ | refine fint_step hB ?_ | refine fbool_tt hB ?_ | refine fbool_ff hB ?_ | refine fbool_split hB (fun _ => ?_) (fun _ => ?_) | refine ftok_step hB ?_ | refine frows_step hB ?_ | refine fstr_step hB ?_ | refine len_map hB ?_ | refine len_step hB ?_ | refine lens_step hB ?_ | refine byte_step hB ?_ | refine drop_step hB rfl ?_ | refine fl_step hB rfl ?_ | refine add_one hB (by first | omega | decide) ?_ | refine opt_step hB rfl ?_ | refine fnat_step hB ?_ | refine ifk_step hB rfl ?_ | refine ifk_step hB (flat_or rfl) ?_ | refine opt2_step hB rfl ?_ | refine obj_raw hB ?_ | refine sob_raw hB ?_ | refine fst_raw hB ?_ | refine optl_raw hB ?_ | refine tok_step hB rfl ?_) <;> conv => lhs; whnf)
      have hi : i0 = d.bs.length := by omega
      subst hi
      have he : unsFrom d.bs (fun i => t.testBit i) d.bs.length = [] := by
        unfold unsFrom
        rw [List.drop_of_length_le (by rw [unsB_len]; exact Nat.le_refl _)]
      rw [he, List.append_nil] at k1
      rw [clampTok_pur ht5]
      exact k1 _
theorem withoutS_ev {n : Nat} (hn : 1000000000000002 ≤ n) (d : Desk) (hd : d.ok) (hnb : d.bs.length ≤ 6) (t : Nat) (ht : t < 512) {zt : Int} (hzt : zt = (t : Int)) :
    ∃ tb, purTok tb = true ∧ (evKR Bk Gx fsT n).1 0 79 [d.v, .int .i64 zt] [] ansK = some ((unS d (fun i => t.testBit i) tb).v, []) := by
  refine ⟨eraseTok (tokB (unsB d.bs fun i => t.testBit i)), by cases tokB (unsB d.bs fun i => t.testBit i) <;> rfl, ?_⟩
  refine call_open (show fsT.find 79 = some a79 from rfl) (by omega) fun n' B cl rd hn' hB hcl hrd => ?_
  have H40 : ∀ k : Nat, k < 9 → (evKR Bk Gx fsT n').1 0 40 [.int .i64 zt, .int .i64 (k : Int)] [] ansK = some (.bool (t.testBit k), []) := fun k hk => In_ev (n := n') (by omega) t k ht hk hzt rfl
  rw [← hcl] at H40
  have HL := fun z6 => a79_L1_step hB (rd := rd) d hd hnb t (purTok_clamp (l := (Nat.succ 0).pred) hd.tb) H40 z6
  conv => lhs; whnf
  repeat' ((first | refine fnat_pred hB ?_ | refine tok_step hB hd.tp ?_ | refine tok_step hB hd.tb ?_ | refine HL _ _ _ _ _ 0 [] (by omega) (by omega) rfl (fun x => ?_) | refine tokE_step hB ?_ | refine purs_step hB rfl ?_ | refine lt_tt hB (by decide) ?_ | refine lt_ff hB (by decide) ?_ | refine le_tt hB (by decide) ?_ | refine le_ff hB (by decide) ?_ | refine eq_tt hB (by decide) ?_ | refine eq_ff hB (by decide) ?_ | refine fint_wrp hB (by omega) (by omega) ?_ | refine fint_step hB ?_ | refine fbool_tt hB ?_ | refine fbool_ff hB ?_ | refine fbool_split hB (fun _ => ?_) (fun _ => ?_) | refine ftok_step hB ?_ | refine frows_step hB ?_ | refine fstr_step hB ?_ | refine len_map hB ?_ | refine len_step hB ?_ | refine lens_step hB ?_ | refine byte_step hB ?_ | refine drop_step hB rfl ?_ | refine fl_step hB rfl ?_ | refine add_one hB (by first | omega | decide) ?_ | refine opt_step hB rfl ?_ | refine fnat_step hB ?_ | refine ifk_step hB rfl ?_ | refine ifk_step hB (flat_or rfl) ?_ | refine opt2_step hB rfl ?_ | refine obj_raw hB ?_ | refine sob_raw hB ?_ | refine fst_raw hB ?_ | refine optl_raw hB ?_ | refine tok_step hB rfl ?_) <;> conv => lhs; whnf)
  rfl
end Go.Ab.Cl
