/-
  The claims: ClaimBoxes, on the abstract machine.
-/
import Derived.Test.YthbekoofiienjaaDoorClJh
import Derived.Test.YthbekoofiienjaaDoorWk
namespace Go.Ab.Cl
open Go.Ab

theorem ToldF_ev {n : Nat} (hn : 1000000000000400 ≤ n) (d : Desk) (hd : d.ok) (z : Int) : (evKR Bk Gx fsT n).1 0 26 [d.v, .int .i64 z] [] ansK = some (.tup [.int .i64 (toldV d z), .int .i64 (whichE d z)], []) := by
  refine call_open (show fsT.find 26 = some a26 from rfl) (by omega) fun n' B cl rd hn' hB hcl hrd => ?_
  have hbs := hd.bs
  have H38 := Tween_ev (G := Gx) (n := n') (by omega) z 0 ((d.bs.length : Int) - 1)
  have H69 := told_ev (n := n') (by omega) d hd (within z 0 ((d.bs.length : Int) - 1))
  have H69 : (evKR Bk Gx fsT n').1 0 69 [d.v, .bool (within z 0 ((d.bs.length : Int) - 1))] [] ansK = some (.int .i64 (whichE d z), []) := H69
  rw [← hcl] at H38 H69
  by_cases he : whichE d z = 0
  · obtain ⟨hc, ht, h0, h1⟩ := which_ok he
    obtain ⟨b, rfl⟩ : ∃ b : Nat, z = (b : Int) := ⟨z.toNat, by omega⟩
    have hb : b < d.bs.length := by omega
    have hnp := (check_fine hc).np
    have H73 := seen_ev (n := n') (by omega) d hd hc
    have H72 := Of_ev (n := n') (by omega) ((seenV d).is[b]?.getD 0) d.ps.length (seen_lt hc b) hnp rfl (zP := .ofNat d.ps.length) rfl
    have H40 := In_ev (n := n') (by omega) ((seenV d).is[b]?.getD 0) d.ps.length (seen_lt hc b) (by omega) rfl (zk := .ofNat d.ps.length) rfl
    rw [which_of hc hb] at H72
    rw [seen_odd hc hb] at H40
    rw [← hcl] at H73 H72 H40
    rw [he] at H69
    rw [told_of rfl he, he, show whichL d (b : Int) = whichFrom d (b : Int) 0 by simp [whichL, he]]
    conv => lhs; whnf
    repeat' ((first
      | refine fnat_pred hB ?_
      | refine tok_step hB hd.tp ?_
      | refine tok_step hB hd.tb ?_
      | refine tok_step hB (wt_pur _) ?_
      | refine tok_step hB (otok_pur (whichFrom d (b : Int) 0)) ?_
      | refine purs_step hB (by simp [purs, pur, hd.tp, hd.tb]) ?_
      | refine sub_step hB (by simp only [Int.ofNat_eq_natCast]; omega) (by simp only [Int.ofNat_eq_natCast]; omega) ?_
      | refine pans_step hB H38 ?_
      | refine pans_step hB H69 ?_
      | refine pans_step hB H73 ?_
      | refine natOf_step hB (m := b) rfl ?_
      | refine nth_step hB (nats_get (by rw [(seen_tells hc).len]; exact hb)) ?_
      | refine pans_step hB H72 ?_
      | refine pans_bool hB H40 (fun a1 => ?_) (fun a1 => ?_)
      | refine eq_tt hB rfl ?_
      | refine len_map hB ?_
      | refine eq_split hB (fun a2 => ?_) (fun a2 => ?_)
      | refine purs_step hB rfl ?_
      | refine lt_tt hB (by decide) ?_
      | refine lt_ff hB (by decide) ?_
      | refine le_tt hB (by decide) ?_
      | refine le_ff hB (by decide) ?_
      | refine eq_tt hB (by decide) ?_
      | refine eq_ff hB (by decide) ?_
      | refine fint_wrp hB (by omega) (by omega) ?_
      | refine fint_step hB ?_
      | refine fbool_tt hB ?_
      | refine fbool_ff hB ?_
      | refine fbool_split hB (fun _ => ?_) (fun _ => ?_)
      | refine ftok_step hB ?_
      | refine frows_step hB ?_
      | refine fstr_step hB ?_
      | refine len_map hB ?_
      | refine len_step hB ?_
      | refine lens_step hB ?_
      | refine byte_step hB ?_
      | refine drop_step hB rfl ?_
      | refine fl_step hB rfl ?_
      | refine add_one hB (by first | omega | decide) ?_
      | refine opt_step hB rfl ?_
      | refine fnat_step hB ?_
      | refine ifk_step hB rfl ?_
      | refine ifk_step hB (flat_or rfl) ?_
      | refine opt2_step hB rfl ?_
      | refine obj_raw hB ?_
      | refine sob_raw hB ?_
      | refine fst_raw hB ?_
      | refine optl_raw hB ?_
      | refine tok_step hB rfl ?_
      ) <;> conv => lhs; whnf)
    all_goals
      refine congrArg some (congrArg (·, []) (congrArg AV.tup ?_))
      simp_all
  · have hL : toldV d z = 0 := if_neg he
    rw [hL]
    conv => lhs; whnf
    repeat' ((first
      | refine fnat_pred hB ?_
      | refine tok_step hB hd.tp ?_
      | refine tok_step hB hd.tb ?_
      | refine purs_step hB (by simp [purs, pur, hd.tp, hd.tb]) ?_
      | refine sub_step hB (by simp only [Int.ofNat_eq_natCast]; omega) (by simp only [Int.ofNat_eq_natCast]; omega) ?_
      | refine pans_step hB H38 ?_
      | refine pans_step hB H69 ?_
      | refine eq_ff hB he ?_
      | refine purs_step hB rfl ?_
      | refine lt_tt hB (by decide) ?_
      | refine lt_ff hB (by decide) ?_
      | refine le_tt hB (by decide) ?_
      | refine le_ff hB (by decide) ?_
      | refine eq_tt hB (by decide) ?_
      | refine eq_ff hB (by decide) ?_
      | refine fint_wrp hB (by omega) (by omega) ?_
      | refine fint_step hB ?_
      | refine fbool_tt hB ?_
      | refine fbool_ff hB ?_
      | refine fbool_split hB (fun _ => ?_) (fun _ => ?_)
      | refine ftok_step hB ?_
      | refine frows_step hB ?_
      | refine fstr_step hB ?_
      | refine len_map hB ?_
      | refine len_step hB ?_
      | refine lens_step hB ?_
      | refine byte_step hB ?_
      | refine drop_step hB rfl ?_
      | refine fl_step hB rfl ?_
      | refine add_one hB (by first | omega | decide) ?_
      | refine opt_step hB rfl ?_
      | refine fnat_step hB ?_
      | refine ifk_step hB rfl ?_
      | refine ifk_step hB (flat_or rfl) ?_
      | refine opt2_step hB rfl ?_
      | refine obj_raw hB ?_
      | refine sob_raw hB ?_
      | refine fst_raw hB ?_
      | refine optl_raw hB ?_
      | refine tok_step hB rfl ?_
      ) <;> conv => lhs; whnf)
    all_goals rfl

theorem which_len (d : Desk) (hd : d.ok) (z : Int) : (whichL d z).length ≤ 1000 := by
  unfold whichL
  split
  · rename_i he
    have hnp := (check_fine (which_ok he).1).np
    unfold whichFrom
    rw [List.length_map]
    refine Nat.le_trans (List.length_filter_le _ _) ?_
    simp; omega
  · simp

set_option maxHeartbeats 4000000 in
theorem law_boxes (d : Desk) (hd : d.ok) (z : Int) : (evKR Bk Gx fsT 2000000000000000).1 0 4 [d.v, .int .i64 z] [] ansK = some (.bool true, []) := by
  refine call_open (show fsT.find 4 = some a4 from rfl) (by omega) fun n B cl rd hn' hB hcl hrd => ?_
  have hn : n = 1999999999999999 := by omega
  have H21 : cl 0 21 [] [] ansK = some (.bool true, []) := by rw [hcl, hn]; exact works_ev
  have H22 := Which_ev (n := n) (by omega) d hd z
  have H23 := WhichF_ev (n := n) (by omega) d hd z
  have H24 := Match_ev (n := n) (by omega) (whichL d z) (whichL d z) (by have := which_len d hd z; omega) (wtok_pur (whichL d z)) (otok_pur (whichL d z))
  have H25 := Told_ev (n := n) (by omega) d hd z
  have H26 := ToldF_ev (n := n) (by omega) d hd z
  rw [decide_eq_true rfl] at H24
  rw [← hcl] at H22 H23 H24 H25 H26
  conv => lhs; whnf
  repeat' ((first
    | refine fnat_pred hB ?_
    | refine tok_step hB hd.tp ?_
    | refine tok_step hB hd.tb ?_
    | refine tok_step hB (wtok_pur (whichL d z)) ?_
    | refine tok_step hB (otok_pur (whichL d z)) ?_
    | refine purs_step hB (by simp [purs, pur, hd.tp, hd.tb, wtok_pur, otok_pur]) ?_
    | refine pans_step hB H22 ?_
    | refine pans_step hB H23 ?_
    | refine pans_step hB H24 ?_
    | refine pans_step hB H25 ?_
    | refine pans_step hB H26 ?_
    | refine pans_step hB H21 ?_
    | refine eq_tt hB rfl ?_
    | refine purs_step hB rfl ?_
    | refine lt_tt hB (by decide) ?_
    | refine lt_ff hB (by decide) ?_
    | refine le_tt hB (by decide) ?_
    | refine le_ff hB (by decide) ?_
    | refine eq_tt hB (by decide) ?_
    | refine eq_ff hB (by decide) ?_
    | refine fint_wrp hB (by omega) (by omega) ?_
    | refine fint_step hB ?_
    | refine fbool_tt hB ?_
    | refine fbool_ff hB ?_
    | refine fbool_split hB (fun _ => ?_) (fun _ => ?_)
    | refine ftok_step hB ?_
    | refine frows_step hB ?_
    | refine fstr_step hB ?_
    | refine len_map hB ?_
    | refine len_step hB ?_
    | refine lens_step hB ?_
    | refine byte_step hB ?_
    | refine drop_step hB rfl ?_
    | refine fl_step hB rfl ?_
    | refine add_one hB (by first | omega | decide) ?_
    | refine opt_step hB rfl ?_
    | refine fnat_step hB ?_
    | refine ifk_step hB rfl ?_
    | refine ifk_step hB (flat_or rfl) ?_
    | refine opt2_step hB rfl ?_
    | refine obj_raw hB ?_
    | refine sob_raw hB ?_
    | refine fst_raw hB ?_
    | refine optl_raw hB ?_
    | refine tok_step hB rfl ?_
    ) <;> conv => lhs; whnf)
  all_goals rfl
end Go.Ab.Cl
