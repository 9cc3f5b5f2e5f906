/-
  The claims: ClaimWrongs, on the abstract machine.
-/
import Derived.Test.YthbekoofiienjaaDoorClKf
import Derived.Test.YthbekoofiienjaaDoorWk
namespace Go.Ab.Cl
open Go.Ab

theorem ofFrom_nats (t n : Nat) : ofFrom t n 0 = nats (ofN t n) := rfl
theorem ofN_len {d : Desk} (hnb : d.bs.length ≤ 6) (t : Nat) : (ofN t d.bs.length).length ≤ 100 := by
  unfold ofN
  refine Nat.le_trans (List.length_filter_le _ _) ?_
  simp; omega
theorem wrong_len {d : Desk} (hc : d.check = true) : (bestL (wrongV d)).length ≤ 100 := by
  have hnb := (check_fine hc).nb
  rcases wrong_least d with ⟨h, _⟩ | ⟨l, h, h1, _⟩
  · rw [h]; simp [bestL]
  · rw [h]
    have := h1.1.len (by omega)
    show l.length ≤ 100
    omega
theorem WrongF_ev {n : Nat} (hn : 1000000000000600 ≤ n) (d : Desk) (hd : d.ok) : (evKR Bk Gx fsT n).1 0 34 [d.v] [] ansK = some (.tup [.sl (rowsI (nats (wrongL d))) (wtk (wrongL d)), .int .i64 (wrongE d)], []) := by
  refine call_open (show fsT.find 34 = some a34 from rfl) (by omega) fun n' B cl rd hn' hB hcl hrd => ?_
  have H16 := CheckR_ev (n := n') d hd (by omega)
  unfold wrongL wrongE
  by_cases hc : d.check = true
  · rw [if_pos hc] at H16
    rw [if_pos hc, if_pos hc]
    have hnb := (check_fine hc).nb
    have h64 : 2 ^ d.bs.length ≤ 64 := by
      have : ∀ k : Fin 7, 2 ^ k.val ≤ 64 := by decide
      exact this ⟨d.bs.length, by omega⟩
    have H72 : ∀ t : Nat, t < 512 → (evKR Bk Gx fsT n').1 0 72 [.int .i64 (t : Int), .int .i64 (.ofNat d.bs.length)] [] ansK = some (.sl (rowsI (nats (ofN t d.bs.length))) (wtk (ofN t d.bs.length)), []) := fun t ht => by
      have := Of_ev (n := n') (by omega) t d.bs.length ht (by omega) rfl (zP := .ofNat d.bs.length) rfl
      rw [this, ofFrom_nats]
      cases ofN t d.bs.length <;> rfl
    have H79 : ∀ t : Nat, t < 512 → ∃ tb, purTok tb = true ∧ (evKR Bk Gx fsT n').1 0 79 [d.v, .int .i64 (t : Int)] [] ansK = some ((unS d (fun i => t.testBit i) tb).v, []) := fun t ht => withoutS_ev (n := n') (by omega) d hd hnb t ht rfl
    have H77 : ∀ (t : Nat) (tb : Tok), purTok tb = true → (evKR Bk Gx fsT n').1 0 77 [(unS d (fun i => t.testBit i) tb).v, .int .i64 0, .int .i64 0, .int .i64 0] [] ansK = some (.bool (tW d fun i => t.testBit i), []) := fun t tb htb => by
      rw [← tW_tok hc _ tb]
      exact canAll_ev (n := n') (by omega) _ (unS_ok hd htb) (by rw [unS_check]; exact hc)
    have H48 : ∀ (a b : List Nat) (t t' : Tok), a.length ≤ 100 → b.length ≤ 100 → purTok t = true → purTok t' = true → (evKR Bk Gx fsT n').1 0 48 [.sl (rowsI (nats a)) t, .sl (rowsI (nats b)) t'] [] ansK = some (.bool (aheadN a b), []) := fun a b t t' ha hb ht ht' => by
      rw [← ahead_nats]
      exact Ahead_ev (n := n') (by omega) (nats a) (nats b) (by simp [nats]; omega) (by simp [nats]; omega) ht ht'
    rw [← hcl] at H16 H72 H79 H77 H48
    have HL := a34_L1_step hB (rd := rd) d hd hc (ofN_len hnb) H72 H79 H77 H48 n' (by omega)
    have hr : refFrom d none 0 = wrongV d := wrong_same d
    have HL0 := fun k r => HL k r n' 0 none (by omega) (Nat.zero_le _) (by simp [bestL])
    rw [hr] at HL0
    cases hw : wrongV d with
    | none =>
      rw [hw] at HL0
      conv => lhs; whnf
      repeat' ((first | refine fnat_pred hB ?_ | refine tok_step hB hd.tp ?_ | refine tok_step hB hd.tb ?_ | refine purs_step hB (by simp [purs, pur, hd.tp, hd.tb]) ?_ | refine pans_step hB H16 ?_ | refine HL0 _ _ (fun x => ?_) | refine purs_step hB rfl ?_ | refine lt_tt hB (by decide) ?_ | refine lt_ff hB (by decide) ?_ | refine le_tt hB (by decide) ?_ | refine le_ff hB (by decide) ?_ | refine eq_tt hB (by decide) ?_ | refine eq_ff hB (by decide) ?_ | refine fint_wrp hB (by omega) (by omega) ?_ | refine fint_step hB ?_ | refine fbool_tt hB ?_ | refine fbool_ff hB ?_ | refine fbool_split hB (fun _ => ?_) (fun _ => ?_) | refine ftok_step hB ?_ | refine frows_step hB ?_ | refine fstr_step hB ?_ | refine len_map hB ?_ | refine len_step hB ?_ | refine lens_step hB ?_ | refine byte_step hB ?_ | refine drop_step hB rfl ?_ | refine fl_step hB rfl ?_ | refine add_one hB (by first | omega | decide) ?_ | refine opt_step hB rfl ?_ | refine fnat_step hB ?_ | refine ifk_step hB rfl ?_ | refine ifk_step hB (flat_or rfl) ?_ | refine opt2_step hB rfl ?_ | refine obj_raw hB ?_ | refine sob_raw hB ?_ | refine fst_raw hB ?_ | refine optl_raw hB ?_ | refine tok_step hB rfl ?_) <;> conv => lhs; whnf)
      all_goals rfl
    | some l =>
      rw [hw] at HL0
      conv => lhs; whnf
      repeat' ((first | refine fnat_pred hB ?_ | refine tok_step hB hd.tp ?_ | refine tok_step hB hd.tb ?_ | refine purs_step hB (by simp [purs, pur, hd.tp, hd.tb]) ?_ | refine pans_step hB H16 ?_ | refine HL0 _ _ (fun x => ?_) | refine tok_step hB (wtk_pur (bestL (some l))) ?_ | refine purs_step hB rfl ?_ | refine lt_tt hB (by decide) ?_ | refine lt_ff hB (by decide) ?_ | refine le_tt hB (by decide) ?_ | refine le_ff hB (by decide) ?_ | refine eq_tt hB (by decide) ?_ | refine eq_ff hB (by decide) ?_ | refine fint_wrp hB (by omega) (by omega) ?_ | refine fint_step hB ?_ | refine fbool_tt hB ?_ | refine fbool_ff hB ?_ | refine fbool_split hB (fun _ => ?_) (fun _ => ?_) | refine ftok_step hB ?_ | refine frows_step hB ?_ | refine fstr_step hB ?_ | refine len_map hB ?_ | refine len_step hB ?_ | refine lens_step hB ?_ | refine byte_step hB ?_ | refine drop_step hB rfl ?_ | refine fl_step hB rfl ?_ | refine add_one hB (by first | omega | decide) ?_ | refine opt_step hB rfl ?_ | refine fnat_step hB ?_ | refine ifk_step hB rfl ?_ | refine ifk_step hB (flat_or rfl) ?_ | refine opt2_step hB rfl ?_ | refine obj_raw hB ?_ | refine sob_raw hB ?_ | refine fst_raw hB ?_ | refine optl_raw hB ?_ | refine tok_step hB rfl ?_) <;> conv => lhs; whnf)
      all_goals rfl
  · rw [if_neg hc] at H16
    rw [if_neg hc, if_neg hc]
    rw [← hcl] at H16
    conv => lhs; whnf
    repeat' ((first | refine fnat_pred hB ?_ | refine tok_step hB hd.tp ?_ | refine tok_step hB hd.tb ?_ | refine purs_step hB (by simp [purs, pur, hd.tp, hd.tb]) ?_ | refine pans_step hB H16 ?_ | refine purs_step hB rfl ?_ | refine lt_tt hB (by decide) ?_ | refine lt_ff hB (by decide) ?_ | refine le_tt hB (by decide) ?_ | refine le_ff hB (by decide) ?_ | refine eq_tt hB (by decide) ?_ | refine eq_ff hB (by decide) ?_ | refine fint_wrp hB (by omega) (by omega) ?_ | refine fint_step hB ?_ | refine fbool_tt hB ?_ | refine fbool_ff hB ?_ | refine fbool_split hB (fun _ => ?_) (fun _ => ?_) | refine ftok_step hB ?_ | refine frows_step hB ?_ | refine fstr_step hB ?_ | refine len_map hB ?_ | refine len_step hB ?_ | refine lens_step hB ?_ | refine byte_step hB ?_ | refine drop_step hB rfl ?_ | refine fl_step hB rfl ?_ | refine add_one hB (by first | omega | decide) ?_ | refine opt_step hB rfl ?_ | refine fnat_step hB ?_ | refine ifk_step hB rfl ?_ | refine ifk_step hB (flat_or rfl) ?_ | refine opt2_step hB rfl ?_ | refine obj_raw hB ?_ | refine sob_raw hB ?_ | refine fst_raw hB ?_ | refine optl_raw hB ?_ | refine tok_step hB rfl ?_) <;> conv => lhs; whnf)
    all_goals rfl
theorem wrongL_len (d : Desk) : (wrongL d).length ≤ 100 := by
  unfold wrongL
  split
  · rename_i hc; exact wrong_len hc
  · simp

set_option maxHeartbeats 4000000 in
theorem law_wrongs (d : Desk) (hd : d.ok) : (evKR Bk Gx fsT 2000000000000000).1 0 6 [d.v] [] ansK = some (.bool true, []) := by
  refine call_open (show fsT.find 6 = some a6 from rfl) (by omega) fun n B cl rd hn' hB hcl hrd => ?_
  have hn : n = 1999999999999999 := by omega
  have H21 : cl 0 21 [] [] ansK = some (.bool true, []) := by rw [hcl, hn]; exact works_ev
  have H31 := Fewest_ev (n := n) (by omega) d hd
  have H32 := FewestF_ev (n := n) (by omega) d hd
  have H33 := Wrong_ev (n := n) (by omega) d hd
  have H34 := WrongF_ev (n := n) (by omega) d hd
  have H24 := Match_ev (n := n) (by omega) (nats (wrongL d)) (nats (wrongL d)) (by have := wrongL_len d; simp [nats]; omega) (ftok_pur (wtk (wrongL d))) (wtk_pur (wrongL d))
  rw [decide_eq_true rfl] at H24
  rw [← hcl] at H31 H32 H33 H34 H24
  conv => lhs; whnf
  repeat' ((first | refine fnat_pred hB ?_ | refine tok_step hB hd.tp ?_ | refine tok_step hB hd.tb ?_ | refine tok_step hB (ftok_pur (wtk (wrongL d))) ?_ | refine tok_step hB (wtk_pur (wrongL d)) ?_ | refine purs_step hB (by simp [purs, pur, hd.tp, hd.tb, wtk_pur, ftok_pur]) ?_ | refine pans_step hB H31 ?_ | refine pans_step hB H32 ?_ | refine pans_step hB H33 ?_ | refine pans_step hB H34 ?_ | refine pans_step hB H24 ?_ | refine pans_step hB H21 ?_ | refine eq_tt hB rfl ?_ | refine purs_step hB rfl ?_ | refine lt_tt hB (by decide) ?_ | refine lt_ff hB (by decide) ?_ | refine le_tt hB (by decide) ?_ | refine le_ff hB (by decide) ?_ | refine eq_tt hB (by decide) ?_ | refine eq_ff hB (by decide) ?_ | refine fint_wrp hB (by omega) (by omega) ?_ | refine fint_step hB ?_ | refine fbool_tt hB ?_ | refine fbool_ff hB ?_ | refine fbool_split hB (fun _ => ?_) (fun _ => ?_) | refine ftok_step hB ?_ | refine frows_step hB ?_ | refine fstr_step hB ?_ | refine len_map hB ?_ | refine len_step hB ?_ | refine lens_step hB ?_ | refine byte_step hB ?_ | refine drop_step hB rfl ?_ | refine fl_step hB rfl ?_ | refine add_one hB (by first | omega | decide) ?_ | refine opt_step hB rfl ?_ | refine fnat_step hB ?_ | refine ifk_step hB rfl ?_ | refine ifk_step hB (flat_or rfl) ?_ | refine opt2_step hB rfl ?_ | refine obj_raw hB ?_ | refine sob_raw hB ?_ | refine fst_raw hB ?_ | refine optl_raw hB ?_ | refine tok_step hB rfl ?_) <;> conv => lhs; whnf)
  all_goals rfl
end Go.Ab.Cl
