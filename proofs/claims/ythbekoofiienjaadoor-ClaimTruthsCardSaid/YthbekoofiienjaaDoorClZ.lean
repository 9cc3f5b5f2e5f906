/-
  The claims: Worth, Fewest, IsTruth.
-/
import Derived.Test.YthbekoofiienjaaDoorClY
namespace Go.Ab.Cl
open Go.Ab

theorem always_ev {n : Nat} (hn : 2 ≤ n) (d : Desk) (hd : d.ok) (fr : Fr) (kont : AV → St → Ans) : (evKR Bk Gx fsT n).1 1 64 [d.v] [fr] kont = kont (.bool true) [fr] := by
  refine call_open (show fsT.find 64 = some a64 from rfl) (by omega) fun n' B cl rd hn' hB hcl hrd => ?_
  conv => lhs; whnf
  repeat' ((first
    | refine fnat_pred hB ?_
    | refine tok_step hB hd.tp ?_
    | refine tok_step hB hd.tb ?_
    | refine purs_step hB rfl ?_
    | refine lt_tt hB (by decide) ?_
    | refine lt_ff hB (by decide) ?_
    | refine le_tt hB (by decide) ?_
    | refine le_ff hB (by decide) ?_
    | refine eq_tt hB (by decide) ?_
    | refine eq_ff hB (by decide) ?_
    | refine fint_wrp hB (by omega) (by omega) ?_
    | refine fint_step hB ?_
    | refine fbool_tt hB ?_
    | refine fbool_ff hB ?_
    | refine fbool_split hB (fun _ => ?_) (fun _ => ?_)
    | refine ftok_step hB ?_
    | refine frows_step hB ?_
    | refine fstr_step hB ?_
    | refine len_map hB ?_
    | refine len_step hB ?_
    | refine lens_step hB ?_
    | refine byte_step hB ?_
    | refine drop_step hB rfl ?_
    | refine fl_step hB rfl ?_
    | refine add_one hB (by first | omega | decide) ?_
    | refine opt_step hB rfl ?_
    | refine fnat_step hB ?_
    | refine ifk_step hB rfl ?_
    | refine ifk_step hB (flat_or rfl) ?_
    | refine opt2_step hB rfl ?_
    | refine obj_raw hB ?_
    | refine sob_raw hB ?_
    | refine fst_raw hB ?_
    | refine optl_raw hB ?_
    | refine tok_step hB rfl ?_
    ) <;> conv => lhs; whnf)
  all_goals rfl
theorem asked0_ev {n : Nat} (hn : 1000000000000301 ≤ n) (d : Desk) (hd : d.ok) : (evKR Bk Gx fsT n).1 0 63 [d.v, .fn 64 [] []] [] ansK = some (.tup [(askD d true).v, .int .i64 (askE d true)], []) := by
  obtain ⟨n2, rfl⟩ : ∃ n2, n = n2 + 1 := ⟨n - 1, by omega⟩
  exact asked_ev (n := n2) (by omega) d hd 64 [] [] rfl true (fun fr kont => always_ev (by omega) d hd fr kont) ansK
theorem ask_check {d : Desk} {ok : Bool} (he : askE d ok = 0) : d.check = true := by
  unfold askE at he
  cases hc : d.check
  · rw [hc] at he; simp at he
  · rfl
theorem askD_ok {d : Desk} (hd : d.ok) (ok : Bool) : (askD d ok).ok := by
  unfold askD; split
  · exact hd
  · exact zero_ok

theorem least_ev {n : Nat} (hn : 2 ≤ n) : (evKR Bk Gx fsT n).1 0 76 [] [] ansK = some (.agg [.fn 88 [] []], []) := by
  refine call_open (show fsT.find 76 = some a76 from rfl) (by omega) fun n' B cl rd hn' hB hcl hrd => ?_
  conv => lhs; whnf
  repeat' ((first
    | refine fnat_pred hB ?_
    | refine purs_step hB rfl ?_
    | refine lt_tt hB (by decide) ?_
    | refine lt_ff hB (by decide) ?_
    | refine le_tt hB (by decide) ?_
    | refine le_ff hB (by decide) ?_
    | refine eq_tt hB (by decide) ?_
    | refine eq_ff hB (by decide) ?_
    | refine fint_wrp hB (by omega) (by omega) ?_
    | refine fint_step hB ?_
    | refine fbool_tt hB ?_
    | refine fbool_ff hB ?_
    | refine fbool_split hB (fun _ => ?_) (fun _ => ?_)
    | refine ftok_step hB ?_
    | refine frows_step hB ?_
    | refine fstr_step hB ?_
    | refine len_map hB ?_
    | refine len_step hB ?_
    | refine lens_step hB ?_
    | refine byte_step hB ?_
    | refine drop_step hB rfl ?_
    | refine fl_step hB rfl ?_
    | refine add_one hB (by first | omega | decide) ?_
    | refine opt_step hB rfl ?_
    | refine fnat_step hB ?_
    | refine ifk_step hB rfl ?_
    | refine ifk_step hB (flat_or rfl) ?_
    | refine opt2_step hB rfl ?_
    | refine obj_raw hB ?_
    | refine sob_raw hB ?_
    | refine fst_raw hB ?_
    | refine optl_raw hB ?_
    | refine tok_step hB rfl ?_
    ) <;> conv => lhs; whnf)
  all_goals rfl
theorem desk_self (d : Desk) : selfVs d.c = true := by
  simp [Desk.c, selfVs, selfV, selfVss_map (f := Parcel.c) (fun p => by simp [Parcel.c, selfVs, selfV]), selfVss_map (f := Box.c) (fun p => by simp [Box.c, selfVs, selfV])]

def worthLo (d : Desk) : Int := if askE d true = 0 then best d loI [] else 0
def worthHi (d : Desk) : Int := if askE d true = 0 then best d hiI [] else 0
theorem Worth_ev {n : Nat} (hn : 1000000000000500 ≤ n) (d : Desk) (hd : d.ok) : (evKR Bk Gx fsT n).1 0 29 [d.v] [] ansK = some (.tup [.agg [.int .i64 (worthLo d), .int .i64 (worthHi d)], .int .i64 (askE d true)], []) := by
  refine call_open (show fsT.find 29 = some a29 from rfl) (by omega) fun n' B cl rd hn' hB hcl hrd => ?_
  have H63 := asked0_ev (n := n') (by omega) d hd
  rw [← hcl] at H63
  by_cases he : askE d true = 0
  · have hck := ask_check he
    have H67 := most_ev (n := n') (by omega)
    have H76 := least_ev (n := n') (by omega)
    have H66 := fun byf os t s kont => found_ev (n := n') (by omega) d hd (gv := .nilM) byf os t s (D := s.length + 1) rfl (.inl rfl) kont
    have H68 := fun os t s kont r => search_ev (n := n') (by omega) hi_or hiHB d hd hck [] (gv := .nilM) os t s (D := s.length + 1) rfl (.inl rfl) rfl kont r
    have H69 := fun os t s kont r => search_ev (n := n') (by omega) lo_or loHB d hd hck [] (gv := .nilM) os t s (D := s.length + 1) rfl (.inl rfl) rfl kont r
    rw [← hcl] at H66 H67 H68 H69 H76
    rw [show askD d true = d from if_pos he, he] at H63
    rw [he, show worthLo d = best d loI [] from if_pos he, show worthHi d = best d hiI [] from if_pos he]
    conv => lhs; whnf
    repeat' ((first
      | refine fnat_pred hB ?_
      | refine tok_step hB hd.tp ?_
      | refine tok_step hB hd.tb ?_
      | refine purs_step hB (by simp [purs, pur, hd.tp, hd.tb]) ?_
      | refine pans_step hB H63 ?_
      | refine pans_step hB H67 ?_
      | refine pans_step hB H76 ?_
      | refine eq_tt hB (by decide) ?_
      | refine (H66 _ _ _ [] _).trans ?_
      | refine H68 _ _ [] _ _ (fun es' => ?_)
      | refine H69 _ _ [] _ _ (fun es' => ?_)
      | refine ifk_step hB (kept_one rfl rfl (desk_self d)) ?_
      | refine purs_step hB rfl ?_
      | refine lt_tt hB (by decide) ?_
      | refine lt_ff hB (by decide) ?_
      | refine le_tt hB (by decide) ?_
      | refine le_ff hB (by decide) ?_
      | refine eq_tt hB (by decide) ?_
      | refine eq_ff hB (by decide) ?_
      | refine fint_wrp hB (by omega) (by omega) ?_
      | refine fint_step hB ?_
      | refine fbool_tt hB ?_
      | refine fbool_ff hB ?_
      | refine fbool_split hB (fun _ => ?_) (fun _ => ?_)
      | refine ftok_step hB ?_
      | refine frows_step hB ?_
      | refine fstr_step hB ?_
      | refine len_map hB ?_
      | refine len_step hB ?_
      | refine lens_step hB ?_
      | refine byte_step hB ?_
      | refine drop_step hB rfl ?_
      | refine fl_step hB rfl ?_
      | refine add_one hB (by first | omega | decide) ?_
      | refine opt_step hB rfl ?_
      | refine fnat_step hB ?_
      | refine ifk_step hB rfl ?_
      | refine ifk_step hB (flat_or rfl) ?_
      | refine opt2_step hB rfl ?_
      | refine obj_raw hB ?_
      | refine sob_raw hB ?_
      | refine fst_raw hB ?_
      | refine optl_raw hB ?_
      | refine tok_step hB rfl ?_
      ) <;> conv => lhs; whnf)
    rfl
  · rw [show worthLo d = 0 from if_neg he, show worthHi d = 0 from if_neg he]
    conv => lhs; whnf
    repeat' ((first
      | refine fnat_pred hB ?_
      | refine tok_step hB hd.tp ?_
      | refine tok_step hB hd.tb ?_
      | refine tok_step hB (askD_ok hd true).tp ?_
      | refine tok_step hB (askD_ok hd true).tb ?_
      | refine purs_step hB (by simp [purs, pur, hd.tp, hd.tb]) ?_
      | refine pans_step hB H63 ?_
      | refine eq_ff hB he ?_
      | refine purs_step hB rfl ?_
      | refine lt_tt hB (by decide) ?_
      | refine lt_ff hB (by decide) ?_
      | refine le_tt hB (by decide) ?_
      | refine le_ff hB (by decide) ?_
      | refine eq_tt hB (by decide) ?_
      | refine eq_ff hB (by decide) ?_
      | refine fint_wrp hB (by omega) (by omega) ?_
      | refine fint_step hB ?_
      | refine fbool_tt hB ?_
      | refine fbool_ff hB ?_
      | refine fbool_split hB (fun _ => ?_) (fun _ => ?_)
      | refine ftok_step hB ?_
      | refine frows_step hB ?_
      | refine fstr_step hB ?_
      | refine len_map hB ?_
      | refine len_step hB ?_
      | refine lens_step hB ?_
      | refine byte_step hB ?_
      | refine drop_step hB rfl ?_
      | refine fl_step hB rfl ?_
      | refine add_one hB (by first | omega | decide) ?_
      | refine opt_step hB rfl ?_
      | refine fnat_step hB ?_
      | refine ifk_step hB rfl ?_
      | refine ifk_step hB (flat_or rfl) ?_
      | refine opt2_step hB rfl ?_
      | refine obj_raw hB ?_
      | refine sob_raw hB ?_
      | refine fst_raw hB ?_
      | refine optl_raw hB ?_
      | refine tok_step hB rfl ?_
      ) <;> conv => lhs; whnf)
    all_goals rfl

/-! ### Fewest -/
def dS (d : Desk) (s : Int) : Desk := { d with strange := s }
theorem dS_ok {d : Desk} (hd : d.ok) (s : Int) : (dS d s).ok := ⟨hd.tp, hd.tb, hd.ps, hd.bs, hd.str⟩
theorem dS_check {d : Desk} (hc : d.check = true) {s : Int} (h0 : 0 ≤ s) (h6 : s ≤ 6) : (dS d s).check = true := by
  simp only [Desk.check, dS, Bool.and_eq_true, decide_eq_true_eq, within] at hc ⊢
  simp_all
def fewR (d : Desk) : Int × Int := if d.check = true then (match (List.range 7).find? (fun n : Nat => trueB (dS d (n : Int))) with
  | some n => ((n : Int), 0)
  | none => (0, 4)) else (0, 90)
set_option maxHeartbeats 20000000 in
theorem Fewest_ev {n : Nat} (hn : 1000000000000500 ≤ n) (d : Desk) (hd : d.ok) : (evKR Bk Gx fsT n).1 0 31 [d.v] [] ansK = some (.tup [.int .i64 (fewR d).1, .int .i64 (fewR d).2], []) := by
  refine call_open (show fsT.find 31 = some a31 from rfl) (by omega) fun n' B cl rd hn' hB hcl hrd => ?_
  have HC := Check_ev (G := Gx) (n := n') d hd (by omega)
  rw [← hcl] at HC
  cases hc : d.check
  · rw [hc] at HC
    rw [show fewR d = (0, 90) by simp [fewR, hc]]
    conv => lhs; whnf
    repeat' ((first
      | refine fnat_pred hB ?_
      | refine tok_step hB hd.tp ?_
      | refine tok_step hB hd.tb ?_
      | refine purs_step hB (by simp [purs, pur, hd.tp, hd.tb]) ?_
      | refine pans_step hB HC ?_
      | refine purs_step hB rfl ?_
      | refine lt_tt hB (by decide) ?_
      | refine lt_ff hB (by decide) ?_
      | refine le_tt hB (by decide) ?_
      | refine le_ff hB (by decide) ?_
      | refine eq_tt hB (by decide) ?_
      | refine eq_ff hB (by decide) ?_
      | refine fint_wrp hB (by omega) (by omega) ?_
      | refine fint_step hB ?_
      | refine fbool_tt hB ?_
      | refine fbool_ff hB ?_
      | refine fbool_split hB (fun _ => ?_) (fun _ => ?_)
      | refine ftok_step hB ?_
      | refine frows_step hB ?_
      | refine fstr_step hB ?_
      | refine len_map hB ?_
      | refine len_step hB ?_
      | refine lens_step hB ?_
      | refine byte_step hB ?_
      | refine drop_step hB rfl ?_
      | refine fl_step hB rfl ?_
      | refine add_one hB (by first | omega | decide) ?_
      | refine opt_step hB rfl ?_
      | refine fnat_step hB ?_
      | refine ifk_step hB rfl ?_
      | refine ifk_step hB (flat_or rfl) ?_
      | refine opt2_step hB rfl ?_
      | refine obj_raw hB ?_
      | refine sob_raw hB ?_
      | refine fst_raw hB ?_
      | refine optl_raw hB ?_
      | refine tok_step hB rfl ?_
      ) <;> conv => lhs; whnf)
    all_goals rfl
  · rw [hc] at HC
    have H75 := fun (s : Int) h0 h6 => true_ev (n := n') (by omega) (dS d s) (dS_ok hd s) (dS_check hc (s := s) h0 h6)
    rw [← hcl] at H75
    conv => lhs; whnf
    repeat' ((first
      | refine fnat_pred hB ?_
      | refine tok_step hB hd.tp ?_
      | refine tok_step hB hd.tb ?_
      | refine purs_step hB (by simp [purs, pur, hd.tp, hd.tb]) ?_
      | refine pans_step hB HC ?_
      | refine loop_step hB (by omega) ?_
      | refine pans_bool hB (H75 0 (by decide) (by decide)) (fun h0 => ?_) (fun h0 => ?_)
      | refine pans_bool hB (H75 1 (by decide) (by decide)) (fun h1 => ?_) (fun h1 => ?_)
      | refine pans_bool hB (H75 2 (by decide) (by decide)) (fun h2 => ?_) (fun h2 => ?_)
      | refine pans_bool hB (H75 3 (by decide) (by decide)) (fun h3 => ?_) (fun h3 => ?_)
      | refine pans_bool hB (H75 4 (by decide) (by decide)) (fun h4 => ?_) (fun h4 => ?_)
      | refine pans_bool hB (H75 5 (by decide) (by decide)) (fun h5 => ?_) (fun h5 => ?_)
      | refine pans_bool hB (H75 6 (by decide) (by decide)) (fun h6 => ?_) (fun h6 => ?_)
      | refine add_step hB (by decide) (by decide) ?_
      | refine purs_step hB rfl ?_
      | refine lt_tt hB (by decide) ?_
      | refine lt_ff hB (by decide) ?_
      | refine le_tt hB (by decide) ?_
      | refine le_ff hB (by decide) ?_
      | refine eq_tt hB (by decide) ?_
      | refine eq_ff hB (by decide) ?_
      | refine fint_wrp hB (by omega) (by omega) ?_
      | refine fint_step hB ?_
      | refine fbool_tt hB ?_
      | refine fbool_ff hB ?_
      | refine fbool_split hB (fun _ => ?_) (fun _ => ?_)
      | refine ftok_step hB ?_
      | refine frows_step hB ?_
      | refine fstr_step hB ?_
      | refine len_map hB ?_
      | refine len_step hB ?_
      | refine lens_step hB ?_
      | refine byte_step hB ?_
      | refine drop_step hB rfl ?_
      | refine fl_step hB rfl ?_
      | refine add_one hB (by first | omega | decide) ?_
      | refine opt_step hB rfl ?_
      | refine fnat_step hB ?_
      | refine ifk_step hB rfl ?_
      | refine ifk_step hB (flat_or rfl) ?_
      | refine opt2_step hB rfl ?_
      | refine obj_raw hB ?_
      | refine sob_raw hB ?_
      | refine fst_raw hB ?_
      | refine optl_raw hB ?_
      | refine tok_step hB rfl ?_
      ) <;> conv => lhs; whnf)
    all_goals simp [fewR, List.range, List.range.loop, *]
end Go.Ab.Cl
