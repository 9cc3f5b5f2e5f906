/-
  The claims, the specification: what all truths tell of a box.
-/
import Derived.Test.YthbekoofiienjaaDoorClJe
import Derived.Test.YthbekoofiienjaaDoorClZ
namespace Go.Ab.Cl
open Go.Ab

theorem nats_rep (n : Nat) : cellsI (List.replicate n 0) = (List.replicate n [AV.int .i64 0]).flatten := by
  induction n with
  | zero => rfl
  | succ n ih =>
    rw [List.replicate_succ, List.replicate_succ, List.flatten_cons, ← ih]; rfl
theorem mksl_ok {f : Fr} {s : St} {n : Nat} (hn : n ≤ 1000) : mkslAt (f :: s) [.int .i64 0] 8 (.int .i64 (.ofNat n)) (.int .i64 (.ofNat n)) = some (.os s.length f.objs.length 0 n 1, ⟨f.objs ++ [.cells (cellsI (List.replicate n 0))], f.toks⟩ :: s) := by
  obtain ⟨o, t⟩ := f
  have h1 : (0 : Int) ≤ (Int.ofNat n) := by simp
  have h2 : (Int.ofNat n) * ((8 : Nat) : Int) ≤ 140737488355328 := by simp only [Int.ofNat_eq_natCast]; omega
  show (if (IntKind.i64 = IntKind.i64 ∧ IntKind.i64 = IntKind.i64 ∧ 0 ≤ (Int.ofNat n) ∧ (Int.ofNat n) = (Int.ofNat n) ∧ (Int.ofNat n) * ((8 : Nat) : Int) ≤ 140737488355328) then (newObj (⟨o, t⟩ :: s) (.cells (List.replicate (Int.ofNat n).toNat [AV.int .i64 0]).flatten)).map (fun (l, i, s) => (AV.os l i 0 (Int.ofNat n).toNat 1, s)) else none) = _
  rw [if_pos ⟨rfl, rfl, h1, rfl, h2⟩, nats_rep]
  simp [newObj]

theorem frz_own2 {s : St} {D : Nat} (hD : D = s.length) {o : List AObj} {l : List Nat} (ho : getO o 2 = some (.cells (cellsI l))) (hl : l.length ≤ 100) {nn : Nat} (hn : nn = l.length) (a b c e f : Int) :
    frz (⟨o, []⟩ :: s) D 1000 (.agg [.int .i64 a, .os D 2 0 nn 1, .int .i64 b, .int .i64 c, .int .i64 e, .int .i64 f]) = some (.agg [.int .i64 a, .sl (rowsI (nats l)) .any, .int .i64 b, .int .i64 c, .int .i64 e, .int .i64 f]) := by
  have h := frz_own hD ho hl hn 996 (by omega)
  show ((some (AV.int .i64 a)).bind fun v' => ((frz (⟨o, []⟩ :: s) D (996 + 1) (.os D 2 0 nn 1)).bind fun v' => (some [AV.int .i64 b, .int .i64 c, .int .i64 e, .int .i64 f]).map (v' :: ·)).map (v' :: ·)).map AV.agg = _
  rw [h]
  rfl
/-- What seen returns. -/
def Desk.seen (d : Desk) : AV := .agg ((seenV d).c (.sl (rowsI (nats (seenV d).is)) (wt (seenV d).is)))
theorem seen_ev {n : Nat} (hn : 1000000000000300 ≤ n) (d : Desk) (hd : d.ok) (hc : d.check = true) : (evKR Bk Gx fsT n).1 0 73 [d.v] [] ansK = some (d.seen, []) := by
  refine call_open (show fsT.find 73 = some a73 from rfl) (by omega) fun n' B cl rd hn' hB hcl hrd => ?_
  have hnb := (check_fine hc).nb
  have hcb : cnt d.bs.length ≤ 1000000 := by
    have : ∀ k : Fin 7, cnt k.val ≤ 1000000 := by decide
    exact this ⟨d.bs.length, by omega⟩
  have HW := walk_ev hd hc d.bs.length (n := n') (by omega) (pre := []) (t := 0) 0 ⟨by simp, by simp, by simp, by decide, by simp⟩ (tells_none d) (by omega) (by omega) (by omega)
  rw [← hcl] at HW
  have hlr : (List.replicate d.bs.length 0).length = d.bs.length := List.length_replicate
  conv => lhs; whnf
  repeat' ((first
    | refine fnat_pred hB ?_
    | refine tok_step hB hd.tp ?_
    | refine tok_step hB hd.tb ?_
    | refine len_map hB ?_
    | refine opt2_step hB (mksl_ok (by omega)) ?_
    | refine purs_step hB rfl ?_
    | refine lt_tt hB (by decide) ?_
    | refine lt_ff hB (by decide) ?_
    | refine le_tt hB (by decide) ?_
    | refine le_ff hB (by decide) ?_
    | refine eq_tt hB (by decide) ?_
    | refine eq_ff hB (by decide) ?_
    | refine fint_wrp hB (by omega) (by omega) ?_
    | refine fint_step hB ?_
    | refine fbool_tt hB ?_
    | refine fbool_ff hB ?_
    | refine fbool_split hB (fun _ => ?_) (fun _ => ?_)
    | refine ftok_step hB ?_
    | refine frows_step hB ?_
    | refine fstr_step hB ?_
    | refine len_map hB ?_
    | refine len_step hB ?_
    | refine lens_step hB ?_
    | refine byte_step hB ?_
    | refine drop_step hB rfl ?_
    | refine fl_step hB rfl ?_
    | refine add_one hB (by first | omega | decide) ?_
    | refine opt_step hB rfl ?_
    | refine fnat_step hB ?_
    | refine ifk_step hB rfl ?_
    | refine ifk_step hB (flat_or rfl) ?_
    | refine opt2_step hB rfl ?_
    | refine obj_raw hB ?_
    | refine sob_raw hB ?_
    | refine fst_raw hB ?_
    | refine optl_raw hB ?_
    | refine tok_step hB rfl ?_
    ) <;> conv => lhs; whnf)
  refine HW [⟨[.cells d.c, .cells [.int .i64 0, .sl [] .nil, .int .i64 0, .int .i64 0, .int .i64 0, .int .i64 0], .cells (cellsI (List.replicate d.bs.length 0))], []⟩] rfl (v := .os 0 2 0 d.bs.length 1) (.inr ⟨0, 2, by rw [hlr], by simp, rfl⟩) (tp := .nil) rfl rfl _ _ (fun v' hv' => ?_)
  have hsn : walkV d d.bs.length [] 0 0 ⟨0, List.replicate d.bs.length 0, 0, 0, 0, 0⟩ = seenV d := rfl
  rw [hsn] at hv' ⊢
  rcases hv' with rfl | ⟨rfl, e, hne⟩
  · conv => lhs; whnf
    repeat' ((first
      | refine tok_step hB (wt_pur _) ?_
      | refine purs_step hB rfl ?_
      | refine lt_tt hB (by decide) ?_
      | refine lt_ff hB (by decide) ?_
      | refine le_tt hB (by decide) ?_
      | refine le_ff hB (by decide) ?_
      | refine eq_tt hB (by decide) ?_
      | refine eq_ff hB (by decide) ?_
      | refine fint_wrp hB (by omega) (by omega) ?_
      | refine fint_step hB ?_
      | refine fbool_tt hB ?_
      | refine fbool_ff hB ?_
      | refine fbool_split hB (fun _ => ?_) (fun _ => ?_)
      | refine ftok_step hB ?_
      | refine frows_step hB ?_
      | refine fstr_step hB ?_
      | refine len_map hB ?_
      | refine len_step hB ?_
      | refine lens_step hB ?_
      | refine byte_step hB ?_
      | refine drop_step hB rfl ?_
      | refine fl_step hB rfl ?_
      | refine add_one hB (by first | omega | decide) ?_
      | refine opt_step hB rfl ?_
      | refine fnat_step hB ?_
      | refine ifk_step hB rfl ?_
      | refine ifk_step hB (flat_or rfl) ?_
      | refine opt2_step hB rfl ?_
      | refine obj_raw hB ?_
      | refine sob_raw hB ?_
      | refine fst_raw hB ?_
      | refine optl_raw hB ?_
      | refine tok_step hB rfl ?_
      ) <;> conv => lhs; whnf)
    all_goals rfl
  · conv => lhs; whnf
    repeat' ((first
      | refine fnat_pred hB ?_
      | refine opt_step hB (frz_own2 rfl (l := List.replicate d.bs.length 0) rfl (by omega) hlr.symm _ _ _ _ _) ?_
      | refine purs_step hB rfl ?_
      | refine lt_tt hB (by decide) ?_
      | refine lt_ff hB (by decide) ?_
      | refine le_tt hB (by decide) ?_
      | refine le_ff hB (by decide) ?_
      | refine eq_tt hB (by decide) ?_
      | refine eq_ff hB (by decide) ?_
      | refine fint_wrp hB (by omega) (by omega) ?_
      | refine fint_step hB ?_
      | refine fbool_tt hB ?_
      | refine fbool_ff hB ?_
      | refine fbool_split hB (fun _ => ?_) (fun _ => ?_)
      | refine ftok_step hB ?_
      | refine frows_step hB ?_
      | refine fstr_step hB ?_
      | refine len_map hB ?_
      | refine len_step hB ?_
      | refine lens_step hB ?_
      | refine byte_step hB ?_
      | refine drop_step hB rfl ?_
      | refine fl_step hB rfl ?_
      | refine add_one hB (by first | omega | decide) ?_
      | refine opt_step hB rfl ?_
      | refine fnat_step hB ?_
      | refine ifk_step hB rfl ?_
      | refine ifk_step hB (flat_or rfl) ?_
      | refine opt2_step hB rfl ?_
      | refine obj_raw hB ?_
      | refine sob_raw hB ?_
      | refine fst_raw hB ?_
      | refine optl_raw hB ?_
      | refine tok_step hB rfl ?_
      ) <;> conv => lhs; whnf)
    have e : (seenV d).is = List.replicate d.bs.length 0 := e
    unfold Desk.seen
    rw [wt_ne (by rw [e]; exact hne), e]
    rfl

theorem nats_get {l : List Nat} {i : Nat} (h : i < l.length) : (rowsI (nats l))[i]? = some [.int .i64 ((l[i]?.getD 0 : Nat) : Int)] := by
  simp [rowsI, nats, h]
def otok (l : List Int) : Tok := if l.isEmpty = true then .nil else .any
theorem otok_pur (l : List Int) : purTok (otok l) = true := by unfold otok; split <;> rfl
theorem seen_lt {d : Desk} (hc : d.check = true) (b : Nat) : (seenV d).is[b]?.getD 0 < 512 := by
  by_cases h : b < (seenV d).is.length
  · rw [List.getElem?_eq_getElem h, Option.getD_some]
    exact (seen_tells hc).lt.2.2 _ (List.getElem_mem _)
  · rw [List.getElem?_eq_none (by omega)]; decide
theorem WhichF_ev {n : Nat} (hn : 1000000000000400 ≤ n) (d : Desk) (hd : d.ok) (z : Int) : (evKR Bk Gx fsT n).1 0 23 [d.v, .int .i64 z] [] ansK = some (.tup [.sl (rowsI (whichL d z)) (otok (whichL d z)), .int .i64 (whichE d z)], []) := by
  refine call_open (show fsT.find 23 = some a23 from rfl) (by omega) fun n' B cl rd hn' hB hcl hrd => ?_
  have hbs := hd.bs
  have H38 := Tween_ev (G := Gx) (n := n') (by omega) z 0 ((d.bs.length : Int) - 1)
  have H69 := told_ev (n := n') (by omega) d hd (within z 0 ((d.bs.length : Int) - 1))
  have H69 : (evKR Bk Gx fsT n').1 0 69 [d.v, .bool (within z 0 ((d.bs.length : Int) - 1))] [] ansK = some (.int .i64 (whichE d z), []) := H69
  rw [← hcl] at H38 H69
  by_cases he : whichE d z = 0
  · obtain ⟨hc, ht, h0, h1⟩ := which_ok he
    obtain ⟨b, rfl⟩ : ∃ b : Nat, z = (b : Int) := ⟨z.toNat, by omega⟩
    have hb : b < d.bs.length := by omega
    have hL : whichL d (b : Int) = whichFrom d (b : Int) 0 := by simp [whichL, he]
    have H73 := seen_ev (n := n') (by omega) d hd hc
    have H72 := Of_ev (n := n') (by omega) ((seenV d).is[b]?.getD 0) d.ps.length (seen_lt hc b) (check_fine hc).np rfl (zP := .ofNat d.ps.length) rfl
    rw [which_of hc hb] at H72
    rw [← hcl] at H73 H72
    rw [he] at H69
    rw [hL, he]
    conv => lhs; whnf
    repeat' ((first
      | refine fnat_pred hB ?_
      | refine tok_step hB hd.tp ?_
      | refine tok_step hB hd.tb ?_
      | refine tok_step hB (wt_pur _) ?_
      | refine tok_step hB (otok_pur (whichFrom d (b : Int) 0)) ?_
      | refine purs_step hB (by simp [purs, pur, hd.tp, hd.tb]) ?_
      | refine sub_step hB (by simp only [Int.ofNat_eq_natCast]; omega) (by simp only [Int.ofNat_eq_natCast]; omega) ?_
      | refine pans_step hB H38 ?_
      | refine pans_step hB H69 ?_
      | refine pans_step hB H73 ?_
      | refine natOf_step hB (m := b) rfl ?_
      | refine nth_step hB (nats_get (by rw [(seen_tells hc).len]; exact hb)) ?_
      | refine pans_step hB H72 ?_
      | refine purs_step hB rfl ?_
      | refine lt_tt hB (by decide) ?_
      | refine lt_ff hB (by decide) ?_
      | refine le_tt hB (by decide) ?_
      | refine le_ff hB (by decide) ?_
      | refine eq_tt hB (by decide) ?_
      | refine eq_ff hB (by decide) ?_
      | refine fint_wrp hB (by omega) (by omega) ?_
      | refine fint_step hB ?_
      | refine fbool_tt hB ?_
      | refine fbool_ff hB ?_
      | refine fbool_split hB (fun _ => ?_) (fun _ => ?_)
      | refine ftok_step hB ?_
      | refine frows_step hB ?_
      | refine fstr_step hB ?_
      | refine len_map hB ?_
      | refine len_step hB ?_
      | refine lens_step hB ?_
      | refine byte_step hB ?_
      | refine drop_step hB rfl ?_
      | refine fl_step hB rfl ?_
      | refine add_one hB (by first | omega | decide) ?_
      | refine opt_step hB rfl ?_
      | refine fnat_step hB ?_
      | refine ifk_step hB rfl ?_
      | refine ifk_step hB (flat_or rfl) ?_
      | refine opt2_step hB rfl ?_
      | refine obj_raw hB ?_
      | refine sob_raw hB ?_
      | refine fst_raw hB ?_
      | refine optl_raw hB ?_
      | refine tok_step hB rfl ?_
      ) <;> conv => lhs; whnf)
    all_goals rfl
  · have hL : whichL d z = [] := by simp [whichL, he]
    rw [hL]
    conv => lhs; whnf
    repeat' ((first
      | refine fnat_pred hB ?_
      | refine tok_step hB hd.tp ?_
      | refine tok_step hB hd.tb ?_
      | refine purs_step hB (by simp [purs, pur, hd.tp, hd.tb]) ?_
      | refine sub_step hB (by simp only [Int.ofNat_eq_natCast]; omega) (by simp only [Int.ofNat_eq_natCast]; omega) ?_
      | refine pans_step hB H38 ?_
      | refine pans_step hB H69 ?_
      | refine eq_ff hB he ?_
      | refine purs_step hB rfl ?_
      | refine lt_tt hB (by decide) ?_
      | refine lt_ff hB (by decide) ?_
      | refine le_tt hB (by decide) ?_
      | refine le_ff hB (by decide) ?_
      | refine eq_tt hB (by decide) ?_
      | refine eq_ff hB (by decide) ?_
      | refine fint_wrp hB (by omega) (by omega) ?_
      | refine fint_step hB ?_
      | refine fbool_tt hB ?_
      | refine fbool_ff hB ?_
      | refine fbool_split hB (fun _ => ?_) (fun _ => ?_)
      | refine ftok_step hB ?_
      | refine frows_step hB ?_
      | refine fstr_step hB ?_
      | refine len_map hB ?_
      | refine len_step hB ?_
      | refine lens_step hB ?_
      | refine byte_step hB ?_
      | refine drop_step hB rfl ?_
      | refine fl_step hB rfl ?_
      | refine add_one hB (by first | omega | decide) ?_
      | refine opt_step hB rfl ?_
      | refine fnat_step hB ?_
      | refine ifk_step hB rfl ?_
      | refine ifk_step hB (flat_or rfl) ?_
      | refine opt2_step hB rfl ?_
      | refine obj_raw hB ?_
      | refine sob_raw hB ?_
      | refine fst_raw hB ?_
      | refine optl_raw hB ?_
      | refine tok_step hB rfl ?_
      ) <;> conv => lhs; whnf)
    all_goals rfl
end Go.Ab.Cl
