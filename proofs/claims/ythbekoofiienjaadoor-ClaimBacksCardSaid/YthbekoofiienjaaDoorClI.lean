/-
  The claims, the specification: what all truths tell of a box.
-/
import Derived.Test.YthbekoofiienjaaDoorClJg
import Derived.Test.YthbekoofiienjaaDoorClJf
import Derived.Test.YthbekoofiienjaaDoorClZ
import Derived.Test.YthbekoofiienjaaDoorClS
namespace Go.Ab.Cl
open Go.Ab

theorem nats_rep (n : Nat) : cellsI (List.replicate n 0) = (List.replicate n [AV.int .i64 0]).flatten := by
  induction n with
  | zero => rfl
  | succ n ih =>
    rw [List.replicate_succ, List.replicate_succ, List.flatten_cons, ← ih]; rfl
theorem mksl_ok {f : Fr} {s : St} {n : Nat} (hn : n ≤ 1000) : mkslAt (f :: s) [.int .i64 0] 8 (.int .i64 (.ofNat n)) (.int .i64 (.ofNat n)) = some (.os s.length f.objs.length 0 n 1, ⟨f.objs ++ [.cells (cellsI (List.replicate n 0))], f.toks⟩ :: s) := by
  obtain ⟨o, t⟩ := f
  have h1 : (0 : Int) ≤ (Int.ofNat n) := by simp
  have h2 : (Int.ofNat n) * ((8 : Nat) : Int) ≤ 140737488355328 := by simp only [Int.ofNat_eq_natCast]; omega
  show (if (IntKind.i64 = IntKind.i64 ∧ IntKind.i64 = IntKind.i64 ∧ 0 ≤ (Int.ofNat n) ∧ (Int.ofNat n) = (Int.ofNat n) ∧ (Int.ofNat n) * ((8 : Nat) : Int) ≤ 140737488355328) then (newObj (⟨o, t⟩ :: s) (.cells (List.replicate (Int.ofNat n).toNat [AV.int .i64 0]).flatten)).map (fun (l, i, s) => (AV.os l i 0 (Int.ofNat n).toNat 1, s)) else none) = _
  rw [if_pos ⟨rfl, rfl, h1, rfl, h2⟩, nats_rep]
  simp [newObj]

theorem frz_own2 {s : St} {D : Nat} (hD : D = s.length) {o : List AObj} {l : List Nat} (ho : getO o 2 = some (.cells (cellsI l))) (hl : l.length ≤ 100) {nn : Nat} (hn : nn = l.length) (a b c e f : Int) :
    frz (⟨o, []⟩ :: s) D 1000 (.agg [.int .i64 a, .os D 2 0 nn 1, .int .i64 b, .int .i64 c, .int .i64 e, .int .i64 f]) = some (.agg [.int .i64 a, .sl (rowsI (nats l)) .any, .int .i64 b, .int .i64 c, .int .i64 e, .int .i64 f]) := by
  have h := frz_own hD ho hl hn 996 (by omega)
  show ((some (AV.int .i64 a)).bind fun v' => ((frz (⟨o, []⟩ :: s) D (996 + 1) (.os D 2 0 nn 1)).bind fun v' => (some [AV.int .i64 b, .int .i64 c, .int .i64 e, .int .i64 f]).map (v' :: ·)).map (v' :: ·)).map AV.agg = _
  rw [h]
  rfl
/-- What seen returns. -/
def Desk.seen (d : Desk) : AV := .agg ((seenV d).c (.sl (rowsI (nats (seenV d).is)) (wt (seenV d).is)))
theorem seen_ev {n : Nat} (hn : 1000000000000300 ≤ n) (d : Desk) (hd : d.ok) (hc : d.check = true) : (evKR Bk Gx fsT n).1 0 73 [d.v] [] ansK = some (d.seen, []) := by
  refine call_open (show fsT.find 73 = some a73 from rfl) (by omega) fun n' B cl rd hn' hB hcl hrd => ?_
  have hnb := (check_fine hc).nb
  have hcb : cnt d.bs.length ≤ 1000000 := by
    have : ∀ k : Fin 7, cnt k.val ≤ 1000000 := by decide
    exact this ⟨d.bs.length, by omega⟩
  have HW := walk_ev hd hc d.bs.length (n := n') (by omega) (pre := []) (t := 0) 0 ⟨by simp, by simp, by simp, by decide, by simp⟩ (tells_none d) (by omega) (by omega) (by omega)
  rw [← hcl] at HW
  have hlr : (List.replicate d.bs.length 0).length = d.bs.length := List.length_replicate
  conv => lhs; whnf
  repeat' ((first | refine fnat_pred hB ?_ | refine tok_step hB hd.tp ?_ | refine tok_step hB hd.tb ?_ | refine len_map hB ?_ | refine opt2_step hB (mksl_ok (by omega)) ?_ | refine purs_step hB rfl ?_ | refine lt_tt hB (by decide) ?_ | refine lt_ff hB (by decide) ?_ | refine le_tt hB (by decide) ?_ | refine le_ff hB (by decide) ?_ | refine eq_tt hB (by decide) ?_ | refine eq_ff hB (by decide) ?_ | refine fint_wrp hB (by omega) (by omega) ?_ | refine fint_step hB ?_ | refine fbool_tt hB ?_ | refine fbool_ff hB ?_ | refine fbool_split hB (fun _ => ?_) (fun _ => ?_) | refine ftok_step hB ?_ | refine frows_step hB ?_ | refine fstr_step hB ?_ | refine len_map hB ?_ | refine len_step hB ?_ | refine lens_step hB ?_ | refine byte_step hB ?_ | refine drop_step hB rfl ?_ | refine fl_step hB rfl ?_ | refine add_one hB (by first | omega | decide) ?_ | refine opt_step hB rfl ?_ | refine fnat_step hB ?_ | refine ifk_step hB rfl ?_ | refine ifk_step hB (flat_or rfl) ?_ | refine opt2_step hB rfl ?_ | refine obj_raw hB ?_ | refine sob_raw hB ?_ | refine fst_raw hB ?_ | refine optl_raw hB ?_ | refine tok_step hB rfl ?_) <;> conv => lhs; whnf)
  refine HW [⟨[.cells d.c, .cells [.int .i64 0, .sl [] .nil, .int .i64 0, .int .i64 0, .int .i64 0, .int .i64 0], .cells (cellsI (List.replicate d.bs.length 0))], []⟩] rfl (v := .os 0 2 0 d.bs.length 1) (.inr ⟨0, 2, by rw [hlr], by simp, rfl⟩) (tp := .nil) rfl rfl _ _ (fun v' hv' => ?_)
  have hsn : walkV d d.bs.length [] 0 0 ⟨0, List.replicate d.bs.length 0, 0, 0, 0, 0⟩ = seenV d := rfl
  rw [hsn] at hv' ⊢
  rcases hv' with rfl | ⟨rfl, e, hne⟩
  · conv => lhs; whnf
    repeat' ((first | refine tok_step hB (wt_pur _) ?_ | refine purs_step hB rfl ?_ | refine lt_tt hB (by decide) ?_ | refine lt_ff hB (by decide) ?_ | refine le_tt hB (by decide) ?_ | refine le_ff hB (by decide) ?_ | refine eq_tt hB (by decide) ?_ | refine eq_ff hB (by decide) ?_ | refine fint_wrp hB (by omega) (by omega) ?_ | refine fint_step hB ?_ | refine fbool_tt hB ?_ | refine fbool_ff hB ?_ | refine fbool_split hB (fun _ => ?_) (fun _ => ?_) | refine ftok_step hB ?_ | refine frows_step hB ?_ | refine fstr_step hB ?_ | refine len_map hB ?_ | refine len_step hB ?_ | refine lens_step hB ?_ | refine byte_step hB ?_ | refine drop_step hB rfl ?_ | refine fl_step hB rfl ?_ | refine add_one hB (by first | omega | decide) ?_ | refine opt_step hB rfl ?_ | refine fnat_step hB ?_ | refine ifk_step hB rfl ?_ | refine ifk_step hB (flat_or rfl) ?_ | refine opt2_step hB rfl ?_ | refine obj_raw hB ?_ | refine sob_raw hB ?_ | refine fst_raw hB ?_ | refine optl_raw hB ?_ | refine tok_step hB rfl ?_) <;> conv => lhs; whnf)
    all_goals rfl
  · conv => lhs; whnf
    repeat' ((first | refine fnat_pred hB ?_ | refine opt_step hB (frz_own2 rfl (l := List.replicate d.bs.length 0) rfl (by omega) hlr.symm _ _ _ _ _) ?_ | refine purs_step hB rfl ?_ | refine lt_tt hB (by decide) ?_ | refine lt_ff hB (by decide) ?_ | refine le_tt hB (by decide) ?_ | refine le_ff hB (by decide) ?_ | refine eq_tt hB (by decide) ?_ | refine eq_ff hB (by decide) ?_ | refine fint_wrp hB (by omega) (by omega) ?_ | refine fint_step hB ?_ | refine fbool_tt hB ?_ | refine fbool_ff hB ?_ | refine fbool_split hB (fun _ => ?_) (fun _ => ?_) | refine ftok_step hB ?_ | refine frows_step hB ?_ | refine fstr_step hB ?_ | refine len_map hB ?_ | refine len_step hB ?_ | refine lens_step hB ?_ | refine byte_step hB ?_ | refine drop_step hB rfl ?_ | refine fl_step hB rfl ?_ | refine add_one hB (by first | omega | decide) ?_ | refine opt_step hB rfl ?_ | refine fnat_step hB ?_ | refine ifk_step hB rfl ?_ | refine ifk_step hB (flat_or rfl) ?_ | refine opt2_step hB rfl ?_ | refine obj_raw hB ?_ | refine sob_raw hB ?_ | refine fst_raw hB ?_ | refine optl_raw hB ?_ | refine tok_step hB rfl ?_) <;> conv => lhs; whnf)
    have e : (seenV d).is = List.replicate d.bs.length 0 := e
    unfold Desk.seen
    rw [wt_ne (by rw [e]; exact hne), e]
    rfl

theorem nats_get {l : List Nat} {i : Nat} (h : i < l.length) : (rowsI (nats l))[i]? = some [.int .i64 ((l[i]?.getD 0 : Nat) : Int)] := by
  simp [rowsI, nats, h]
def otok (l : List Int) : Tok := if l.isEmpty = true then .nil else .any
theorem otok_pur (l : List Int) : purTok (otok l) = true := by unfold otok; split <;> rfl
theorem seen_lt {d : Desk} (hc : d.check = true) (b : Nat) : (seenV d).is[b]?.getD 0 < 512 := by
  by_cases h : b < (seenV d).is.length
  · rw [List.getElem?_eq_getElem h, Option.getD_some]
    exact (seen_tells hc).lt.2.2 _ (List.getElem_mem _)
  · rw [List.getElem?_eq_none (by omega)]; decide
theorem WhichF_ev {n : Nat} (hn : 1000000000000400 ≤ n) (d : Desk) (hd : d.ok) (z : Int) : (evKR Bk Gx fsT n).1 0 23 [d.v, .int .i64 z] [] ansK = some (.tup [.sl (rowsI (whichL d z)) (otok (whichL d z)), .int .i64 (whichE d z)], []) := by
  refine call_open (show fsT.find 23 = some a23 from rfl) (by omega) fun n' B cl rd hn' hB hcl hrd => ?_
  have hbs := hd.bs
  have H38 := Tween_ev (G := Gx) (n := n') (by omega) z 0 ((d.bs.length : Int) - 1)
  have H69 := told_ev (n := n') (by omega) d hd (within z 0 ((d.bs.length : Int) - 1))
  have H69 : (evKR Bk Gx fsT n').1 0 69 [d.v, .bool (within z 0 ((d.bs.length : Int) - 1))] [] ansK = some (.int .i64 (whichE d z), []) := H69
  rw [← hcl] at H38 H69
  by_cases he : whichE d z = 0
  · obtain ⟨hc, ht, h0, h1⟩ := which_ok he
    obtain ⟨b, rfl⟩ : ∃ b : Nat, z = (b : Int) := ⟨z.toNat, by omega⟩
    have hb : b < d.bs.length := by omega
    have hL : whichL d (b : Int) = whichFrom d (b : Int) 0 := by simp [whichL, he]
    have H73 := seen_ev (n := n') (by omega) d hd hc
    have H72 := Of_ev (n := n') (by omega) ((seenV d).is[b]?.getD 0) d.ps.length (seen_lt hc b) (check_fine hc).np rfl (zP := .ofNat d.ps.length) rfl
    rw [which_of hc hb] at H72
    rw [← hcl] at H73 H72
    rw [he] at H69
    rw [hL, he]
    conv => lhs; whnf
    repeat' ((first | refine fnat_pred hB ?_ | refine tok_step hB hd.tp ?_ | refine tok_step hB hd.tb ?_ | refine tok_step hB (wt_pur _) ?_ | refine tok_step hB (otok_pur (whichFrom d (b : Int) 0)) ?_ | refine purs_step hB (by simp [purs, pur, hd.tp, hd.tb]) ?_ | refine sub_step hB (by simp only [Int.ofNat_eq_natCast]; omega) (by simp only [Int.ofNat_eq_natCast]; omega) ?_ | refine pans_step hB H38 ?_ | refine pans_step hB H69 ?_ | refine pans_step hB H73 ?_ | refine natOf_step hB (m := b) rfl ?_ | refine nth_step hB (nats_get (by rw [(seen_tells hc).len]; exact hb)) ?_ | refine pans_step hB H72 ?_ | refine purs_step hB rfl ?_ | refine lt_tt hB (by decide) ?_ | refine lt_ff hB (by decide) ?_ | refine le_tt hB (by decide) ?_ | refine le_ff hB (by decide) ?_ | refine eq_tt hB (by decide) ?_ | refine eq_ff hB (by decide) ?_ | refine fint_wrp hB (by omega) (by omega) ?_ | refine fint_step hB ?_ | refine fbool_tt hB ?_ | refine fbool_ff hB ?_ | refine fbool_split hB (fun _ => ?_) (fun _ => ?_) | refine ftok_step hB ?_ | refine frows_step hB ?_ | refine fstr_step hB ?_ | refine len_map hB ?_ | refine len_step hB ?_ | refine lens_step hB ?_ | refine byte_step hB ?_ | refine drop_step hB rfl ?_ | refine fl_step hB rfl ?_ | refine add_one hB (by first | omega | decide) ?_ | refine opt_step hB rfl ?_ | refine fnat_step hB ?_ | refine ifk_step hB rfl ?_ | refine ifk_step hB (flat_or rfl) ?_ | refine opt2_step hB rfl ?_ | refine obj_raw hB ?_ | refine sob_raw hB ?_ | refine fst_raw hB ?_ | refine optl_raw hB ?_ | refine tok_step hB rfl ?_) <;> conv => lhs; whnf)
    all_goals rfl
  · have hL : whichL d z = [] := by simp [whichL, he]
    rw [hL]
    conv => lhs; whnf
    repeat' ((first | refine fnat_pred hB ?_ | refine tok_step hB hd.tp ?_ | refine tok_step hB hd.tb ?_ | refine purs_step hB (by simp [purs, pur, hd.tp, hd.tb]) ?_ | refine sub_step hB (by simp only [Int.ofNat_eq_natCast]; omega) (by simp only [Int.ofNat_eq_natCast]; omega) ?_ | refine pans_step hB H38 ?_ | refine pans_step hB H69 ?_ | refine eq_ff hB he ?_ | refine purs_step hB rfl ?_ | refine lt_tt hB (by decide) ?_ | refine lt_ff hB (by decide) ?_ | refine le_tt hB (by decide) ?_ | refine le_ff hB (by decide) ?_ | refine eq_tt hB (by decide) ?_ | refine eq_ff hB (by decide) ?_ | refine fint_wrp hB (by omega) (by omega) ?_ | refine fint_step hB ?_ | refine fbool_tt hB ?_ | refine fbool_ff hB ?_ | refine fbool_split hB (fun _ => ?_) (fun _ => ?_) | refine ftok_step hB ?_ | refine frows_step hB ?_ | refine fstr_step hB ?_ | refine len_map hB ?_ | refine len_step hB ?_ | refine lens_step hB ?_ | refine byte_step hB ?_ | refine drop_step hB rfl ?_ | refine fl_step hB rfl ?_ | refine add_one hB (by first | omega | decide) ?_ | refine opt_step hB rfl ?_ | refine fnat_step hB ?_ | refine ifk_step hB rfl ?_ | refine ifk_step hB (flat_or rfl) ?_ | refine opt2_step hB rfl ?_ | refine obj_raw hB ?_ | refine sob_raw hB ?_ | refine fst_raw hB ?_ | refine optl_raw hB ?_ | refine tok_step hB rfl ?_) <;> conv => lhs; whnf)
    all_goals rfl
end Go.Ab.Cl

namespace Go.Ab.Cl
open Go.Ab

theorem app_nil {h : Nat} {s : St} {p e bytes : Nat} {ys : List (List AV)} {t2 : Tok} (hy : ys ≠ []) (hys : ∀ x ∈ ys, x.length = e) (he : 0 < e) (hb : ys.length * bytes ≤ 140737488355328) (hp : ∀ x ∈ ys, purs x = true) :
    appAt h s p e bytes (.sl [] .nil) (.sl ys t2) = some (.sl ys (.site h p ((getTok s h p).1 + 1)), setTok s h p ((getTok s h p).1 + 1, ys.length)) := by
  have h2 : headFit e ys = true := by cases ys with | nil => rfl | cons a r => simp [headFit, hys a (by simp)]
  simp [appAt, rowsAt, hy, h2, he, hb, show headFit e [] = true from rfl]
  intro x hx; exact hp x hx
def oneN (p : Nat) (a : List (List AV)) : Tok := if a = [] then .nil else .site 0 p 1
def twoN (p q : Nat) (a b : List (List AV)) : Tok := if b = [] then oneN p a else if a = [] then .site 0 q 1 else .site 0 p 1
theorem joinN_one {os : List AObj} {T : List (Nat × Nat × Nat)} {p e bytes : Nat} {a : List (List AV)} {t2 : Tok} (hp : tokGet T p = (0, 0)) (ha : ∀ x ∈ a, x.length = e) (he : 0 < e) (hb : a.length * bytes ≤ 140737488355328) (hu : ∀ x ∈ a, purs x = true) :
    appAt 0 [⟨os, T⟩] p e bytes (.sl [] .nil) (.sl a t2) = some (.sl a (oneN p a), [⟨os, oneS T p a⟩]) := by
  unfold oneN oneS
  by_cases h : a = []
  · subst h; rw [app_none]; rfl
  · rw [app_nil h ha he hb hu, get_tok, set_tok, hp, if_neg h, if_neg h]
theorem joinN_two {os : List AObj} {T : List (Nat × Nat × Nat)} {p q e bytes : Nat} {a b : List (List AV)} {t2 : Tok} (hq : tokGet T q = (0, 0)) (ha : ∀ x ∈ a, x.length = e) (hb : ∀ x ∈ b, x.length = e) (he : 0 < e) (hl : (a.length + b.length) * bytes ≤ 140737488355328) (hu : ∀ x ∈ b, purs x = true) :
    appAt 0 [⟨os, oneS T p a⟩] q e bytes (.sl a (oneN p a)) (.sl b t2) = some (.sl (a ++ b) (twoN p q a b), [⟨os, twoS T p q a b⟩]) := by
  unfold twoN twoS
  by_cases h : b = []
  · subst h; rw [app_none]; simp
  · rw [if_neg h, if_neg h]
    unfold oneN oneS
    by_cases h2 : a = []
    · subst h2
      simp only [if_true]
      rw [app_nil h hb he (by simpa using hl) hu, get_tok, set_tok, hq]
      simp
    · rw [if_neg h2, if_neg h2, if_neg h2, if_neg h2]
      rw [app_site (by rw [get_tok, tok_set, if_pos rfl]) h ha hb he hl hu, set_tok]
theorem without_ev {n : Nat} (hn : 2 ≤ n) (d : Desk) (hd : d.ok) (h8 : d.ps.length ≤ 8) (k : Nat) (hk : k < d.ps.length) {zk : Int} (hzk : zk = (k : Int)) :
    ∃ tp, purTok tp = true ∧ (evKR Bk Gx fsT n).1 0 74 [d.v, .int .i64 zk] [] ansK = some ((lessP d k tp).v, []) := by
  obtain ⟨t1, ht1⟩ := slice_to (e := 4) (r := d.ps.map Parcel.c) (t := d.tp) hzk (by simp; omega) parcel_len
  obtain ⟨t2, ht2⟩ := slice_from (e := 4) (r := d.ps.map Parcel.c) (t := d.tp) (z := zk + 1) (m := k + 1) (by omega) (by simp; omega) parcel_len
  rw [← List.map_take] at ht1
  rw [← List.map_drop] at ht2
  refine ⟨eraseTok (twoN 10 17 ((d.ps.take k).map Parcel.c) ((d.ps.drop (k + 1)).map Parcel.c)), er_pur _, ?_⟩
  refine call_open (show fsT.find 74 = some a74 from rfl) (by omega) fun n' B cl rd hn' hB hcl hrd => ?_
  conv => lhs; whnf
  repeat' ((first | refine fnat_pred hB ?_ | refine tok_step hB hd.tp ?_ | refine tok_step hB hd.tb ?_ | refine opt_step hB ht1 ?_ | refine opt_step hB ht2 ?_ | refine opt2_step hB (joinN_one (t2 := t1) (T := []) (p := 10) (a := (d.ps.take k).map Parcel.c) rfl parcel_len (by omega) (by simp; omega) parcel_pur) ?_ | refine opt2_step hB (joinN_two (t2 := t2) (T := []) (p := 10) (q := 17) (a := (d.ps.take k).map Parcel.c) (b := (d.ps.drop (k + 1)).map Parcel.c) rfl parcel_len parcel_len (by omega) (by simp; omega) parcel_pur) ?_ | refine add_step hB (by omega) (by omega) ?_ | refine tok_er hB ?_ | refine purs_step hB rfl ?_ | refine lt_tt hB (by decide) ?_ | refine lt_ff hB (by decide) ?_ | refine le_tt hB (by decide) ?_ | refine le_ff hB (by decide) ?_ | refine eq_tt hB (by decide) ?_ | refine eq_ff hB (by decide) ?_ | refine fint_wrp hB (by omega) (by omega) ?_ | refine fint_step hB ?_ | refine fbool_tt hB ?_ | refine fbool_ff hB ?_ | refine fbool_split hB (fun _ => ?_) (fun _ => ?_) | refine ftok_step hB ?_ | refine frows_step hB ?_ | refine fstr_step hB ?_ | refine len_map hB ?_ | refine len_step hB ?_ | refine lens_step hB ?_ | refine byte_step hB ?_ | refine drop_step hB rfl ?_ | refine fl_step hB rfl ?_ | refine add_one hB (by first | omega | decide) ?_ | refine opt_step hB rfl ?_ | refine fnat_step hB ?_ | refine ifk_step hB rfl ?_ | refine ifk_step hB (flat_or rfl) ?_ | refine opt2_step hB rfl ?_ | refine obj_raw hB ?_ | refine sob_raw hB ?_ | refine fst_raw hB ?_ | refine optl_raw hB ?_ | refine tok_step hB rfl ?_) <;> conv => lhs; whnf)
  simp [lessP, Desk.v, Desk.c]

/-! ### the specification's Back and Worth -/
def surelyR (d : Desk) : List Int := if askE d true = 0 then surelyL d else []
def perhapsR (d : Desk) : List Int := if askE d true = 0 then perhapsL d else []
theorem ask_true {d : Desk} (he : askE d true = 0) : d.check = true ∧ trueB d = true := by
  unfold askE at he
  split at he
  · rename_i h1
    rw [if_pos rfl] at he
    split at he
    · exact ⟨h1, by assumption⟩
    · cases he
  · cases he
theorem BackF_ev {n : Nat} (hn : 1000000000000400 ≤ n) (d : Desk) (hd : d.ok) : (evKR Bk Gx fsT n).1 0 28 [d.v] [] ansK = some (.tup [.sl (rowsI (surelyR d)) (otok (surelyR d)), .sl (rowsI (perhapsR d)) (otok (perhapsR d)), .int .i64 (askE d true)], []) := by
  refine call_open (show fsT.find 28 = some a28 from rfl) (by omega) fun n' B cl rd hn' hB hcl hrd => ?_
  have H69 := told_ev (n := n') (by omega) d hd true
  rw [← hcl] at H69
  unfold surelyR perhapsR
  by_cases he : askE d true = 0
  · obtain ⟨hc, ht⟩ := ask_true he
    have hnp := (check_fine hc).np
    obtain ⟨hle, e1, e2⟩ := seen_rest hc ht
    have hlt := (seen_tells hc).lt
    have H73 := seen_ev (n := n') (by omega) d hd hc
    have H72 := Of_ev (n := n') (by omega) (seenV d).all d.ps.length (by omega) hnp rfl (zP := .ofNat d.ps.length) rfl
    have H72b := Of_ev (n := n') (by omega) ((seenV d).some - (seenV d).all) d.ps.length (by omega) hnp (zt := (((seenV d).some : Nat) : Int) - (((seenV d).all : Nat) : Int)) (by omega) (zP := .ofNat d.ps.length) rfl
    rw [e2] at H72
    rw [e1] at H72b
    rw [← hcl] at H73 H72 H72b
    rw [he] at H69
    rw [if_pos he, if_pos he, he]
    conv => lhs; whnf
    repeat' ((first | refine fnat_pred hB ?_ | refine tok_step hB hd.tp ?_ | refine tok_step hB hd.tb ?_ | refine tok_step hB (wt_pur _) ?_ | refine tok_step hB (otok_pur (surelyL d)) ?_ | refine tok_step hB (otok_pur (perhapsL d)) ?_ | refine purs_step hB (by simp [purs, pur, hd.tp, hd.tb]) ?_ | refine sub_step hB (by omega) (by omega) ?_ | refine pans_step hB H69 ?_ | refine pans_step hB H73 ?_ | refine pans_step hB H72 ?_ | refine pans_step hB H72b ?_ | refine purs_step hB rfl ?_ | refine lt_tt hB (by decide) ?_ | refine lt_ff hB (by decide) ?_ | refine le_tt hB (by decide) ?_ | refine le_ff hB (by decide) ?_ | refine eq_tt hB (by decide) ?_ | refine eq_ff hB (by decide) ?_ | refine fint_wrp hB (by omega) (by omega) ?_ | refine fint_step hB ?_ | refine fbool_tt hB ?_ | refine fbool_ff hB ?_ | refine fbool_split hB (fun _ => ?_) (fun _ => ?_) | refine ftok_step hB ?_ | refine frows_step hB ?_ | refine fstr_step hB ?_ | refine len_map hB ?_ | refine len_step hB ?_ | refine lens_step hB ?_ | refine byte_step hB ?_ | refine drop_step hB rfl ?_ | refine fl_step hB rfl ?_ | refine add_one hB (by first | omega | decide) ?_ | refine opt_step hB rfl ?_ | refine fnat_step hB ?_ | refine ifk_step hB rfl ?_ | refine ifk_step hB (flat_or rfl) ?_ | refine opt2_step hB rfl ?_ | refine obj_raw hB ?_ | refine sob_raw hB ?_ | refine fst_raw hB ?_ | refine optl_raw hB ?_ | refine tok_step hB rfl ?_) <;> conv => lhs; whnf)
    all_goals rfl
  · rw [if_neg he, if_neg he]
    conv => lhs; whnf
    repeat' ((first | refine fnat_pred hB ?_ | refine tok_step hB hd.tp ?_ | refine tok_step hB hd.tb ?_ | refine purs_step hB (by simp [purs, pur, hd.tp, hd.tb]) ?_ | refine pans_step hB H69 ?_ | refine eq_ff hB he ?_ | refine purs_step hB rfl ?_ | refine lt_tt hB (by decide) ?_ | refine lt_ff hB (by decide) ?_ | refine le_tt hB (by decide) ?_ | refine le_ff hB (by decide) ?_ | refine eq_tt hB (by decide) ?_ | refine eq_ff hB (by decide) ?_ | refine fint_wrp hB (by omega) (by omega) ?_ | refine fint_step hB ?_ | refine fbool_tt hB ?_ | refine fbool_ff hB ?_ | refine fbool_split hB (fun _ => ?_) (fun _ => ?_) | refine ftok_step hB ?_ | refine frows_step hB ?_ | refine fstr_step hB ?_ | refine len_map hB ?_ | refine len_step hB ?_ | refine lens_step hB ?_ | refine byte_step hB ?_ | refine drop_step hB rfl ?_ | refine fl_step hB rfl ?_ | refine add_one hB (by first | omega | decide) ?_ | refine opt_step hB rfl ?_ | refine fnat_step hB ?_ | refine ifk_step hB rfl ?_ | refine ifk_step hB (flat_or rfl) ?_ | refine opt2_step hB rfl ?_ | refine obj_raw hB ?_ | refine sob_raw hB ?_ | refine fst_raw hB ?_ | refine optl_raw hB ?_ | refine tok_step hB rfl ?_) <;> conv => lhs; whnf)
    all_goals rfl
theorem WorthF_ev {n : Nat} (hn : 1000000000000400 ≤ n) (d : Desk) (hd : d.ok) : (evKR Bk Gx fsT n).1 0 30 [d.v] [] ansK = some (.tup [.agg [.int .i64 (worthLo d), .int .i64 (worthHi d)], .int .i64 (askE d true)], []) := by
  refine call_open (show fsT.find 30 = some a30 from rfl) (by omega) fun n' B cl rd hn' hB hcl hrd => ?_
  have H69 := told_ev (n := n') (by omega) d hd true
  rw [← hcl] at H69
  by_cases he : askE d true = 0
  · obtain ⟨hc, ht⟩ := ask_true he
    have H73 := seen_ev (n := n') (by omega) d hd hc
    obtain ⟨e1, e2⟩ := seen_worth hc ht
    rw [← hcl] at H73
    rw [he] at H69
    rw [he, ← e1, ← e2]
    conv => lhs; whnf
    repeat' ((first | refine fnat_pred hB ?_ | refine tok_step hB hd.tp ?_ | refine tok_step hB hd.tb ?_ | refine tok_step hB (wt_pur _) ?_ | refine purs_step hB (by simp [purs, pur, hd.tp, hd.tb]) ?_ | refine pans_step hB H69 ?_ | refine pans_step hB H73 ?_ | refine purs_step hB rfl ?_ | refine lt_tt hB (by decide) ?_ | refine lt_ff hB (by decide) ?_ | refine le_tt hB (by decide) ?_ | refine le_ff hB (by decide) ?_ | refine eq_tt hB (by decide) ?_ | refine eq_ff hB (by decide) ?_ | refine fint_wrp hB (by omega) (by omega) ?_ | refine fint_step hB ?_ | refine fbool_tt hB ?_ | refine fbool_ff hB ?_ | refine fbool_split hB (fun _ => ?_) (fun _ => ?_) | refine ftok_step hB ?_ | refine frows_step hB ?_ | refine fstr_step hB ?_ | refine len_map hB ?_ | refine len_step hB ?_ | refine lens_step hB ?_ | refine byte_step hB ?_ | refine drop_step hB rfl ?_ | refine fl_step hB rfl ?_ | refine add_one hB (by first | omega | decide) ?_ | refine opt_step hB rfl ?_ | refine fnat_step hB ?_ | refine ifk_step hB rfl ?_ | refine ifk_step hB (flat_or rfl) ?_ | refine opt2_step hB rfl ?_ | refine obj_raw hB ?_ | refine sob_raw hB ?_ | refine fst_raw hB ?_ | refine optl_raw hB ?_ | refine tok_step hB rfl ?_) <;> conv => lhs; whnf)
    all_goals rfl
  · rw [show worthLo d = 0 from if_neg he, show worthHi d = 0 from if_neg he]
    conv => lhs; whnf
    repeat' ((first | refine fnat_pred hB ?_ | refine tok_step hB hd.tp ?_ | refine tok_step hB hd.tb ?_ | refine purs_step hB (by simp [purs, pur, hd.tp, hd.tb]) ?_ | refine pans_step hB H69 ?_ | refine eq_ff hB he ?_ | refine purs_step hB rfl ?_ | refine lt_tt hB (by decide) ?_ | refine lt_ff hB (by decide) ?_ | refine le_tt hB (by decide) ?_ | refine le_ff hB (by decide) ?_ | refine eq_tt hB (by decide) ?_ | refine eq_ff hB (by decide) ?_ | refine fint_wrp hB (by omega) (by omega) ?_ | refine fint_step hB ?_ | refine fbool_tt hB ?_ | refine fbool_ff hB ?_ | refine fbool_split hB (fun _ => ?_) (fun _ => ?_) | refine ftok_step hB ?_ | refine frows_step hB ?_ | refine fstr_step hB ?_ | refine len_map hB ?_ | refine len_step hB ?_ | refine lens_step hB ?_ | refine byte_step hB ?_ | refine drop_step hB rfl ?_ | refine fl_step hB rfl ?_ | refine add_one hB (by first | omega | decide) ?_ | refine opt_step hB rfl ?_ | refine fnat_step hB ?_ | refine ifk_step hB rfl ?_ | refine ifk_step hB (flat_or rfl) ?_ | refine opt2_step hB rfl ?_ | refine obj_raw hB ?_ | refine sob_raw hB ?_ | refine fst_raw hB ?_ | refine optl_raw hB ?_ | refine tok_step hB rfl ?_) <;> conv => lhs; whnf)
    all_goals rfl
end Go.Ab.Cl

namespace Go.Ab.Cl
open Go.Ab

/-! ### sets of eight -/
def flagsB (t : Nat) : List Bool := (List.range 8).map t.testBit
def flags (t : Nat) : List AV := (flagsB t).map .bool
theorem flags_all : ∀ t : Fin 256, ∀ k : Fin 8, (flagsB t.val).set k.val true = flagsB (t.val ||| 1 <<< k.val) := by decide +kernel
theorem flags_len (t : Nat) : (flags t).length = 8 := rfl
theorem putAt_set {c : List AV} {o : Nat} {x : AV} (h : o < c.length) : putAt c o [x] = c.set o x := by
  simp [putAt, List.set_eq_take_append_cons_drop, h]
theorem flags_put {t k : Nat} (ht : t < 256) (hk : k < 8) : putAt (flags t) k [.bool true] = flags (t ||| 1 <<< k) := by
  rw [putAt_set (by rw [flags_len]; exact hk)]
  unfold flags
  rw [← List.map_set]
  exact congrArg _ (flags_all ⟨t, ht⟩ ⟨k, hk⟩)
theorem flags_drop {t k : Nat} (hk : k < 8) : (flags t).drop k = .bool (t.testBit k) :: (flags t).drop (k + 1) := by
  rw [List.drop_eq_getElem_cons (by rw [flags_len]; exact hk)]
  simp [flags, flagsB]
theorem flags_drop_is {t k : Nat} {b : Bool} (hk : k < 8) (hb : t.testBit k = b) : (flags t).drop k = .bool b :: (flags t).drop (k + 1) := by rw [flags_drop hk, hb]
theorem iarr_ok {cl : Call} {rd : Round} {G : Nat → List AV} {h : Nat} {e : Env} {s : St} {n : Nat} {x i : X} {l j : Nat} {z : Int} {k : Nat} (hx : x.ev G e = .ptr l j 0) (hi : i.ev G e = .int .i64 z) (hz : z = (k : Int)) (hk : k < n) :
    evO cl rd G h e s (.iarr n 1 x i) = some (.ptr l j k, s) := by
  have h0 : (0 : Int) ≤ (k : Int) := by omega
  subst hz
  simp [evO, hx, hi, iarrAV, h0, hk]

def truthGo (d : Desk) : List Int → Nat → Nat → Int → Option Int
  | [], _, _, o => some o
  | k :: l, i, t, o => if k = -1 then (if oddB d i = true then truthGo d l (i + 1) t (o + 1) else none)
    else if 0 ≤ k ∧ fitsB d i t k.toNat = true then truthGo d l (i + 1) (t ||| 1 <<< k.toNat) o else none
def truthE (d : Desk) : Int := if d.check = true then 0 else 90
def truthV (d : Desk) (l : List Int) : Bool := if d.check = true ∧ l.length = d.bs.length then (match truthGo d l 0 0 0 with
  | some o => decide (o ≤ d.strange)
  | none => false) else false

theorem a17_L1_step {B : Bnd} (hB : B = Bk) {cl : CallK} {rd : RoundK} (d : Desk) (hd : d.ok) (hf : d.fine) (ps : List Int) {tp : Tok} (htp : purTok tp = true) (hlen : ps.length = d.bs.length)
    (H53 : ∀ k : Int, cl 0 53 [d.v, .int .i64 k] [] ansK = some (.bool (within k 0 ((d.ps.length : Int) - 1)), []))
    (H54 : ∀ (i k : Nat) (zi zk : Int) (b : Box) (p : Parcel), zi = (i : Int) → zk = (k : Int) → d.bs[i]? = some b → d.ps[k]? = some p → cl 0 54 [d.v, .int .i64 zi, .int .i64 zk] [] ansK = some (.bool (couldB d b p), []))
    (n : Nat) (k : Ex → Env → St → Ans) (r : Ans) :
    ∀ (j i0 t : Nat) (o : Int), ps.length < i0 + j → i0 ≤ ps.length → t < 256 → 0 ≤ o → o ≤ (i0 : Int) →
    (∀ (o' : Int) (t' : Nat), truthGo d (ps.drop i0) i0 t o = some o' → k (.exit 0) [(4, .bool false), (5, .int .i64 0), (7, .ptr 0 1 0), (8, .ptr 0 2 0), (9, .int .i64 o'), (27, .sl (rowsI ps) tp), (28, .int .i64 (.ofNat ps.length)), (29, .int .i64 (.ofNat ps.length))] [⟨[.cells d.c, .cells d.c, .cells (flags t')], []⟩] = r) →
    (∀ (e : Env) (t' : Nat), truthGo d (ps.drop i0) i0 t o = none → k .ret ((4, .bool false) :: (5, .int .i64 0) :: e) [⟨[.cells d.c, .cells d.c, .cells (flags t')], []⟩] = r) →
    B.loop (evCK B a17_L1) [4, 5, 7, 8, 9, 27, 28, 29] n j cl rd Gx 0 1 [(4, .bool false), (5, .int .i64 0), (7, .ptr 0 1 0), (8, .ptr 0 2 0), (9, .int .i64 o), (27, .sl (rowsI ps) tp), (28, .int .i64 (.ofNat ps.length)), (29, .int .i64 (.ofNat i0))] [⟨[.cells d.c, .cells d.c, .cells (flags t)], []⟩] k = r := by
  intro j
  induction j with
  | zero => intro i0 t o h1 h2; omega
  | succ j ih =>
    intro i0 t o h1 h2 ht ho0 hoi k1 k2
    refine loop_succ hB ?_
    conv => lhs; whnf
    refine lt_nat hB (fun h => ?_) (fun h => ?_) <;> conv => lhs; whnf
    · have hx : (rowsI ps)[i0]? = some [.int .i64 ps[i0]] := by simp [rowsI, h]
      have hdr : ps.drop i0 = ps[i0] :: ps.drop (i0 + 1) := List.drop_eq_getElem_cons h
      rw [hdr] at k1 k2
      generalize ps[i0] = z at hx hdr k1 k2
      obtain ⟨b, hb⟩ : ∃ b, d.bs[i0]? = some b := ⟨d.bs[i0], by simp [← hlen, h]⟩
      have hxb : (d.bs.map Box.c)[i0]? = some b.c := by simp [hb]
      have hodd : oddB d i0 = !b.stamp := by simp [oddB, hb]
      have hnb := hf.nb
      have hnp := hf.np
      by_cases hz1 : z = -1
      · subst hz1
        rcases b with ⟨b1, b2, b3, b4, b5⟩
        cases b5
        · repeat' ((first | refine fnat_pred hB ?_ | refine natOf_step hB (m := i0) rfl ?_ | refine nth_step hB hx ?_ | refine nth_step hB hxb ?_ | refine add_step hB (by omega) (by omega) ?_ | refine tok_step hB hd.tp ?_ | refine tok_step hB hd.tb ?_ | refine purs_step hB rfl ?_ | refine lt_tt hB (by decide) ?_ | refine lt_ff hB (by decide) ?_ | refine le_tt hB (by decide) ?_ | refine le_ff hB (by decide) ?_ | refine eq_tt hB (by decide) ?_ | refine eq_ff hB (by decide) ?_ | refine fint_wrp hB (by omega) (by omega) ?_ | refine fint_step hB ?_ | refine fbool_tt hB ?_ | refine fbool_ff hB ?_ | refine fbool_split hB (fun _ => ?_) (fun _ => ?_) | refine ftok_step hB ?_ | refine frows_step hB ?_ | refine fstr_step hB ?_ | refine len_map hB ?_ | refine len_step hB ?_ | refine lens_step hB ?_ | refine byte_step hB ?_ | refine drop_step hB rfl ?_ | refine fl_step hB rfl ?_ | refine add_one hB (by first | omega | decide) ?_ | refine opt_step hB rfl ?_ | refine fnat_step hB ?_ | refine ifk_step hB rfl ?_ | refine ifk_step hB (flat_or rfl) ?_ | refine opt2_step hB rfl ?_ | refine obj_raw hB ?_ | refine sob_raw hB ?_ | refine fst_raw hB ?_ | refine optl_raw hB ?_ | refine tok_step hB rfl ?_) <;> conv => lhs; whnf)
          rw [clampTok_pur htp]
          refine ih (i0 + 1) t (o + 1) (by omega) (by omega) ht (by omega) (by omega) (fun o' t' h => k1 o' t' ?_) (fun e t' h => k2 e t' ?_)
          · simpa [truthGo, hodd] using h
          · simpa [truthGo, hodd] using h
        · repeat' ((first | refine fnat_pred hB ?_ | refine natOf_step hB (m := i0) rfl ?_ | refine nth_step hB hx ?_ | refine nth_step hB hxb ?_ | refine add_step hB (by omega) (by omega) ?_ | refine tok_step hB hd.tp ?_ | refine tok_step hB hd.tb ?_ | refine purs_step hB rfl ?_ | refine lt_tt hB (by decide) ?_ | refine lt_ff hB (by decide) ?_ | refine le_tt hB (by decide) ?_ | refine le_ff hB (by decide) ?_ | refine eq_tt hB (by decide) ?_ | refine eq_ff hB (by decide) ?_ | refine fint_wrp hB (by omega) (by omega) ?_ | refine fint_step hB ?_ | refine fbool_tt hB ?_ | refine fbool_ff hB ?_ | refine fbool_split hB (fun _ => ?_) (fun _ => ?_) | refine ftok_step hB ?_ | refine frows_step hB ?_ | refine fstr_step hB ?_ | refine len_map hB ?_ | refine len_step hB ?_ | refine lens_step hB ?_ | refine byte_step hB ?_ | refine drop_step hB rfl ?_ | refine fl_step hB rfl ?_ | refine add_one hB (by first | omega | decide) ?_ | refine opt_step hB rfl ?_ | refine fnat_step hB ?_ | refine ifk_step hB rfl ?_ | refine ifk_step hB (flat_or rfl) ?_ | refine opt2_step hB rfl ?_ | refine obj_raw hB ?_ | refine sob_raw hB ?_ | refine fst_raw hB ?_ | refine optl_raw hB ?_ | refine tok_step hB rfl ?_) <;> conv => lhs; whnf)
          exact k2 _ t (by simp [truthGo, hodd])
      · have HW := H53 z
        cases hw : within z 0 ((d.ps.length : Int) - 1)
        · rw [hw] at HW
          have hno : ¬ (0 ≤ z ∧ fitsB d i0 t z.toNat = true) := by
            rintro ⟨h0, hfit⟩
            have : ¬ z.toNat < d.ps.length := by
              intro h9
              have : within z 0 ((d.ps.length : Int) - 1) = true := by simp [within]; omega
              rw [hw] at this; cases this
            have h9 : d.ps[z.toNat]? = none := by simp; omega
            simp [fitsB, h9] at hfit
          repeat' ((first | refine fnat_pred hB ?_ | refine natOf_step hB (m := i0) rfl ?_ | refine nth_step hB hx ?_ | refine nth_step hB hxb ?_ | refine add_step hB (by omega) (by omega) ?_ | refine tok_step hB hd.tp ?_ | refine tok_step hB hd.tb ?_ | refine purs_step hB (by simp [purs, pur, hd.tp, hd.tb]) ?_ | refine eq_ff hB hz1 ?_ | refine pans_step hB HW ?_ | refine purs_step hB rfl ?_ | refine lt_tt hB (by decide) ?_ | refine lt_ff hB (by decide) ?_ | refine le_tt hB (by decide) ?_ | refine le_ff hB (by decide) ?_ | refine eq_tt hB (by decide) ?_ | refine eq_ff hB (by decide) ?_ | refine fint_wrp hB (by omega) (by omega) ?_ | refine fint_step hB ?_ | refine fbool_tt hB ?_ | refine fbool_ff hB ?_ | refine fbool_split hB (fun _ => ?_) (fun _ => ?_) | refine ftok_step hB ?_ | refine frows_step hB ?_ | refine fstr_step hB ?_ | refine len_map hB ?_ | refine len_step hB ?_ | refine lens_step hB ?_ | refine byte_step hB ?_ | refine drop_step hB rfl ?_ | refine fl_step hB rfl ?_ | refine add_one hB (by first | omega | decide) ?_ | refine opt_step hB rfl ?_ | refine fnat_step hB ?_ | refine ifk_step hB rfl ?_ | refine ifk_step hB (flat_or rfl) ?_ | refine opt2_step hB rfl ?_ | refine obj_raw hB ?_ | refine sob_raw hB ?_ | refine fst_raw hB ?_ | refine optl_raw hB ?_ | refine tok_step hB rfl ?_) <;> conv => lhs; whnf)
          exact k2 _ t (by simp [truthGo, hz1, hno])
        · rw [hw] at HW
          obtain ⟨k', rfl, hk'⟩ := within_nat hw
          obtain ⟨p, hp⟩ := meantRow d hk'
          have hfit : fitsB d i0 t k' = (!t.testBit k' && couldB d b p) := by simp [fitsB, hb, hp]
          cases hbit : t.testBit k'
          · have HC := H54 i0 k' _ _ b p rfl rfl hb hp
            cases hcb : couldB d b p
            · rw [hcb] at HC
              repeat' ((first | refine fnat_pred hB ?_ | refine natOf_step hB (m := i0) rfl ?_ | refine nth_step hB hx ?_ | refine nth_step hB hxb ?_ | refine add_step hB (by omega) (by omega) ?_ | refine tok_step hB hd.tp ?_ | refine tok_step hB hd.tb ?_ | refine purs_step hB (by simp [purs, pur, hd.tp, hd.tb]) ?_ | refine eq_ff hB hz1 ?_ | refine pans_step hB HW ?_ | refine opt2_step hB (iarr_ok rfl rfl rfl (by omega)) ?_ | refine drop_step hB ((flags_drop_is (by omega) hbit)) ?_ | refine pans_step hB HC ?_ | refine fl_step hB (flags_put ht (by omega)) ?_ | refine ifk_step hB (by rw [Nat.ble_eq, lenK_eq, flags_len]; show k' + 1 ≤ 8; omega) ?_ | refine purs_step hB rfl ?_ | refine lt_tt hB (by decide) ?_ | refine lt_ff hB (by decide) ?_ | refine le_tt hB (by decide) ?_ | refine le_ff hB (by decide) ?_ | refine eq_tt hB (by decide) ?_ | refine eq_ff hB (by decide) ?_ | refine fint_wrp hB (by omega) (by omega) ?_ | refine fint_step hB ?_ | refine fbool_tt hB ?_ | refine fbool_ff hB ?_ | refine fbool_split hB (fun _ => ?_) (fun _ => ?_) | refine ftok_step hB ?_ | refine frows_step hB ?_ | refine fstr_step hB ?_ | refine len_map hB ?_ | refine len_step hB ?_ | refine lens_step hB ?_ | refine byte_step hB ?_ | refine drop_step hB rfl ?_ | refine fl_step hB rfl ?_ | refine add_one hB (by first | omega | decide) ?_ | refine opt_step hB rfl ?_ | refine fnat_step hB ?_ | refine ifk_step hB rfl ?_ | refine ifk_step hB (flat_or rfl) ?_ | refine opt2_step hB rfl ?_ | refine obj_raw hB ?_ | refine sob_raw hB ?_ | refine fst_raw hB ?_ | refine optl_raw hB ?_ | refine tok_step hB rfl ?_) <;> conv => lhs; whnf)
              exact k2 _ t (by simp [truthGo, hz1, hfit, hbit, hcb])
            · rw [hcb] at HC
              repeat' ((first | refine fnat_pred hB ?_ | refine natOf_step hB (m := i0) rfl ?_ | refine nth_step hB hx ?_ | refine nth_step hB hxb ?_ | refine add_step hB (by omega) (by omega) ?_ | refine tok_step hB hd.tp ?_ | refine tok_step hB hd.tb ?_ | refine purs_step hB (by simp [purs, pur, hd.tp, hd.tb]) ?_ | refine eq_ff hB hz1 ?_ | refine pans_step hB HW ?_ | refine opt2_step hB (iarr_ok rfl rfl rfl (by omega)) ?_ | refine drop_step hB ((flags_drop_is (by omega) hbit)) ?_ | refine pans_step hB HC ?_ | refine fl_step hB (flags_put ht (by omega)) ?_ | refine ifk_step hB (by rw [Nat.ble_eq, lenK_eq, flags_len]; show k' + 1 ≤ 8; omega) ?_ | refine purs_step hB rfl ?_ | refine lt_tt hB (by decide) ?_ | refine lt_ff hB (by decide) ?_ | refine le_tt hB (by decide) ?_ | refine le_ff hB (by decide) ?_ | refine eq_tt hB (by decide) ?_ | refine eq_ff hB (by decide) ?_ | refine fint_wrp hB (by omega) (by omega) ?_ | refine fint_step hB ?_ | refine fbool_tt hB ?_ | refine fbool_ff hB ?_ | refine fbool_split hB (fun _ => ?_) (fun _ => ?_) | refine ftok_step hB ?_ | refine frows_step hB ?_ | refine fstr_step hB ?_ | refine len_map hB ?_ | refine len_step hB ?_ | refine lens_step hB ?_ | refine byte_step hB ?_ | refine drop_step hB rfl ?_ | refine fl_step hB rfl ?_ | refine add_one hB (by first | omega | decide) ?_ | refine opt_step hB rfl ?_ | refine fnat_step hB ?_ | refine ifk_step hB rfl ?_ | refine ifk_step hB (flat_or rfl) ?_ | refine opt2_step hB rfl ?_ | refine obj_raw hB ?_ | refine sob_raw hB ?_ | refine fst_raw hB ?_ | refine optl_raw hB ?_ | refine tok_step hB rfl ?_) <;> conv => lhs; whnf)
              rw [clampTok_pur htp]
              have hgo : truthGo d ((k' : Int) :: ps.drop (i0 + 1)) i0 t o = truthGo d (ps.drop (i0 + 1)) (i0 + 1) (t ||| 1 <<< k') o := by simp [truthGo, hz1, hfit, hbit, hcb]
              rw [hgo] at k1 k2
              exact ih (i0 + 1) _ o (by omega) (by omega) (bits_lt ht (by omega)) ho0 (by omega) k1 k2
          · repeat' ((first | refine fnat_pred hB ?_ | refine natOf_step hB (m := i0) rfl ?_ | refine nth_step hB hx ?_ | refine nth_step hB hxb ?_ | refine add_step hB (by omega) (by omega) ?_ | refine tok_step hB hd.tp ?_ | refine tok_step hB hd.tb ?_ | refine purs_step hB (by simp [purs, pur, hd.tp, hd.tb]) ?_ | refine eq_ff hB hz1 ?_ | refine pans_step hB HW ?_ | refine opt2_step hB (iarr_ok rfl rfl rfl (by omega)) ?_ | refine drop_step hB ((flags_drop_is (by omega) hbit)) ?_ | refine purs_step hB rfl ?_ | refine lt_tt hB (by decide) ?_ | refine lt_ff hB (by decide) ?_ | refine le_tt hB (by decide) ?_ | refine le_ff hB (by decide) ?_ | refine eq_tt hB (by decide) ?_ | refine eq_ff hB (by decide) ?_ | refine fint_wrp hB (by omega) (by omega) ?_ | refine fint_step hB ?_ | refine fbool_tt hB ?_ | refine fbool_ff hB ?_ | refine fbool_split hB (fun _ => ?_) (fun _ => ?_) | refine ftok_step hB ?_ | refine frows_step hB ?_ | refine fstr_step hB ?_ | refine len_map hB ?_ | refine len_step hB ?_ | refine lens_step hB ?_ | refine byte_step hB ?_ | refine drop_step hB rfl ?_ | refine fl_step hB rfl ?_ | refine add_one hB (by first | omega | decide) ?_ | refine opt_step hB rfl ?_ | refine fnat_step hB ?_ | refine ifk_step hB rfl ?_ | refine ifk_step hB (flat_or rfl) ?_ | refine opt2_step hB rfl ?_ | refine obj_raw hB ?_ | refine sob_raw hB ?_ | refine fst_raw hB ?_ | refine optl_raw hB ?_ | refine tok_step hB rfl ?_) <;> conv => lhs; whnf)
            exact k2 _ t (by simp [truthGo, hz1, hfit, hbit])
    · repeat' ((first | refine purs_step hB rfl ?_ | refine lt_tt hB (by decide) ?_ | refine lt_ff hB (by decide) ?_ | refine le_tt hB (by decide) ?_ | refine le_ff hB (by decide) ?_ | refine eq_tt hB (by decide) ?_ | refine eq_ff hB (by decide) ?_ | refine fint_wrp hB (by omega) (by omega) ?_ | refine fint_step hB ?_ | refine fbool_tt hB ?_ | refine fbool_ff hB ?_ | refine fbool_split hB (fun _ => ?_) (fun _ => ?_) | refine ftok_step hB ?_ | refine frows_step hB ?_ | refine fstr_step hB ?_ | refine len_map hB ?_ | refine len_step hB ?_ | refine lens_step hB ?_ | refine byte_step hB ?_ | refine drop_step hB rfl ?_ | refine fl_step hB rfl ?_ | refine add_one hB (by first | omega | decide) ?_ | refine opt_step hB rfl ?_ | refine fnat_step hB ?_ | refine ifk_step hB rfl ?_ | refine ifk_step hB (flat_or rfl) ?_ | refine opt2_step hB rfl ?_ | refine obj_raw hB ?_ | refine sob_raw hB ?_ | refine fst_raw hB ?_ | refine optl_raw hB ?_ | refine tok_step hB rfl ?_) <;> conv => lhs; whnf)
      have hi : i0 = ps.length := by omega
      subst hi
      rw [clampTok_pur htp]
      refine k1 o t ?_
      simp [truthGo]

theorem none_ev {n : Nat} (hn : 2 ≤ n) : (evKR Bk Gx fsT n).1 0 62 [] [] ansK = some (.agg (flags 0), []) := by
  refine call_open (show fsT.find 62 = some a62 from rfl) (by omega) fun n' B cl rd hn' hB hcl hrd => ?_
  conv => lhs; whnf
  repeat' ((first | refine fnat_pred hB ?_ | refine purs_step hB rfl ?_ | refine lt_tt hB (by decide) ?_ | refine lt_ff hB (by decide) ?_ | refine le_tt hB (by decide) ?_ | refine le_ff hB (by decide) ?_ | refine eq_tt hB (by decide) ?_ | refine eq_ff hB (by decide) ?_ | refine fint_wrp hB (by omega) (by omega) ?_ | refine fint_step hB ?_ | refine fbool_tt hB ?_ | refine fbool_ff hB ?_ | refine fbool_split hB (fun _ => ?_) (fun _ => ?_) | refine ftok_step hB ?_ | refine frows_step hB ?_ | refine fstr_step hB ?_ | refine len_map hB ?_ | refine len_step hB ?_ | refine lens_step hB ?_ | refine byte_step hB ?_ | refine drop_step hB rfl ?_ | refine fl_step hB rfl ?_ | refine add_one hB (by first | omega | decide) ?_ | refine opt_step hB rfl ?_ | refine fnat_step hB ?_ | refine ifk_step hB rfl ?_ | refine ifk_step hB (flat_or rfl) ?_ | refine opt2_step hB rfl ?_ | refine obj_raw hB ?_ | refine sob_raw hB ?_ | refine fst_raw hB ?_ | refine optl_raw hB ?_ | refine tok_step hB rfl ?_) <;> conv => lhs; whnf)
  all_goals rfl
theorem IsTruth_ev {n : Nat} (hn : 1000000000000500 ≤ n) (d : Desk) (hd : d.ok) (ps : List Int) {tp : Tok} (htp : purTok tp = true) (hps : ps.length ≤ 200000000000000) : (evKR Bk Gx fsT n).1 0 17 [d.v, .sl (rowsI ps) tp] [] ansK = some (.tup [.bool (truthV d ps), .int .i64 (truthE d)], []) := by
  refine call_open (show fsT.find 17 = some a17 from rfl) (by omega) fun n' B cl rd hn' hB hcl hrd => ?_
  have HC := Check_ev (G := Gx) (n := n') d hd (by omega)
  rw [← hcl] at HC
  have hdb := hd.bs
  cases hc : d.check
  · rw [hc] at HC
    conv => lhs; whnf
    repeat' ((first | refine fnat_pred hB ?_ | refine tok_step hB hd.tp ?_ | refine tok_step hB hd.tb ?_ | refine purs_step hB (by simp [purs, pur, hd.tp, hd.tb]) ?_ | refine pans_step hB HC ?_ | refine purs_step hB rfl ?_ | refine lt_tt hB (by decide) ?_ | refine lt_ff hB (by decide) ?_ | refine le_tt hB (by decide) ?_ | refine le_ff hB (by decide) ?_ | refine eq_tt hB (by decide) ?_ | refine eq_ff hB (by decide) ?_ | refine fint_wrp hB (by omega) (by omega) ?_ | refine fint_step hB ?_ | refine fbool_tt hB ?_ | refine fbool_ff hB ?_ | refine fbool_split hB (fun _ => ?_) (fun _ => ?_) | refine ftok_step hB ?_ | refine frows_step hB ?_ | refine fstr_step hB ?_ | refine len_map hB ?_ | refine len_step hB ?_ | refine lens_step hB ?_ | refine byte_step hB ?_ | refine drop_step hB rfl ?_ | refine fl_step hB rfl ?_ | refine add_one hB (by first | omega | decide) ?_ | refine opt_step hB rfl ?_ | refine fnat_step hB ?_ | refine ifk_step hB rfl ?_ | refine ifk_step hB (flat_or rfl) ?_ | refine opt2_step hB rfl ?_ | refine obj_raw hB ?_ | refine sob_raw hB ?_ | refine fst_raw hB ?_ | refine optl_raw hB ?_ | refine tok_step hB rfl ?_) <;> conv => lhs; whnf)
    simp [truthV, truthE, hc]
  · rw [hc] at HC
    have hf := check_fine hc
    have H62 := none_ev (n := n') (by omega)
    have H53 := fun k => isParcel_ev (G := Gx) (n := n') (by omega) d hd k
    have H54 : ∀ (i k : Nat) (zi zk : Int) (b : Box) (p : Parcel), zi = (i : Int) → zk = (k : Int) → d.bs[i]? = some b → d.ps[k]? = some p → (evKR Bk Gx fsT n').1 0 54 [d.v, .int .i64 zi, .int .i64 zk] [] ansK = some (.bool (couldB d b p), []) := by
      intro i k zi zk b p hzi hzk hb hp
      have fb := hf.b b (List.mem_of_getElem? hb)
      have fp := hf.p p (List.mem_of_getElem? hp)
      exact could_ev d hd i k hzi hzk b p hb hp fb.1 fp.1 fp.2.1 hf.wear fp.2.2.1 fb.2.2.2.2 (by omega)
    rw [← hcl] at H53 H54 H62
    by_cases hl : ps.length = d.bs.length
    · conv => lhs; whnf
      repeat' ((first | refine fnat_pred hB ?_ | refine tok_step hB hd.tp ?_ | refine tok_step hB hd.tb ?_ | refine tok_step hB htp ?_ | refine purs_step hB (by simp [purs, pur, hd.tp, hd.tb]) ?_ | refine pans_step hB HC ?_ | refine pans_step hB H62 ?_ | refine eq_tt hB (by simp only [Int.ofNat_eq_natCast]; omega) ?_ | refine a17_L1_step hB d hd hf ps (purTok_clamp htp) hl H53 H54 _ _ _ _ 0 0 0 (by omega) (by omega) (by omega) (by omega) (by omega) (fun o' t' ho => ?_) (fun e t' ho => ?_) | refine le_split hB (fun hle => ?_) (fun hle => ?_) | refine purs_step hB rfl ?_ | refine lt_tt hB (by decide) ?_ | refine lt_ff hB (by decide) ?_ | refine le_tt hB (by decide) ?_ | refine le_ff hB (by decide) ?_ | refine eq_tt hB (by decide) ?_ | refine eq_ff hB (by decide) ?_ | refine fint_wrp hB (by omega) (by omega) ?_ | refine fint_step hB ?_ | refine fbool_tt hB ?_ | refine fbool_ff hB ?_ | refine fbool_split hB (fun _ => ?_) (fun _ => ?_) | refine ftok_step hB ?_ | refine frows_step hB ?_ | refine fstr_step hB ?_ | refine len_map hB ?_ | refine len_step hB ?_ | refine lens_step hB ?_ | refine byte_step hB ?_ | refine drop_step hB rfl ?_ | refine fl_step hB rfl ?_ | refine add_one hB (by first | omega | decide) ?_ | refine opt_step hB rfl ?_ | refine fnat_step hB ?_ | refine ifk_step hB rfl ?_ | refine ifk_step hB (flat_or rfl) ?_ | refine opt2_step hB rfl ?_ | refine obj_raw hB ?_ | refine sob_raw hB ?_ | refine fst_raw hB ?_ | refine optl_raw hB ?_ | refine tok_step hB rfl ?_) <;> conv => lhs; whnf)
      all_goals rw [List.drop_zero] at ho
      · simp [truthV, truthE, hc, hl, ho, hle]
      · simp [truthV, truthE, hc, hl, ho, hle]
      · simp [truthV, truthE, hc, hl, ho]
    · conv => lhs; whnf
      repeat' ((first | refine fnat_pred hB ?_ | refine tok_step hB hd.tp ?_ | refine tok_step hB hd.tb ?_ | refine tok_step hB htp ?_ | refine purs_step hB (by simp [purs, pur, hd.tp, hd.tb]) ?_ | refine pans_step hB HC ?_ | refine pans_step hB H62 ?_ | refine eq_ff hB (by simp only [Int.ofNat_eq_natCast]; omega) ?_ | refine purs_step hB rfl ?_ | refine lt_tt hB (by decide) ?_ | refine lt_ff hB (by decide) ?_ | refine le_tt hB (by decide) ?_ | refine le_ff hB (by decide) ?_ | refine eq_tt hB (by decide) ?_ | refine eq_ff hB (by decide) ?_ | refine fint_wrp hB (by omega) (by omega) ?_ | refine fint_step hB ?_ | refine fbool_tt hB ?_ | refine fbool_ff hB ?_ | refine fbool_split hB (fun _ => ?_) (fun _ => ?_) | refine ftok_step hB ?_ | refine frows_step hB ?_ | refine fstr_step hB ?_ | refine len_map hB ?_ | refine len_step hB ?_ | refine lens_step hB ?_ | refine byte_step hB ?_ | refine drop_step hB rfl ?_ | refine fl_step hB rfl ?_ | refine add_one hB (by first | omega | decide) ?_ | refine opt_step hB rfl ?_ | refine fnat_step hB ?_ | refine ifk_step hB rfl ?_ | refine ifk_step hB (flat_or rfl) ?_ | refine opt2_step hB rfl ?_ | refine obj_raw hB ?_ | refine sob_raw hB ?_ | refine fst_raw hB ?_ | refine optl_raw hB ?_ | refine tok_step hB rfl ?_) <;> conv => lhs; whnf)
      simp [truthV, truthE, hc, hl]
end Go.Ab.Cl
