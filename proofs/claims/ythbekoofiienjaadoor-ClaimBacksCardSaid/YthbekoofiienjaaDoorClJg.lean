/-
  The claims, the specification: the walk, all of it.
-/
import Derived.Test.YthbekoofiienjaaDoorClJd
import Derived.Test.YthbekoofiienjaaDoorClZ
namespace Go.Ab.Cl
open Go.Ab

theorem a87_L1_nil {B : Bnd} (hB : B = Bk) {cl : CallK} {rd : RoundK} {tp : Tok} (htp : purTok tp = true) {zt : Int} (s : St) {D : Nat} (o : List AObj) (n : Nat) (k : Ex → Env → St → Ans) (r : Ans) (j : Nat) (hj : 1 ≤ j)
    (k1 : k (.exit 0) [(1, .sl (rowsI []) tp), (2, .int .i64 zt), (5, .ptr D 0 0), (9, .ptr D 1 0), (10, .ptr D 2 0), (11, .int .i64 0), (12, .sl [] .full), (13, .int .i64 0)] (⟨o, []⟩ :: s) = r) :
    B.loop (evCK B a87_L1) [1, 2, 5, 9, 10, 11, 12, 13] n j cl rd Gx D (D + 1) [(1, .sl (rowsI []) tp), (2, .int .i64 zt), (5, .ptr D 0 0), (9, .ptr D 1 0), (10, .ptr D 2 0), (11, .int .i64 0), (12, .sl [] .full), (13, .int .i64 0)] (⟨o, []⟩ :: s) k = r := by
  obtain ⟨j, rfl⟩ : ∃ j', j = j' + 1 := ⟨j - 1, by omega⟩
  refine loop_succ hB ?_
  conv => lhs; whnf
  repeat' ((first | refine fnat_pred hB ?_ | refine tok_step hB htp ?_ | refine ifk_step hB (Nat.ble_eq_true_of_le (Nat.le_refl _)) ?_ | refine purs_step hB rfl ?_ | refine lt_tt hB (by decide) ?_ | refine lt_ff hB (by decide) ?_ | refine le_tt hB (by decide) ?_ | refine le_ff hB (by decide) ?_ | refine eq_tt hB (by decide) ?_ | refine eq_ff hB (by decide) ?_ | refine fint_wrp hB (by omega) (by omega) ?_ | refine fint_step hB ?_ | refine fbool_tt hB ?_ | refine fbool_ff hB ?_ | refine fbool_split hB (fun _ => ?_) (fun _ => ?_) | refine ftok_step hB ?_ | refine frows_step hB ?_ | refine fstr_step hB ?_ | refine len_map hB ?_ | refine len_step hB ?_ | refine lens_step hB ?_ | refine byte_step hB ?_ | refine drop_step hB rfl ?_ | refine fl_step hB rfl ?_ | refine add_one hB (by first | omega | decide) ?_ | refine opt_step hB rfl ?_ | refine fnat_step hB ?_ | refine ifk_step hB rfl ?_ | refine ifk_step hB (flat_or rfl) ?_ | refine opt2_step hB rfl ?_ | refine obj_raw hB ?_ | refine sob_raw hB ?_ | refine fst_raw hB ?_ | refine optl_raw hB ?_ | refine tok_step hB rfl ?_) <;> conv => lhs; whnf)
  rw [clampTok_pur htp]
  exact k1

theorem frzs_ints {S : St} {D : Nat} : ∀ (l : List Nat) (n : Nat), l.length + 1 ≤ n → frzs S D n (cellsI l) = some (cellsI l)
  | [], n, _ => by cases n <;> rfl
  | x :: l, n, h => by
    obtain ⟨n, rfl⟩ : ∃ m, n = m + 2 := ⟨n - 2, by simp at h; omega⟩
    have ih := frzs_ints (S := S) (D := D) l (n + 1) (by simp at h; omega)
    show (frz S D (n + 1) (.int .i64 (x : Int))).bind (fun v' => (frzs S D (n + 1) (cellsI l)).map (v' :: ·)) = _
    rw [ih]
    rfl
theorem frz_own {s : St} {D i : Nat} (hD : D = s.length) {o : List AObj} {l : List Nat} (ho : getO o i = some (.cells (cellsI l))) (hl : l.length ≤ 100) {nn : Nat} (hn : nn = l.length) (m : Nat) (hm : 200 ≤ m) : frz (⟨o, []⟩ :: s) D (m + 1) (.os D i 0 nn 1) = some (.sl (rowsI (nats l)) .any) := by
  subst hn
  have h1 : ¬ D < D := by omega
  have h2 : getObj (⟨o, []⟩ :: s) D i = some (.cells (cellsI l)) := (getObj_top hD).trans ho
  have h3 : (cellsI l).take l.length = cellsI l := List.take_of_length_le (by rw [cellsI_len]; omega)
  have h4 : l.length ≤ (cellsI l).length := by rw [cellsI_len]; omega
  simp only [frz, if_neg h1, h2, Nat.mul_one, Nat.zero_add, List.drop_zero, h3, frzs_ints l m (by omega), Option.bind_some, cells_pur, rows_int]
  simp [h4]
theorem frz_sn {s : St} {D : Nat} (hD : D = s.length) {o : List AObj} {l : List Nat} (ho : getO o 3 = some (.cells (cellsI l))) (hl : l.length ≤ 100) {nn : Nat} (hn : nn = l.length) (a b c e f : Int) :
    frz (⟨o, []⟩ :: s) D 1000 (.agg [.int .i64 a, .os D 3 0 nn 1, .int .i64 b, .int .i64 c, .int .i64 e, .int .i64 f]) = some (.agg [.int .i64 a, .sl (rowsI (nats l)) .any, .int .i64 b, .int .i64 c, .int .i64 e, .int .i64 f]) := by
  have h := frz_own hD ho hl hn 996 (by omega)
  show ((some (AV.int .i64 a)).bind fun v' => ((frz (⟨o, []⟩ :: s) D (996 + 1) (.os D 3 0 nn 1)).bind fun v' => (some [AV.int .i64 b, .int .i64 c, .int .i64 e, .int .i64 f]).map (v' :: ·)).map (v' :: ·)).map AV.agg = _
  rw [h]
  rfl
set_option maxHeartbeats 4000000 in
theorem walk_leaf {d : Desk} (hd : d.ok) (hc : d.check = true) {n : Nat} (hn : 1000000000000200 ≤ n) {pre : List Int} {t : Nat} (st : Int) {sn : Sn} {S : List Int → Prop} {M : Int} (hp : Pre d 0 pre t) (hT : Tells d sn S M) (hM : M ≤ 1000000000)
    (s : St) {D : Nat} (hD : D = s.length) {v : AV} (hv : IsV s v sn.is) {tp : Tok} (htp : purTok tp = true) {zt : Int} (hzt : zt = (t : Int)) (kont : AV → St → Ans) (r : Ans)
    (K : ∀ v', IsR v sn.is v' (tell d sn pre t).is → kont (.agg ((tell d sn pre t).c v')) s = r) :
    (evKR Bk Gx fsT n).1 D 87 [d.v, .sl (rowsI pre) tp, .int .i64 zt, .int .i64 st, .agg (sn.c v)] s kont = r := by
  refine call_open (show fsT.find 87 = some a87 from rfl) (by omega) fun n' B cl rd hn' hB hcl hrd => ?_
  have hl1 : ∀ (g : Fr), D + 1 = (g :: s : St).length := fun _ => by simp [hD]
  have hpl : pre.length = d.bs.length := by have := hp.len; omega
  have hsl := hT.len
  have hnb := (check_fine hc).nb
  have H43 := fun a b => To_ev (n := n') (by omega) a b
  rw [← hcl] at H43
  have hb := hT.bnd
  have hpos := hT.pos
  have heq : (Int.ofNat pre.length) = (Int.ofNat d.bs.length) := by rw [hpl]
  have hap : ∀ f : Fr, appoAt (f :: s) 1 8 (.sl [] .full) v = some (if sn.is = [] then (.sl [] .full, f :: s) else (.os s.length f.objs.length 0 sn.is.length 1, ⟨f.objs ++ [.cells (cellsI sn.is)], f.toks⟩ :: s)) := fun f => appo_v (hv.up f) (by omega)
  have ht : t < 512 := by have := hp.small; omega
  have ha : sn.all < 512 := by have := hT.lt.1; omega
  have hs : sn.some < 512 := by have := hT.lt.2.1; omega
  have hml2 : sn.is.length = ([] ++ markIs d.ps.length sn.is pre).length := by
    unfold markIs
    rw [List.nil_append, List.length_zipWith]
    omega
  have hmne : sn.is ≠ [] → markIs d.ps.length sn.is pre ≠ [] := fun h h2 => h (List.length_eq_zero_iff.1 (by rw [hml2, h2]; rfl))
  have hml : ([] ++ markIs d.ps.length sn.is pre).length ≤ 100 := by omega
  subst hzt
  by_cases his : sn.is = []
  · have hpre : pre = [] := List.length_eq_zero_iff.1 (by rw [hpl, ← hsl, his]; rfl)
    simp only [his, if_pos] at hap
    subst hpre
    rcases hv with ⟨tv, htv, rfl⟩ | ⟨lv, iv, rfl, hlv, hgv⟩
    · conv => lhs; whnf
      repeat' ((first | refine fnat_pred hB ?_ | refine tok_step hB htp ?_ | refine tok_step hB hd.tp ?_ | refine tok_step hB hd.tb ?_ | refine tok_step hB htv ?_ | refine obj_step hB (hl1 _) ((getObj_top hD).trans rfl) ?_ | refine eq_tt hB heq ?_ | refine appo_step hB (hap _) ?_ | refine a87_L1_nil hB (purTok_clamp htp) s _ _ _ _ _ (by omega) ?_ | refine eq_split hB (fun hm => ?_) (fun hm => ?_) | refine fbool_same hB (by omega) ?_ | refine ifk_step hB (Nat.ble_eq_true_of_le (Nat.le_refl _)) ?_ | refine pans_step hB (H43 _ _) ?_ | refine opt_step hB (frz_sn hD (l := [] ++ markIs d.ps.length sn.is pre) rfl hml hml2 _ _ _ _ _) ?_ | refine opt2_step hB (mn_ok rfl rfl) ?_ | refine opt2_step hB (mx_ok rfl rfl) ?_ | refine opt_step hB (and_gen (a := sn.all) (b := t) ha ht) ?_ | refine opt_step hB (or_gen (a := sn.some) (b := t) hs ht) ?_ | refine sob_step hB (hl1 _) (setTop2 hD) ?_ | refine add_step hB (by omega) (by omega) ?_ | refine purs_step hB rfl ?_ | refine lt_tt hB (by decide) ?_ | refine lt_ff hB (by decide) ?_ | refine le_tt hB (by decide) ?_ | refine le_ff hB (by decide) ?_ | refine eq_tt hB (by decide) ?_ | refine eq_ff hB (by decide) ?_ | refine fint_wrp hB (by omega) (by omega) ?_ | refine fint_step hB ?_ | refine fbool_tt hB ?_ | refine fbool_ff hB ?_ | refine fbool_split hB (fun _ => ?_) (fun _ => ?_) | refine ftok_step hB ?_ | refine frows_step hB ?_ | refine fstr_step hB ?_ | refine len_map hB ?_ | refine len_step hB ?_ | refine lens_step hB ?_ | refine byte_step hB ?_ | refine drop_step hB rfl ?_ | refine fl_step hB rfl ?_ | refine add_one hB (by first | omega | decide) ?_ | refine opt_step hB rfl ?_ | refine fnat_step hB ?_ | refine ifk_step hB rfl ?_ | refine ifk_step hB (flat_or rfl) ?_ | refine opt2_step hB rfl ?_ | refine obj_raw hB ?_ | refine sob_raw hB ?_ | refine fst_raw hB ?_ | refine optl_raw hB ?_ | refine tok_step hB rfl ?_) <;> conv => lhs; whnf)
      · have e : tell d sn [] t = ⟨1, [], t, t, 0, 0⟩ := by unfold tell; rw [if_pos hm, his]; rfl
        rw [e] at K
        exact K _ (.inl rfl)
      · have e : tell d sn [] t = ⟨sn.many + 1, [], sn.all &&& t, sn.some ||| t, loI sn.lo 0, hiI sn.hi 0⟩ := by unfold tell; rw [if_neg hm, his]; rfl
        rw [e] at K
        exact K _ (.inl rfl)
    · conv => lhs; whnf
      repeat' ((first | refine fnat_pred hB ?_ | refine tok_step hB htp ?_ | refine tok_step hB hd.tp ?_ | refine tok_step hB hd.tb ?_ | refine fnat_step hB ?_ | refine obj_step hB (hl1 _) ((getObj_top hD).trans rfl) ?_ | refine eq_tt hB heq ?_ | refine appo_step hB (hap _) ?_ | refine a87_L1_nil hB (purTok_clamp htp) s _ _ _ _ _ (by omega) ?_ | refine eq_split hB (fun hm => ?_) (fun hm => ?_) | refine fbool_same hB (by omega) ?_ | refine ifk_step hB (Nat.ble_eq_true_of_le (Nat.le_refl _)) ?_ | refine pans_step hB (H43 _ _) ?_ | refine opt_step hB (frz_sn hD (l := [] ++ markIs d.ps.length sn.is pre) rfl hml hml2 _ _ _ _ _) ?_ | refine opt2_step hB (mn_ok rfl rfl) ?_ | refine opt2_step hB (mx_ok rfl rfl) ?_ | refine opt_step hB (and_gen (a := sn.all) (b := t) ha ht) ?_ | refine opt_step hB (or_gen (a := sn.some) (b := t) hs ht) ?_ | refine sob_step hB (hl1 _) (setTop2 hD) ?_ | refine add_step hB (by omega) (by omega) ?_ | refine purs_step hB rfl ?_ | refine lt_tt hB (by decide) ?_ | refine lt_ff hB (by decide) ?_ | refine le_tt hB (by decide) ?_ | refine le_ff hB (by decide) ?_ | refine eq_tt hB (by decide) ?_ | refine eq_ff hB (by decide) ?_ | refine fint_wrp hB (by omega) (by omega) ?_ | refine fint_step hB ?_ | refine fbool_tt hB ?_ | refine fbool_ff hB ?_ | refine fbool_split hB (fun _ => ?_) (fun _ => ?_) | refine ftok_step hB ?_ | refine frows_step hB ?_ | refine fstr_step hB ?_ | refine len_map hB ?_ | refine len_step hB ?_ | refine lens_step hB ?_ | refine byte_step hB ?_ | refine drop_step hB rfl ?_ | refine fl_step hB rfl ?_ | refine add_one hB (by first | omega | decide) ?_ | refine opt_step hB rfl ?_ | refine fnat_step hB ?_ | refine ifk_step hB rfl ?_ | refine ifk_step hB (flat_or rfl) ?_ | refine opt2_step hB rfl ?_ | refine obj_raw hB ?_ | refine sob_raw hB ?_ | refine fst_raw hB ?_ | refine optl_raw hB ?_ | refine tok_step hB rfl ?_) <;> conv => lhs; whnf)
      · have e : tell d sn [] t = ⟨1, [], t, t, 0, 0⟩ := by unfold tell; rw [if_pos hm, his]; rfl
        rw [e] at K
        exact K _ (.inl rfl)
      · have e : tell d sn [] t = ⟨sn.many + 1, [], sn.all &&& t, sn.some ||| t, loI sn.lo 0, hiI sn.hi 0⟩ := by unfold tell; rw [if_neg hm, his]; rfl
        rw [e] at K
        exact K _ (.inl rfl)
  · simp only [if_neg his] at hap
    rw [← hD] at hap
    rcases hv with ⟨tv, htv, rfl⟩ | ⟨lv, iv, rfl, hlv, hgv⟩
    · conv => lhs; whnf
      repeat' ((first | refine fnat_pred hB ?_ | refine tok_step hB htp ?_ | refine tok_step hB hd.tp ?_ | refine tok_step hB hd.tb ?_ | refine tok_step hB htv ?_ | refine obj_step hB (hl1 _) ((getObj_top hD).trans rfl) ?_ | refine eq_tt hB heq ?_ | refine appo_step hB (hap _) ?_ | refine a87_L1_step hB d hd hc pre (by omega) (purTok_clamp htp) s hD _ _ _ hp.ge hp.lt _ _ _ pre sn.is _ 0 [] [] 0 (by omega) rfl rfl rfl (by omega) hT.lt.2.2 (by omega) (by omega) (by omega) (fun x => ?_) | refine eq_split hB (fun hm => ?_) (fun hm => ?_) | refine fbool_same hB (by omega) ?_ | refine ifk_step hB (Nat.ble_eq_true_of_le (Nat.le_refl _)) ?_ | refine pans_step hB (H43 _ _) ?_ | refine opt_step hB (frz_sn hD (l := [] ++ markIs d.ps.length sn.is pre) rfl hml hml2 _ _ _ _ _) ?_ | refine opt2_step hB (mn_ok rfl rfl) ?_ | refine opt2_step hB (mx_ok rfl rfl) ?_ | refine opt_step hB (and_gen (a := sn.all) (b := t) ha ht) ?_ | refine opt_step hB (or_gen (a := sn.some) (b := t) hs ht) ?_ | refine sob_step hB (hl1 _) (setTop2 hD) ?_ | refine add_step hB (by omega) (by omega) ?_ | refine purs_step hB rfl ?_ | refine lt_tt hB (by decide) ?_ | refine lt_ff hB (by decide) ?_ | refine le_tt hB (by decide) ?_ | refine le_ff hB (by decide) ?_ | refine eq_tt hB (by decide) ?_ | refine eq_ff hB (by decide) ?_ | refine fint_wrp hB (by omega) (by omega) ?_ | refine fint_step hB ?_ | refine fbool_tt hB ?_ | refine fbool_ff hB ?_ | refine fbool_split hB (fun _ => ?_) (fun _ => ?_) | refine ftok_step hB ?_ | refine frows_step hB ?_ | refine fstr_step hB ?_ | refine len_map hB ?_ | refine len_step hB ?_ | refine lens_step hB ?_ | refine byte_step hB ?_ | refine drop_step hB rfl ?_ | refine fl_step hB rfl ?_ | refine add_one hB (by first | omega | decide) ?_ | refine opt_step hB rfl ?_ | refine fnat_step hB ?_ | refine ifk_step hB rfl ?_ | refine ifk_step hB (flat_or rfl) ?_ | refine opt2_step hB rfl ?_ | refine obj_raw hB ?_ | refine sob_raw hB ?_ | refine fst_raw hB ?_ | refine optl_raw hB ?_ | refine tok_step hB rfl ?_) <;> conv => lhs; whnf)
      · have e : tell d sn pre t = ⟨1, markIs d.ps.length sn.is pre, t, t, val d pre, val d pre⟩ := by unfold tell; rw [if_pos hm]
        rw [e] at K
        rw [List.nil_append, Int.zero_add]
        exact K _ (.inl (by rw [wt_ne (hmne his)]))
      · have e : tell d sn pre t = ⟨sn.many + 1, markIs d.ps.length sn.is pre, sn.all &&& t, sn.some ||| t, loI sn.lo (val d pre), hiI sn.hi (val d pre)⟩ := by unfold tell; rw [if_neg hm]
        rw [e] at K
        rw [List.nil_append, Int.zero_add]
        exact K _ (.inl (by rw [wt_ne (hmne his)]))
    · conv => lhs; whnf
      repeat' ((first | refine fnat_pred hB ?_ | refine tok_step hB htp ?_ | refine tok_step hB hd.tp ?_ | refine tok_step hB hd.tb ?_ | refine fnat_step hB ?_ | refine obj_step hB (hl1 _) ((getObj_top hD).trans rfl) ?_ | refine eq_tt hB heq ?_ | refine appo_step hB (hap _) ?_ | refine a87_L1_step hB d hd hc pre (by omega) (purTok_clamp htp) s hD _ _ _ hp.ge hp.lt _ _ _ pre sn.is _ 0 [] [] 0 (by omega) rfl rfl rfl (by omega) hT.lt.2.2 (by omega) (by omega) (by omega) (fun x => ?_) | refine eq_split hB (fun hm => ?_) (fun hm => ?_) | refine fbool_same hB (by omega) ?_ | refine ifk_step hB (Nat.ble_eq_true_of_le (Nat.le_refl _)) ?_ | refine pans_step hB (H43 _ _) ?_ | refine opt_step hB (frz_sn hD (l := [] ++ markIs d.ps.length sn.is pre) rfl hml hml2 _ _ _ _ _) ?_ | refine opt2_step hB (mn_ok rfl rfl) ?_ | refine opt2_step hB (mx_ok rfl rfl) ?_ | refine opt_step hB (and_gen (a := sn.all) (b := t) ha ht) ?_ | refine opt_step hB (or_gen (a := sn.some) (b := t) hs ht) ?_ | refine sob_step hB (hl1 _) (setTop2 hD) ?_ | refine add_step hB (by omega) (by omega) ?_ | refine purs_step hB rfl ?_ | refine lt_tt hB (by decide) ?_ | refine lt_ff hB (by decide) ?_ | refine le_tt hB (by decide) ?_ | refine le_ff hB (by decide) ?_ | refine eq_tt hB (by decide) ?_ | refine eq_ff hB (by decide) ?_ | refine fint_wrp hB (by omega) (by omega) ?_ | refine fint_step hB ?_ | refine fbool_tt hB ?_ | refine fbool_ff hB ?_ | refine fbool_split hB (fun _ => ?_) (fun _ => ?_) | refine ftok_step hB ?_ | refine frows_step hB ?_ | refine fstr_step hB ?_ | refine len_map hB ?_ | refine len_step hB ?_ | refine lens_step hB ?_ | refine byte_step hB ?_ | refine drop_step hB rfl ?_ | refine fl_step hB rfl ?_ | refine add_one hB (by first | omega | decide) ?_ | refine opt_step hB rfl ?_ | refine fnat_step hB ?_ | refine ifk_step hB rfl ?_ | refine ifk_step hB (flat_or rfl) ?_ | refine opt2_step hB rfl ?_ | refine obj_raw hB ?_ | refine sob_raw hB ?_ | refine fst_raw hB ?_ | refine optl_raw hB ?_ | refine tok_step hB rfl ?_) <;> conv => lhs; whnf)
      · have e : tell d sn pre t = ⟨1, markIs d.ps.length sn.is pre, t, t, val d pre, val d pre⟩ := by unfold tell; rw [if_pos hm]
        rw [e] at K
        rw [List.nil_append, Int.zero_add]
        exact K _ (.inl (by rw [wt_ne (hmne his)]))
      · have e : tell d sn pre t = ⟨sn.many + 1, markIs d.ps.length sn.is pre, sn.all &&& t, sn.some ||| t, loI sn.lo (val d pre), hiI sn.hi (val d pre)⟩ := by unfold tell; rw [if_neg hm]
        rw [e] at K
        rw [List.nil_append, Int.zero_add]
        exact K _ (.inl (by rw [wt_ne (hmne his)]))

theorem frz_v {s : St} {D : Nat} (hD : D = s.length) (f : Fr) {v : AV} {is : List Nat} (hv : IsV s v is) (sn : Sn) : frz (f :: s) D 1000 (.agg (sn.c v)) = some (.agg (sn.c v)) := by
  rcases hv with ⟨t, ht, rfl⟩ | ⟨l, i, rfl, h1, h2⟩
  · simp [frz, frzs, Sn.c, eraseTok_pur ht]
  · have : l < D := by omega
    simp [frz, frzs, Sn.c, this]

set_option maxHeartbeats 4000000 in
theorem walk_ev {d : Desk} (hd : d.ok) (hc : d.check = true) : ∀ (m : Nat) {n : Nat}, 1000000000000200 + 4 * m ≤ n → ∀ {pre : List Int} {t : Nat} (st : Int) {sn : Sn} {S : List Int → Prop} {M : Int}, Pre d m pre t → Tells d sn S M → M + cnt m ≤ 1000000000 → 0 ≤ st → st ≤ 6 →
    ∀ (s : St) {D : Nat} (_ : D = s.length) {v : AV} (_ : IsV s v sn.is) {tp : Tok} (_ : purTok tp = true) {zt : Int} (_ : zt = (t : Int)) (kont : AV → St → Ans) (r : Ans)
    (_ : ∀ v', IsR v sn.is v' (walkV d m pre t st sn).is → kont (.agg ((walkV d m pre t st sn).c v')) s = r),
    (evKR Bk Gx fsT n).1 D 87 [d.v, .sl (rowsI pre) tp, .int .i64 zt, .int .i64 st, .agg (sn.c v)] s kont = r := by
  intro m
  induction m with
  | zero =>
    intro n hn pre t st sn S M hp hT hM h0 h6 s D hD v hv tp htp zt hzt kont r K
    have : cnt 0 = 1 := rfl
    exact walk_leaf hd hc (by omega) st hp hT (by omega) s hD hv htp hzt kont r K
  | succ m ih =>
    intro n hn pre t st sn S M hp hT hM h0 h6 s D hD v hv tp htp zt hzt kont r K
    refine call_open (show fsT.find 87 = some a87 from rfl) (by omega) fun n' B cl rd hn' hB hcl hrd => ?_
    have hl1 : ∀ (g : Fr), D + 1 = (g :: s : St).length := fun _ => by simp [hD]
    have hnb := (check_fine hc).nb
    have hnp := (check_fine hc).np
    have hst := check_strange hc
    have hpl : pre.length + (m + 1) = d.bs.length := hp.len
    obtain ⟨b, hb⟩ : ∃ b, d.bs[pre.length]? = some b := ⟨d.bs[pre.length]'(by omega), by simp⟩
    have hxb : (d.bs.map Box.c)[pre.length]? = some b.c := by simp [hb]
    have hi : d.bs.length - (m + 1) = pre.length := by omega
    have hodd : oddB d pre.length = !b.stamp := by simp [oddB, hb]
    have ht : t < 256 := hp.small
    have hne : ¬ (Int.ofNat pre.length) = (Int.ofNat d.bs.length) := by simp only [Int.ofNat_eq_natCast]; omega
    have H40 : ∀ k : Nat, k < 9 → (evKR Bk Gx fsT n').1 0 40 [.int .i64 zt, .int .i64 (k : Int)] [] ansK = some (.bool (t.testBit k), []) := fun k hk => In_ev (n := n') (by omega) t k (by omega) hk hzt rfl
    have H56 : ∀ (k : Nat) (p : Parcel), d.ps[k]? = some p → (evKR Bk Gx fsT n').1 0 56 [d.v, .int .i64 (.ofNat pre.length), .int .i64 (k : Int)] [] ansK = some (.bool (couldB d b p), []) := fun k p hp => couldF_ev d hd hc _ k rfl rfl b p hb hp (by omega)
    have H90 : ∀ {t'} (_ : purTok t' = true) (z : Int), (evKR Bk Gx fsT n').1 0 90 [.sl (rowsI pre) t', .int .i64 z] [] ansK = some (.sl (rowsI (pre ++ [z])) .any, []) := fun ht' z => With_ev (n := n') (by omega) pre (by omega) ht' z
    have H87 : ∀ {pre : List Int} {t : Nat} (st : Int) {sn : Sn} {S : List Int → Prop} {M : Int}, Pre d m pre t → Tells d sn S M → M + cnt m ≤ 1000000000 → 0 ≤ st → st ≤ 6 →
        ∀ (s : St) {D : Nat} (_ : D = s.length) {v : AV} (_ : IsV s v sn.is) {tp : Tok} (_ : purTok tp = true) {zt : Int} (_ : zt = (t : Int)) (kont : AV → St → Ans) (r : Ans)
        (_ : ∀ v', IsR v sn.is v' (walkV d m pre t st sn).is → kont (.agg ((walkV d m pre t st sn).c v')) s = r),
        (evKR Bk Gx fsT n').1 D 87 [d.v, .sl (rowsI pre) tp, .int .i64 zt, .int .i64 st, .agg (sn.c v)] s kont = r := ih (by omega)
    rw [← hcl] at H40 H56 H90 H87
    let Q : Nat → Sn → Prop := fun k sn => ∃ S M, Tells d sn S M ∧ M + ((d.ps.length - k : Nat) : Int) * cnt m ≤ 1000000000
    have hcm := cnt_pos m
    have hQ : ∀ k sn, k < d.ps.length → fitsB d pre.length t k = true → Q k sn → Q (k + 1) (walkV d m (pre ++ [(k : Int)]) (t ||| 1 <<< k) st sn) := by
      rintro k sn hk _ ⟨S, M, h1, h2⟩
      refine ⟨_, _, walk_tells hnp m (st := st) (hp.par hk hnp) h1, ?_⟩
      have : ((d.ps.length - k : Nat) : Int) = ((d.ps.length - (k + 1) : Nat) : Int) + 1 := by omega
      rw [this, Int.add_mul] at h2
      omega
    have hQn : ∀ k sn, Q k sn → Q (k + 1) sn := by
      rintro k sn ⟨S, M, h1, h2⟩
      refine ⟨S, M, h1, ?_⟩
      have : ((d.ps.length - (k + 1) : Nat) : Int) * cnt m ≤ ((d.ps.length - k : Nat) : Int) * cnt m := Int.mul_le_mul_of_nonneg_right (by omega) hcm
      omega
    have hQe : ∀ k sn, Q k sn → sn.is ≠ [] := by
      rintro k sn ⟨S, M, h1, h2⟩ h
      have := h1.len
      rw [h] at this
      simp at this
      omega
    have hM9 : M + 9 * cnt m ≤ 1000000000 := hM
    have h8m : ((d.ps.length - 0 : Nat) : Int) * cnt m ≤ 8 * cnt m := Int.mul_le_mul_of_nonneg_right (by omega) hcm
    have HL := fun {t'} (ht' : purTok t' = true) => a87_L2_step hB (rd := rd) d hd hc pre.length t ht b hb st (zi := .ofNat pre.length) rfl hzt pre ht' s hD [.int .i64 0, .sl [] .nil, .int .i64 0, .int .i64 0, .int .i64 0, .int .i64 0] (walkV d m) H40 H56 (fun k => H90 ht' k) Q
      (fun k sn v f f' kont r hk hf hq hv K => by
        obtain ⟨S, M, h1, h2⟩ := hq
        have : (1 : Int) * cnt m ≤ ((d.ps.length - k : Nat) : Int) * cnt m := Int.mul_le_mul_of_nonneg_right (by omega) hcm
        exact H87 st (hp.par hk hnp) h1 (by omega) h0 h6 (f :: f' :: s) (by simp [hD]) ((hv.up f').up f) (tp := .any) rfl rfl kont r K) hQ hQn hQe
    have hw : walkV d (m + 1) pre t st sn = (opts d pre.length t).foldl (stepS d (walkV d m) pre t st) sn := by
      show (opts d (d.bs.length - (m + 1)) t).foldl _ _ = _
      rw [hi]
    rw [hw] at K
    unfold opts at K
    rw [hodd] at K
    rcases b with ⟨b1, b2, b3, b4, b5⟩
    have hv0 := hv
    cases b5
    · rw [show (!(Box.mk b1 b2 b3 b4 false).stamp) = true from rfl, if_pos rfl, List.foldl_cons] at K
      by_cases hs : st < d.strange
      · have hstep : stepS d (walkV d m) pre t st sn (-1) = walkV d m (pre ++ [-1]) t (st + 1) sn := by unfold stepS; rw [if_pos rfl, if_pos hs]
        rw [hstep] at K
        have hq : Q 0 (walkV d m (pre ++ [-1]) t (st + 1) sn) := ⟨_, _, walk_tells hnp m (st := st + 1) hp.odd hT, by omega⟩
        rcases hv with ⟨tv, htv, rfl⟩ | ⟨lv, iv, rfl, hlv, hgv⟩
        · conv => lhs; whnf
          repeat' ((first | refine fnat_pred hB ?_ | refine tok_step hB htp ?_ | refine tok_step hB hd.tp ?_ | refine tok_step hB hd.tb ?_ | refine tok_step hB htv ?_ | refine purs_step hB (by simp [purs, pur, hd.tp, hd.tb, htp]) ?_ | refine obj_step hB (hl1 _) ((getObj_top hD).trans rfl) ?_ | refine eq_ff hB hne ?_ | refine natOf_step hB (m := pre.length) rfl ?_ | refine nth_step hB hxb ?_ | refine lt_tt hB hs ?_ | refine add_step hB (by omega) (by omega) ?_ | refine pans_step hB (H90 htp (-1)) ?_ | refine H87 (st + 1) hp.odd hT (by omega) (by omega) (by omega) (_ :: s) (hl1 _) (hv0.up _) (tp := .any) rfl hzt _ _ (fun v1 hv1 => ?_) | refine fbool_same hB (by omega) ?_ | refine ifk_step hB (Nat.ble_eq_true_of_le (Nat.le_refl _)) ?_ | refine sob_step hB (hl1 _) (setTop1 hD) ?_ | refine sob_step hB (hl1 _) (setTop2 hD) ?_ | refine HL (purTok_clamp htp) _ _ _ _ 0 _ _ (by omega) (by omega) hq (hv1.isV hv0) (fun v2 x hv2 => ?_) | refine purs_step hB rfl ?_ | refine lt_tt hB (by decide) ?_ | refine lt_ff hB (by decide) ?_ | refine le_tt hB (by decide) ?_ | refine le_ff hB (by decide) ?_ | refine eq_tt hB (by decide) ?_ | refine eq_ff hB (by decide) ?_ | refine fint_wrp hB (by omega) (by omega) ?_ | refine fint_step hB ?_ | refine fbool_tt hB ?_ | refine fbool_ff hB ?_ | refine fbool_split hB (fun _ => ?_) (fun _ => ?_) | refine ftok_step hB ?_ | refine frows_step hB ?_ | refine fstr_step hB ?_ | refine len_map hB ?_ | refine len_step hB ?_ | refine lens_step hB ?_ | refine byte_step hB ?_ | refine drop_step hB rfl ?_ | refine fl_step hB rfl ?_ | refine add_one hB (by first | omega | decide) ?_ | refine opt_step hB rfl ?_ | refine fnat_step hB ?_ | refine ifk_step hB rfl ?_ | refine ifk_step hB (flat_or rfl) ?_ | refine opt2_step hB rfl ?_ | refine obj_raw hB ?_ | refine sob_raw hB ?_ | refine fst_raw hB ?_ | refine optl_raw hB ?_ | refine tok_step hB rfl ?_) <;> conv => lhs; whnf)
          have hR := hv1.trans hv2
          have hV := hR.isV hv0
          have hV2 := hV
          rcases hV with ⟨t2, ht2, rfl⟩ | ⟨l2, i2, rfl, hl2, hg2⟩
          · conv => lhs; whnf
            repeat' ((first | refine tok_step hB ht2 ?_ | refine purs_step hB rfl ?_ | refine lt_tt hB (by decide) ?_ | refine lt_ff hB (by decide) ?_ | refine le_tt hB (by decide) ?_ | refine le_ff hB (by decide) ?_ | refine eq_tt hB (by decide) ?_ | refine eq_ff hB (by decide) ?_ | refine fint_wrp hB (by omega) (by omega) ?_ | refine fint_step hB ?_ | refine fbool_tt hB ?_ | refine fbool_ff hB ?_ | refine fbool_split hB (fun _ => ?_) (fun _ => ?_) | refine ftok_step hB ?_ | refine frows_step hB ?_ | refine fstr_step hB ?_ | refine len_map hB ?_ | refine len_step hB ?_ | refine lens_step hB ?_ | refine byte_step hB ?_ | refine drop_step hB rfl ?_ | refine fl_step hB rfl ?_ | refine add_one hB (by first | omega | decide) ?_ | refine opt_step hB rfl ?_ | refine fnat_step hB ?_ | refine ifk_step hB rfl ?_ | refine ifk_step hB (flat_or rfl) ?_ | refine opt2_step hB rfl ?_ | refine obj_raw hB ?_ | refine sob_raw hB ?_ | refine fst_raw hB ?_ | refine optl_raw hB ?_ | refine tok_step hB rfl ?_) <;> conv => lhs; whnf)
            exact K _ hR
          · conv => lhs; whnf
            repeat' ((first | refine opt_step hB (frz_v hD _ hV2 _) ?_ | refine purs_step hB rfl ?_ | refine lt_tt hB (by decide) ?_ | refine lt_ff hB (by decide) ?_ | refine le_tt hB (by decide) ?_ | refine le_ff hB (by decide) ?_ | refine eq_tt hB (by decide) ?_ | refine eq_ff hB (by decide) ?_ | refine fint_wrp hB (by omega) (by omega) ?_ | refine fint_step hB ?_ | refine fbool_tt hB ?_ | refine fbool_ff hB ?_ | refine fbool_split hB (fun _ => ?_) (fun _ => ?_) | refine ftok_step hB ?_ | refine frows_step hB ?_ | refine fstr_step hB ?_ | refine len_map hB ?_ | refine len_step hB ?_ | refine lens_step hB ?_ | refine byte_step hB ?_ | refine drop_step hB rfl ?_ | refine fl_step hB rfl ?_ | refine add_one hB (by first | omega | decide) ?_ | refine opt_step hB rfl ?_ | refine fnat_step hB ?_ | refine ifk_step hB rfl ?_ | refine ifk_step hB (flat_or rfl) ?_ | refine opt2_step hB rfl ?_ | refine obj_raw hB ?_ | refine sob_raw hB ?_ | refine fst_raw hB ?_ | refine optl_raw hB ?_ | refine tok_step hB rfl ?_) <;> conv => lhs; whnf)
            exact K _ hR
        · conv => lhs; whnf
          repeat' ((first | refine fnat_pred hB ?_ | refine tok_step hB htp ?_ | refine tok_step hB hd.tp ?_ | refine tok_step hB hd.tb ?_ | refine fnat_step hB ?_ | refine purs_step hB (by simp [purs, pur, hd.tp, hd.tb, htp]) ?_ | refine obj_step hB (hl1 _) ((getObj_top hD).trans rfl) ?_ | refine eq_ff hB hne ?_ | refine natOf_step hB (m := pre.length) rfl ?_ | refine nth_step hB hxb ?_ | refine lt_tt hB hs ?_ | refine add_step hB (by omega) (by omega) ?_ | refine pans_step hB (H90 htp (-1)) ?_ | refine H87 (st + 1) hp.odd hT (by omega) (by omega) (by omega) (_ :: s) (hl1 _) (hv0.up _) (tp := .any) rfl hzt _ _ (fun v1 hv1 => ?_) | refine fbool_same hB (by omega) ?_ | refine ifk_step hB (Nat.ble_eq_true_of_le (Nat.le_refl _)) ?_ | refine sob_step hB (hl1 _) (setTop1 hD) ?_ | refine sob_step hB (hl1 _) (setTop2 hD) ?_ | refine HL (purTok_clamp htp) _ _ _ _ 0 _ _ (by omega) (by omega) hq (hv1.isV hv0) (fun v2 x hv2 => ?_) | refine purs_step hB rfl ?_ | refine lt_tt hB (by decide) ?_ | refine lt_ff hB (by decide) ?_ | refine le_tt hB (by decide) ?_ | refine le_ff hB (by decide) ?_ | refine eq_tt hB (by decide) ?_ | refine eq_ff hB (by decide) ?_ | refine fint_wrp hB (by omega) (by omega) ?_ | refine fint_step hB ?_ | refine fbool_tt hB ?_ | refine fbool_ff hB ?_ | refine fbool_split hB (fun _ => ?_) (fun _ => ?_) | refine ftok_step hB ?_ | refine frows_step hB ?_ | refine fstr_step hB ?_ | refine len_map hB ?_ | refine len_step hB ?_ | refine lens_step hB ?_ | refine byte_step hB ?_ | refine drop_step hB rfl ?_ | refine fl_step hB rfl ?_ | refine add_one hB (by first | omega | decide) ?_ | refine opt_step hB rfl ?_ | refine fnat_step hB ?_ | refine ifk_step hB rfl ?_ | refine ifk_step hB (flat_or rfl) ?_ | refine opt2_step hB rfl ?_ | refine obj_raw hB ?_ | refine sob_raw hB ?_ | refine fst_raw hB ?_ | refine optl_raw hB ?_ | refine tok_step hB rfl ?_) <;> conv => lhs; whnf)
          have hR := hv1.trans hv2
          have hV := hR.isV hv0
          have hV2 := hV
          rcases hV with ⟨t2, ht2, rfl⟩ | ⟨l2, i2, rfl, hl2, hg2⟩
          · conv => lhs; whnf
            repeat' ((first | refine tok_step hB ht2 ?_ | refine purs_step hB rfl ?_ | refine lt_tt hB (by decide) ?_ | refine lt_ff hB (by decide) ?_ | refine le_tt hB (by decide) ?_ | refine le_ff hB (by decide) ?_ | refine eq_tt hB (by decide) ?_ | refine eq_ff hB (by decide) ?_ | refine fint_wrp hB (by omega) (by omega) ?_ | refine fint_step hB ?_ | refine fbool_tt hB ?_ | refine fbool_ff hB ?_ | refine fbool_split hB (fun _ => ?_) (fun _ => ?_) | refine ftok_step hB ?_ | refine frows_step hB ?_ | refine fstr_step hB ?_ | refine len_map hB ?_ | refine len_step hB ?_ | refine lens_step hB ?_ | refine byte_step hB ?_ | refine drop_step hB rfl ?_ | refine fl_step hB rfl ?_ | refine add_one hB (by first | omega | decide) ?_ | refine opt_step hB rfl ?_ | refine fnat_step hB ?_ | refine ifk_step hB rfl ?_ | refine ifk_step hB (flat_or rfl) ?_ | refine opt2_step hB rfl ?_ | refine obj_raw hB ?_ | refine sob_raw hB ?_ | refine fst_raw hB ?_ | refine optl_raw hB ?_ | refine tok_step hB rfl ?_) <;> conv => lhs; whnf)
            exact K _ hR
          · conv => lhs; whnf
            repeat' ((first | refine opt_step hB (frz_v hD _ hV2 _) ?_ | refine purs_step hB rfl ?_ | refine lt_tt hB (by decide) ?_ | refine lt_ff hB (by decide) ?_ | refine le_tt hB (by decide) ?_ | refine le_ff hB (by decide) ?_ | refine eq_tt hB (by decide) ?_ | refine eq_ff hB (by decide) ?_ | refine fint_wrp hB (by omega) (by omega) ?_ | refine fint_step hB ?_ | refine fbool_tt hB ?_ | refine fbool_ff hB ?_ | refine fbool_split hB (fun _ => ?_) (fun _ => ?_) | refine ftok_step hB ?_ | refine frows_step hB ?_ | refine fstr_step hB ?_ | refine len_map hB ?_ | refine len_step hB ?_ | refine lens_step hB ?_ | refine byte_step hB ?_ | refine drop_step hB rfl ?_ | refine fl_step hB rfl ?_ | refine add_one hB (by first | omega | decide) ?_ | refine opt_step hB rfl ?_ | refine fnat_step hB ?_ | refine ifk_step hB rfl ?_ | refine ifk_step hB (flat_or rfl) ?_ | refine opt2_step hB rfl ?_ | refine obj_raw hB ?_ | refine sob_raw hB ?_ | refine fst_raw hB ?_ | refine optl_raw hB ?_ | refine tok_step hB rfl ?_) <;> conv => lhs; whnf)
            exact K _ hR
      · have hstep : stepS d (walkV d m) pre t st sn (-1) = sn := by unfold stepS; rw [if_pos rfl, if_neg hs]
        rw [hstep] at K
        have hq : Q 0 sn := ⟨_, _, hT, by omega⟩
        rcases hv with ⟨tv, htv, rfl⟩ | ⟨lv, iv, rfl, hlv, hgv⟩
        · conv => lhs; whnf
          repeat' ((first | refine fnat_pred hB ?_ | refine tok_step hB htp ?_ | refine tok_step hB hd.tp ?_ | refine tok_step hB hd.tb ?_ | refine tok_step hB htv ?_ | refine purs_step hB (by simp [purs, pur, hd.tp, hd.tb, htp]) ?_ | refine obj_step hB (hl1 _) ((getObj_top hD).trans rfl) ?_ | refine eq_ff hB hne ?_ | refine natOf_step hB (m := pre.length) rfl ?_ | refine nth_step hB hxb ?_ | refine lt_ff hB hs ?_ | refine fbool_same hB (by omega) ?_ | refine ifk_step hB (Nat.ble_eq_true_of_le (Nat.le_refl _)) ?_ | refine sob_step hB (hl1 _) (setTop1 hD) ?_ | refine sob_step hB (hl1 _) (setTop2 hD) ?_ | refine HL (purTok_clamp htp) _ _ _ _ 0 _ _ (by omega) (by omega) hq hv0 (fun v2 x hv2 => ?_) | refine purs_step hB rfl ?_ | refine lt_tt hB (by decide) ?_ | refine lt_ff hB (by decide) ?_ | refine le_tt hB (by decide) ?_ | refine le_ff hB (by decide) ?_ | refine eq_tt hB (by decide) ?_ | refine eq_ff hB (by decide) ?_ | refine fint_wrp hB (by omega) (by omega) ?_ | refine fint_step hB ?_ | refine fbool_tt hB ?_ | refine fbool_ff hB ?_ | refine fbool_split hB (fun _ => ?_) (fun _ => ?_) | refine ftok_step hB ?_ | refine frows_step hB ?_ | refine fstr_step hB ?_ | refine len_map hB ?_ | refine len_step hB ?_ | refine lens_step hB ?_ | refine byte_step hB ?_ | refine drop_step hB rfl ?_ | refine fl_step hB rfl ?_ | refine add_one hB (by first | omega | decide) ?_ | refine opt_step hB rfl ?_ | refine fnat_step hB ?_ | refine ifk_step hB rfl ?_ | refine ifk_step hB (flat_or rfl) ?_ | refine opt2_step hB rfl ?_ | refine obj_raw hB ?_ | refine sob_raw hB ?_ | refine fst_raw hB ?_ | refine optl_raw hB ?_ | refine tok_step hB rfl ?_) <;> conv => lhs; whnf)
          have hR := hv2
          have hV := hR.isV hv0
          have hV2 := hV
          rcases hV with ⟨t2, ht2, rfl⟩ | ⟨l2, i2, rfl, hl2, hg2⟩
          · conv => lhs; whnf
            repeat' ((first | refine tok_step hB ht2 ?_ | refine purs_step hB rfl ?_ | refine lt_tt hB (by decide) ?_ | refine lt_ff hB (by decide) ?_ | refine le_tt hB (by decide) ?_ | refine le_ff hB (by decide) ?_ | refine eq_tt hB (by decide) ?_ | refine eq_ff hB (by decide) ?_ | refine fint_wrp hB (by omega) (by omega) ?_ | refine fint_step hB ?_ | refine fbool_tt hB ?_ | refine fbool_ff hB ?_ | refine fbool_split hB (fun _ => ?_) (fun _ => ?_) | refine ftok_step hB ?_ | refine frows_step hB ?_ | refine fstr_step hB ?_ | refine len_map hB ?_ | refine len_step hB ?_ | refine lens_step hB ?_ | refine byte_step hB ?_ | refine drop_step hB rfl ?_ | refine fl_step hB rfl ?_ | refine add_one hB (by first | omega | decide) ?_ | refine opt_step hB rfl ?_ | refine fnat_step hB ?_ | refine ifk_step hB rfl ?_ | refine ifk_step hB (flat_or rfl) ?_ | refine opt2_step hB rfl ?_ | refine obj_raw hB ?_ | refine sob_raw hB ?_ | refine fst_raw hB ?_ | refine optl_raw hB ?_ | refine tok_step hB rfl ?_) <;> conv => lhs; whnf)
            exact K _ hR
          · conv => lhs; whnf
            repeat' ((first | refine opt_step hB (frz_v hD _ hV2 _) ?_ | refine purs_step hB rfl ?_ | refine lt_tt hB (by decide) ?_ | refine lt_ff hB (by decide) ?_ | refine le_tt hB (by decide) ?_ | refine le_ff hB (by decide) ?_ | refine eq_tt hB (by decide) ?_ | refine eq_ff hB (by decide) ?_ | refine fint_wrp hB (by omega) (by omega) ?_ | refine fint_step hB ?_ | refine fbool_tt hB ?_ | refine fbool_ff hB ?_ | refine fbool_split hB (fun _ => ?_) (fun _ => ?_) | refine ftok_step hB ?_ | refine frows_step hB ?_ | refine fstr_step hB ?_ | refine len_map hB ?_ | refine len_step hB ?_ | refine lens_step hB ?_ | refine byte_step hB ?_ | refine drop_step hB rfl ?_ | refine fl_step hB rfl ?_ | refine add_one hB (by first | omega | decide) ?_ | refine opt_step hB rfl ?_ | refine fnat_step hB ?_ | refine ifk_step hB rfl ?_ | refine ifk_step hB (flat_or rfl) ?_ | refine opt2_step hB rfl ?_ | refine obj_raw hB ?_ | refine sob_raw hB ?_ | refine fst_raw hB ?_ | refine optl_raw hB ?_ | refine tok_step hB rfl ?_) <;> conv => lhs; whnf)
            exact K _ hR
        · conv => lhs; whnf
          repeat' ((first | refine fnat_pred hB ?_ | refine tok_step hB htp ?_ | refine tok_step hB hd.tp ?_ | refine tok_step hB hd.tb ?_ | refine fnat_step hB ?_ | refine purs_step hB (by simp [purs, pur, hd.tp, hd.tb, htp]) ?_ | refine obj_step hB (hl1 _) ((getObj_top hD).trans rfl) ?_ | refine eq_ff hB hne ?_ | refine natOf_step hB (m := pre.length) rfl ?_ | refine nth_step hB hxb ?_ | refine lt_ff hB hs ?_ | refine fbool_same hB (by omega) ?_ | refine ifk_step hB (Nat.ble_eq_true_of_le (Nat.le_refl _)) ?_ | refine sob_step hB (hl1 _) (setTop1 hD) ?_ | refine sob_step hB (hl1 _) (setTop2 hD) ?_ | refine HL (purTok_clamp htp) _ _ _ _ 0 _ _ (by omega) (by omega) hq hv0 (fun v2 x hv2 => ?_) | refine purs_step hB rfl ?_ | refine lt_tt hB (by decide) ?_ | refine lt_ff hB (by decide) ?_ | refine le_tt hB (by decide) ?_ | refine le_ff hB (by decide) ?_ | refine eq_tt hB (by decide) ?_ | refine eq_ff hB (by decide) ?_ | refine fint_wrp hB (by omega) (by omega) ?_ | refine fint_step hB ?_ | refine fbool_tt hB ?_ | refine fbool_ff hB ?_ | refine fbool_split hB (fun _ => ?_) (fun _ => ?_) | refine ftok_step hB ?_ | refine frows_step hB ?_ | refine fstr_step hB ?_ | refine len_map hB ?_ | refine len_step hB ?_ | refine lens_step hB ?_ | refine byte_step hB ?_ | refine drop_step hB rfl ?_ | refine fl_step hB rfl ?_ | refine add_one hB (by first | omega | decide) ?_ | refine opt_step hB rfl ?_ | refine fnat_step hB ?_ | refine ifk_step hB rfl ?_ | refine ifk_step hB (flat_or rfl) ?_ | refine opt2_step hB rfl ?_ | refine obj_raw hB ?_ | refine sob_raw hB ?_ | refine fst_raw hB ?_ | refine optl_raw hB ?_ | refine tok_step hB rfl ?_) <;> conv => lhs; whnf)
          have hR := hv2
          have hV := hR.isV hv0
          have hV2 := hV
          rcases hV with ⟨t2, ht2, rfl⟩ | ⟨l2, i2, rfl, hl2, hg2⟩
          · conv => lhs; whnf
            repeat' ((first | refine tok_step hB ht2 ?_ | refine purs_step hB rfl ?_ | refine lt_tt hB (by decide) ?_ | refine lt_ff hB (by decide) ?_ | refine le_tt hB (by decide) ?_ | refine le_ff hB (by decide) ?_ | refine eq_tt hB (by decide) ?_ | refine eq_ff hB (by decide) ?_ | refine fint_wrp hB (by omega) (by omega) ?_ | refine fint_step hB ?_ | refine fbool_tt hB ?_ | refine fbool_ff hB ?_ | refine fbool_split hB (fun _ => ?_) (fun _ => ?_) | refine ftok_step hB ?_ | refine frows_step hB ?_ | refine fstr_step hB ?_ | refine len_map hB ?_ | refine len_step hB ?_ | refine lens_step hB ?_ | refine byte_step hB ?_ | refine drop_step hB rfl ?_ | refine fl_step hB rfl ?_ | refine add_one hB (by first | omega | decide) ?_ | refine opt_step hB rfl ?_ | refine fnat_step hB ?_ | refine ifk_step hB rfl ?_ | refine ifk_step hB (flat_or rfl) ?_ | refine opt2_step hB rfl ?_ | refine obj_raw hB ?_ | refine sob_raw hB ?_ | refine fst_raw hB ?_ | refine optl_raw hB ?_ | refine tok_step hB rfl ?_) <;> conv => lhs; whnf)
            exact K _ hR
          · conv => lhs; whnf
            repeat' ((first | refine opt_step hB (frz_v hD _ hV2 _) ?_ | refine purs_step hB rfl ?_ | refine lt_tt hB (by decide) ?_ | refine lt_ff hB (by decide) ?_ | refine le_tt hB (by decide) ?_ | refine le_ff hB (by decide) ?_ | refine eq_tt hB (by decide) ?_ | refine eq_ff hB (by decide) ?_ | refine fint_wrp hB (by omega) (by omega) ?_ | refine fint_step hB ?_ | refine fbool_tt hB ?_ | refine fbool_ff hB ?_ | refine fbool_split hB (fun _ => ?_) (fun _ => ?_) | refine ftok_step hB ?_ | refine frows_step hB ?_ | refine fstr_step hB ?_ | refine len_map hB ?_ | refine len_step hB ?_ | refine lens_step hB ?_ | refine byte_step hB ?_ | refine drop_step hB rfl ?_ | refine fl_step hB rfl ?_ | refine add_one hB (by first | omega | decide) ?_ | refine opt_step hB rfl ?_ | refine fnat_step hB ?_ | refine ifk_step hB rfl ?_ | refine ifk_step hB (flat_or rfl) ?_ | refine opt2_step hB rfl ?_ | refine obj_raw hB ?_ | refine sob_raw hB ?_ | refine fst_raw hB ?_ | refine optl_raw hB ?_ | refine tok_step hB rfl ?_) <;> conv => lhs; whnf)
            exact K _ hR
    · rw [show (!(Box.mk b1 b2 b3 b4 true).stamp) = false from rfl, if_neg (by decide)] at K
      have hq : Q 0 sn := ⟨_, _, hT, by omega⟩
      rcases hv with ⟨tv, htv, rfl⟩ | ⟨lv, iv, rfl, hlv, hgv⟩
      · conv => lhs; whnf
        repeat' ((first | refine fnat_pred hB ?_ | refine tok_step hB htp ?_ | refine tok_step hB hd.tp ?_ | refine tok_step hB hd.tb ?_ | refine tok_step hB htv ?_ | refine purs_step hB (by simp [purs, pur, hd.tp, hd.tb, htp]) ?_ | refine obj_step hB (hl1 _) ((getObj_top hD).trans rfl) ?_ | refine eq_ff hB hne ?_ | refine natOf_step hB (m := pre.length) rfl ?_ | refine nth_step hB hxb ?_ | refine lt_ff hB hs ?_ | refine fbool_same hB (by omega) ?_ | refine ifk_step hB (Nat.ble_eq_true_of_le (Nat.le_refl _)) ?_ | refine sob_step hB (hl1 _) (setTop1 hD) ?_ | refine sob_step hB (hl1 _) (setTop2 hD) ?_ | refine HL (purTok_clamp htp) _ _ _ _ 0 _ _ (by omega) (by omega) hq hv0 (fun v2 x hv2 => ?_) | refine purs_step hB rfl ?_ | refine lt_tt hB (by decide) ?_ | refine lt_ff hB (by decide) ?_ | refine le_tt hB (by decide) ?_ | refine le_ff hB (by decide) ?_ | refine eq_tt hB (by decide) ?_ | refine eq_ff hB (by decide) ?_ | refine fint_wrp hB (by omega) (by omega) ?_ | refine fint_step hB ?_ | refine fbool_tt hB ?_ | refine fbool_ff hB ?_ | refine fbool_split hB (fun _ => ?_) (fun _ => ?_) | refine ftok_step hB ?_ | refine frows_step hB ?_ | refine fstr_step hB ?_ | refine len_map hB ?_ | refine len_step hB ?_ | refine lens_step hB ?_ | refine byte_step hB ?_ | refine drop_step hB rfl ?_ | refine fl_step hB rfl ?_ | refine add_one hB (by first | omega | decide) ?_ | refine opt_step hB rfl ?_ | refine fnat_step hB ?_ | refine ifk_step hB rfl ?_ | refine ifk_step hB (flat_or rfl) ?_ | refine opt2_step hB rfl ?_ | refine obj_raw hB ?_ | refine sob_raw hB ?_ | refine fst_raw hB ?_ | refine optl_raw hB ?_ | refine tok_step hB rfl ?_) <;> conv => lhs; whnf)
        have hR := hv2
        have hV := hR.isV hv0
        have hV2 := hV
        rcases hV with ⟨t2, ht2, rfl⟩ | ⟨l2, i2, rfl, hl2, hg2⟩
        · conv => lhs; whnf
          repeat' ((first | refine tok_step hB ht2 ?_ | refine purs_step hB rfl ?_ | refine lt_tt hB (by decide) ?_ | refine lt_ff hB (by decide) ?_ | refine le_tt hB (by decide) ?_ | refine le_ff hB (by decide) ?_ | refine eq_tt hB (by decide) ?_ | refine eq_ff hB (by decide) ?_ | refine fint_wrp hB (by omega) (by omega) ?_ | refine fint_step hB ?_ | refine fbool_tt hB ?_ | refine fbool_ff hB ?_ | refine fbool_split hB (fun _ => ?_) (fun _ => ?_) | refine ftok_step hB ?_ | refine frows_step hB ?_ | refine fstr_step hB ?_ | refine len_map hB ?_ | refine len_step hB ?_ | refine lens_step hB ?_ | refine byte_step hB ?_ | refine drop_step hB rfl ?_ | refine fl_step hB rfl ?_ | refine add_one hB (by first | omega | decide) ?_ | refine opt_step hB rfl ?_ | refine fnat_step hB ?_ | refine ifk_step hB rfl ?_ | refine ifk_step hB (flat_or rfl) ?_ | refine opt2_step hB rfl ?_ | refine obj_raw hB ?_ | refine sob_raw hB ?_ | refine fst_raw hB ?_ | refine optl_raw hB ?_ | refine tok_step hB rfl ?_) <;> conv => lhs; whnf)
          exact K _ hR
        · conv => lhs; whnf
          repeat' ((first | refine opt_step hB (frz_v hD _ hV2 _) ?_ | refine purs_step hB rfl ?_ | refine lt_tt hB (by decide) ?_ | refine lt_ff hB (by decide) ?_ | refine le_tt hB (by decide) ?_ | refine le_ff hB (by decide) ?_ | refine eq_tt hB (by decide) ?_ | refine eq_ff hB (by decide) ?_ | refine fint_wrp hB (by omega) (by omega) ?_ | refine fint_step hB ?_ | refine fbool_tt hB ?_ | refine fbool_ff hB ?_ | refine fbool_split hB (fun _ => ?_) (fun _ => ?_) | refine ftok_step hB ?_ | refine frows_step hB ?_ | refine fstr_step hB ?_ | refine len_map hB ?_ | refine len_step hB ?_ | refine lens_step hB ?_ | refine byte_step hB ?_ | refine drop_step hB rfl ?_ | refine fl_step hB rfl ?_ | refine add_one hB (by first | omega | decide) ?_ | refine opt_step hB rfl ?_ | refine fnat_step hB ?_ | refine ifk_step hB rfl ?_ | refine ifk_step hB (flat_or rfl) ?_ | refine opt2_step hB rfl ?_ | refine obj_raw hB ?_ | refine sob_raw hB ?_ | refine fst_raw hB ?_ | refine optl_raw hB ?_ | refine tok_step hB rfl ?_) <;> conv => lhs; whnf)
          exact K _ hR
      · conv => lhs; whnf
        repeat' ((first | refine fnat_pred hB ?_ | refine tok_step hB htp ?_ | refine tok_step hB hd.tp ?_ | refine tok_step hB hd.tb ?_ | refine fnat_step hB ?_ | refine purs_step hB (by simp [purs, pur, hd.tp, hd.tb, htp]) ?_ | refine obj_step hB (hl1 _) ((getObj_top hD).trans rfl) ?_ | refine eq_ff hB hne ?_ | refine natOf_step hB (m := pre.length) rfl ?_ | refine nth_step hB hxb ?_ | refine lt_ff hB hs ?_ | refine fbool_same hB (by omega) ?_ | refine ifk_step hB (Nat.ble_eq_true_of_le (Nat.le_refl _)) ?_ | refine sob_step hB (hl1 _) (setTop1 hD) ?_ | refine sob_step hB (hl1 _) (setTop2 hD) ?_ | refine HL (purTok_clamp htp) _ _ _ _ 0 _ _ (by omega) (by omega) hq hv0 (fun v2 x hv2 => ?_) | refine purs_step hB rfl ?_ | refine lt_tt hB (by decide) ?_ | refine lt_ff hB (by decide) ?_ | refine le_tt hB (by decide) ?_ | refine le_ff hB (by decide) ?_ | refine eq_tt hB (by decide) ?_ | refine eq_ff hB (by decide) ?_ | refine fint_wrp hB (by omega) (by omega) ?_ | refine fint_step hB ?_ | refine fbool_tt hB ?_ | refine fbool_ff hB ?_ | refine fbool_split hB (fun _ => ?_) (fun _ => ?_) | refine ftok_step hB ?_ | refine frows_step hB ?_ | refine fstr_step hB ?_ | refine len_map hB ?_ | refine len_step hB ?_ | refine lens_step hB ?_ | refine byte_step hB ?_ | refine drop_step hB rfl ?_ | refine fl_step hB rfl ?_ | refine add_one hB (by first | omega | decide) ?_ | refine opt_step hB rfl ?_ | refine fnat_step hB ?_ | refine ifk_step hB rfl ?_ | refine ifk_step hB (flat_or rfl) ?_ | refine opt2_step hB rfl ?_ | refine obj_raw hB ?_ | refine sob_raw hB ?_ | refine fst_raw hB ?_ | refine optl_raw hB ?_ | refine tok_step hB rfl ?_) <;> conv => lhs; whnf)
        have hR := hv2
        have hV := hR.isV hv0
        have hV2 := hV
        rcases hV with ⟨t2, ht2, rfl⟩ | ⟨l2, i2, rfl, hl2, hg2⟩
        · conv => lhs; whnf
          repeat' ((first | refine tok_step hB ht2 ?_ | refine purs_step hB rfl ?_ | refine lt_tt hB (by decide) ?_ | refine lt_ff hB (by decide) ?_ | refine le_tt hB (by decide) ?_ | refine le_ff hB (by decide) ?_ | refine eq_tt hB (by decide) ?_ | refine eq_ff hB (by decide) ?_ | refine fint_wrp hB (by omega) (by omega) ?_ | refine fint_step hB ?_ | refine fbool_tt hB ?_ | refine fbool_ff hB ?_ | refine fbool_split hB (fun _ => ?_) (fun _ => ?_) | refine ftok_step hB ?_ | refine frows_step hB ?_ | refine fstr_step hB ?_ | refine len_map hB ?_ | refine len_step hB ?_ | refine lens_step hB ?_ | refine byte_step hB ?_ | refine drop_step hB rfl ?_ | refine fl_step hB rfl ?_ | refine add_one hB (by first | omega | decide) ?_ | refine opt_step hB rfl ?_ | refine fnat_step hB ?_ | refine ifk_step hB rfl ?_ | refine ifk_step hB (flat_or rfl) ?_ | refine opt2_step hB rfl ?_ | refine obj_raw hB ?_ | refine sob_raw hB ?_ | refine fst_raw hB ?_ | refine optl_raw hB ?_ | refine tok_step hB rfl ?_) <;> conv => lhs; whnf)
          exact K _ hR
        · conv => lhs; whnf
          repeat' ((first | refine opt_step hB (frz_v hD _ hV2 _) ?_ | refine purs_step hB rfl ?_ | refine lt_tt hB (by decide) ?_ | refine lt_ff hB (by decide) ?_ | refine le_tt hB (by decide) ?_ | refine le_ff hB (by decide) ?_ | refine eq_tt hB (by decide) ?_ | refine eq_ff hB (by decide) ?_ | refine fint_wrp hB (by omega) (by omega) ?_ | refine fint_step hB ?_ | refine fbool_tt hB ?_ | refine fbool_ff hB ?_ | refine fbool_split hB (fun _ => ?_) (fun _ => ?_) | refine ftok_step hB ?_ | refine frows_step hB ?_ | refine fstr_step hB ?_ | refine len_map hB ?_ | refine len_step hB ?_ | refine lens_step hB ?_ | refine byte_step hB ?_ | refine drop_step hB rfl ?_ | refine fl_step hB rfl ?_ | refine add_one hB (by first | omega | decide) ?_ | refine opt_step hB rfl ?_ | refine fnat_step hB ?_ | refine ifk_step hB rfl ?_ | refine ifk_step hB (flat_or rfl) ?_ | refine opt2_step hB rfl ?_ | refine obj_raw hB ?_ | refine sob_raw hB ?_ | refine fst_raw hB ?_ | refine optl_raw hB ?_ | refine tok_step hB rfl ?_) <;> conv => lhs; whnf)
          exact K _ hR
end Go.Ab.Cl
