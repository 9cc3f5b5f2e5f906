/-
  The claims: Wrong.
-/
import Derived.Test.YthbekoofiienjaaDoorClKc
import Derived.Test.YthbekoofiienjaaDoorClZ
import Derived.Test.YthbekoofiienjaaDoorClD
import Derived.Test.YthbekoofiienjaaDoorClJc
namespace Go.Ab.Cl
open Go.Ab

set_option maxHeartbeats 4000000 in
theorem choose_ev {d : Desk} (hd : d.ok) (hc : d.check = true) : ∀ (m : Nat) {n : Nat}, 1000000000000400 + 4 * m ≤ n → ∀ (j : Nat) (l : List Nat), (∀ x ∈ l, x < j) → l.length + m ≤ 100 → j ≤ d.bs.length →
    ∀ (s : St) {D : Nat} (_ : D = s.length) (_ : 0 < s.length) (_ : getObj s 0 1 = some (.cells [.fn 78 [] [.ptr 0 1 0]])) {v : AV} (_ : IsBx s v (unsB d.bs (inL l))) {tk : Tok} (_ : tk = wtk l) {zj zm : Int} (_ : zj = (j : Int)) (_ : zm = ((l.length + m : Nat) : Int)) (kont : AV → St → Ans) (r : Ans)
    (_ : ∀ x, chooseV d m j l = some x → kont (.tup [.sl (rowsI (nats x)) (wtk x), .bool true]) s = r)
    (_ : chooseV d m j l = none → ∀ x t, purTok t = true → kont (.tup [.sl (rowsI x) t, .bool false]) s = r),
    (evKR Bk Gx fsT n).1 D 78 [.agg (dcB d v), .int .i64 zj, .int .i64 zm, .sl (rowsI (nats l)) tk, .ptr 0 1 0] s kont = r := by
  intro m
  induction m with
  | zero =>
    intro n hn j l hlj hl100 hj s D hD h0 hS v hv tk htk0 zj zm hzj hzm kont r K K0
    have htk : purTok tk = true := by rw [htk0]; exact wtk_pur l
    refine call_open (show fsT.find 78 = some a78 from rfl) (by omega) fun n' B cl rd hn' hB hcl hrd => ?_
    have hl1 : ∀ (g : Fr), D + 1 = (g :: s : St).length := fun _ => by simp [hD]
    have H75 : ∀ tb, purTok tb = true → (evKR Bk Gx fsT n').1 0 75 [(unS d (inL l) tb).v] [] ansK = some (.bool (tW d (inL l)), []) := fun tb htb => by
      rw [← tW_tok hc (inL l) tb]
      exact true_ev (n := n') (by omega) (unS d (inL l) tb) (unS_ok hd htb) (by rw [unS_check]; exact hc)
    rw [← hcl] at H75
    have heq : (Int.ofNat (nats l).length) = zm := by
      rw [hzm]; unfold nats; rw [List.length_map]; rfl
    have e0 : chooseV d 0 j l = if tW d (inL l) = true then some l else none := rfl
    rw [e0] at K K0
    have hv0 := hv
    have hbl : (unsB d.bs (inL l)).length = ((unsB d.bs (inL l)).map Box.c).length := by simp
    rcases hv with ⟨tv, htv, rfl⟩ | ⟨lv, iv, rfl, hlv, hgv⟩
    · conv => lhs; whnf
      repeat' ((first | refine fnat_pred hB ?_ | refine tok_step hB htk ?_ | refine tok_step hB hd.tp ?_ | refine tok_step hB htv ?_ | refine obj_step hB (hl1 _) ((getObj_top hD).trans rfl) ?_ | refine len_map hB ?_ | refine eq_tt hB heq ?_ | refine purs_step hB (by simp [purs, pur, hd.tp, htv]) ?_ | refine pans_step hB (H75 tv htv) ?_ | refine purs_step hB rfl ?_ | refine lt_tt hB (by decide) ?_ | refine lt_ff hB (by decide) ?_ | refine le_tt hB (by decide) ?_ | refine le_ff hB (by decide) ?_ | refine eq_tt hB (by decide) ?_ | refine eq_ff hB (by decide) ?_ | refine fint_wrp hB (by omega) (by omega) ?_ | refine fint_step hB ?_ | refine fbool_tt hB ?_ | refine fbool_ff hB ?_ | refine fbool_split hB (fun _ => ?_) (fun _ => ?_) | refine ftok_step hB ?_ | refine frows_step hB ?_ | refine fstr_step hB ?_ | refine len_map hB ?_ | refine len_step hB ?_ | refine lens_step hB ?_ | refine byte_step hB ?_ | refine drop_step hB rfl ?_ | refine fl_step hB rfl ?_ | refine add_one hB (by first | omega | decide) ?_ | refine opt_step hB rfl ?_ | refine fnat_step hB ?_ | refine ifk_step hB rfl ?_ | refine ifk_step hB (flat_or rfl) ?_ | refine opt2_step hB rfl ?_ | refine obj_raw hB ?_ | refine sob_raw hB ?_ | refine fst_raw hB ?_ | refine optl_raw hB ?_ | refine tok_step hB rfl ?_) <;> conv => lhs; whnf)
      all_goals
        cases ht : tW d (inL l)
        · rw [ht, if_neg (by decide)] at K0
          exact K0 rfl (nats l) tk htk
        · rw [ht, if_pos rfl] at K
          rw [htk0]
          exact K l rfl
    · conv => lhs; whnf
      repeat' ((first | refine fnat_pred hB ?_ | refine tok_step hB htk ?_ | refine tok_step hB hd.tp ?_ | refine osh_step hB (hand_os_ok (rows := (unsB d.bs (inL l)).map Box.c) hbl ((getObj_sub hlv).trans hgv) (by omega) box_pur) ?_ | refine obj_step hB (hl1 _) ((getObj_top hD).trans rfl) ?_ | refine len_map hB ?_ | refine eq_tt hB heq ?_ | refine purs_step hB (by simp [purs, pur, hd.tp, show purTok .any = true from rfl]) ?_ | refine pans_step hB (H75 .any rfl) ?_ | refine purs_step hB rfl ?_ | refine lt_tt hB (by decide) ?_ | refine lt_ff hB (by decide) ?_ | refine le_tt hB (by decide) ?_ | refine le_ff hB (by decide) ?_ | refine eq_tt hB (by decide) ?_ | refine eq_ff hB (by decide) ?_ | refine fint_wrp hB (by omega) (by omega) ?_ | refine fint_step hB ?_ | refine fbool_tt hB ?_ | refine fbool_ff hB ?_ | refine fbool_split hB (fun _ => ?_) (fun _ => ?_) | refine ftok_step hB ?_ | refine frows_step hB ?_ | refine fstr_step hB ?_ | refine len_map hB ?_ | refine len_step hB ?_ | refine lens_step hB ?_ | refine byte_step hB ?_ | refine drop_step hB rfl ?_ | refine fl_step hB rfl ?_ | refine add_one hB (by first | omega | decide) ?_ | refine opt_step hB rfl ?_ | refine fnat_step hB ?_ | refine ifk_step hB rfl ?_ | refine ifk_step hB (flat_or rfl) ?_ | refine opt2_step hB rfl ?_ | refine obj_raw hB ?_ | refine sob_raw hB ?_ | refine fst_raw hB ?_ | refine optl_raw hB ?_ | refine tok_step hB rfl ?_) <;> conv => lhs; whnf)
      all_goals
        cases ht : tW d (inL l)
        · rw [ht, if_neg (by decide)] at K0
          exact K0 rfl (nats l) tk htk
        · rw [ht, if_pos rfl] at K
          rw [htk0]
          exact K l rfl
  | succ m ih =>
    intro n hn j l hlj hl100 hj s D hD h0 hS v hv tk htk0 zj zm hzj hzm kont r K K0
    have htk : purTok tk = true := by rw [htk0]; exact wtk_pur l
    refine call_open (show fsT.find 78 = some a78 from rfl) (by omega) fun n' B cl rd hn' hB hcl hrd => ?_
    have hl1 : ∀ (g : Fr), D + 1 = (g :: s : St).length := fun _ => by simp [hD]
    have hnb := (check_fine hc).nb
    have hne : ¬ (Int.ofNat (nats l).length) = zm := by
      rw [hzm]; unfold nats; rw [List.length_map]
      simp only [Int.ofNat_eq_natCast]; omega
    have HC : ∀ (k : Nat) (f f' : Fr) (v : AV) (kont : AV → St → Ans) (r : Ans), k < d.bs.length → (∀ x ∈ l, x < k) → IsBx (f :: f' :: s) v (unsB d.bs (inL (l ++ [k]))) →
        (∀ x, chooseV d m (k + 1) (l ++ [k]) = some x → kont (.tup [.sl (rowsI (nats x)) (wtk x), .bool true]) (f :: f' :: s) = r) →
        (chooseV d m (k + 1) (l ++ [k]) = none → ∀ x t, purTok t = true → kont (.tup [.sl (rowsI x) t, .bool false]) (f :: f' :: s) = r) →
        (evKR Bk Gx fsT n').1 (D + 1 + 1) 78 [.agg (dcB d v), .int .i64 ((k : Int) + 1), .int .i64 zm, .sl (rowsI (nats l ++ [(k : Int)])) .any, .ptr 0 1 0] (f :: f' :: s) kont = r := by
      intro k f f' v kont r hk hlk hv K K0
      have e : nats l ++ [(k : Int)] = nats (l ++ [k]) := by simp [nats]
      rw [e]
      refine ih (by omega) (k + 1) (l ++ [k]) (fun x hx => ?_) (by simp; omega) (by omega) (f :: f' :: s) (by simp [hD]) (by simp) ((getObj_sub (by simp)).trans ((getObj_sub h0).trans hS)) hv (tk := .any) (by cases l <;> rfl) (by simp) (by rw [hzm]; simp; omega) kont r K K0
      rcases List.mem_append.1 hx with hx | hx
      · have := hlk x hx; omega
      · simp at hx; omega
    rw [← hcl] at HC
    have e0 : chooseV d (m + 1) j l = chooseFrom d m j l := rfl
    rw [e0] at K K0
    subst hzj
    have hv0 := hv
    rcases hv with ⟨tv, htv, rfl⟩ | ⟨lv, iv, rfl, hlv, hgv⟩
    · conv => lhs; whnf
      repeat' ((first | refine fnat_pred hB ?_ | refine tok_step hB htk ?_ | refine tok_step hB hd.tp ?_ | refine tok_step hB htv ?_ | refine obj_step hB (hl1 _) ((getObj_top hD).trans rfl) ?_ | refine len_map hB ?_ | refine eq_ff hB hne ?_ | refine ifk_step hB (Nat.ble_eq_true_of_le (Nat.le_refl _)) ?_ | refine a78_L1_step hB d hd hc m l (by omega) (purTok_clamp htk) s hD h0 hS hv0 HC _ _ _ _ j _ (by omega) hj hlj (fun e x T => ?_) (fun x e en T => ?_) | refine purs_step hB rfl ?_ | refine lt_tt hB (by decide) ?_ | refine lt_ff hB (by decide) ?_ | refine le_tt hB (by decide) ?_ | refine le_ff hB (by decide) ?_ | refine eq_tt hB (by decide) ?_ | refine eq_ff hB (by decide) ?_ | refine fint_wrp hB (by omega) (by omega) ?_ | refine fint_step hB ?_ | refine fbool_tt hB ?_ | refine fbool_ff hB ?_ | refine fbool_split hB (fun _ => ?_) (fun _ => ?_) | refine ftok_step hB ?_ | refine frows_step hB ?_ | refine fstr_step hB ?_ | refine len_map hB ?_ | refine len_step hB ?_ | refine lens_step hB ?_ | refine byte_step hB ?_ | refine drop_step hB rfl ?_ | refine fl_step hB rfl ?_ | refine add_one hB (by first | omega | decide) ?_ | refine opt_step hB rfl ?_ | refine fnat_step hB ?_ | refine ifk_step hB rfl ?_ | refine ifk_step hB (flat_or rfl) ?_ | refine opt2_step hB rfl ?_ | refine obj_raw hB ?_ | refine sob_raw hB ?_ | refine fst_raw hB ?_ | refine optl_raw hB ?_ | refine tok_step hB rfl ?_) <;> conv => lhs; whnf)
      · exact K0 e [] .nil rfl
      · conv => lhs; whnf
        repeat' ((first | refine tok_step hB (wtk_pur x) ?_ | refine purs_step hB rfl ?_ | refine lt_tt hB (by decide) ?_ | refine lt_ff hB (by decide) ?_ | refine le_tt hB (by decide) ?_ | refine le_ff hB (by decide) ?_ | refine eq_tt hB (by decide) ?_ | refine eq_ff hB (by decide) ?_ | refine fint_wrp hB (by omega) (by omega) ?_ | refine fint_step hB ?_ | refine fbool_tt hB ?_ | refine fbool_ff hB ?_ | refine fbool_split hB (fun _ => ?_) (fun _ => ?_) | refine ftok_step hB ?_ | refine frows_step hB ?_ | refine fstr_step hB ?_ | refine len_map hB ?_ | refine len_step hB ?_ | refine lens_step hB ?_ | refine byte_step hB ?_ | refine drop_step hB rfl ?_ | refine fl_step hB rfl ?_ | refine add_one hB (by first | omega | decide) ?_ | refine opt_step hB rfl ?_ | refine fnat_step hB ?_ | refine ifk_step hB rfl ?_ | refine ifk_step hB (flat_or rfl) ?_ | refine opt2_step hB rfl ?_ | refine obj_raw hB ?_ | refine sob_raw hB ?_ | refine fst_raw hB ?_ | refine optl_raw hB ?_ | refine tok_step hB rfl ?_) <;> conv => lhs; whnf)
        exact K x e
    · conv => lhs; whnf
      repeat' ((first | refine fnat_pred hB ?_ | refine tok_step hB htk ?_ | refine tok_step hB hd.tp ?_ | refine fnat_step hB ?_ | refine obj_step hB (hl1 _) ((getObj_top hD).trans rfl) ?_ | refine len_map hB ?_ | refine eq_ff hB hne ?_ | refine ifk_step hB (Nat.ble_eq_true_of_le (Nat.le_refl _)) ?_ | refine a78_L1_step hB d hd hc m l (by omega) (purTok_clamp htk) s hD h0 hS hv0 HC _ _ _ _ j _ (by omega) hj hlj (fun e x T => ?_) (fun x e en T => ?_) | refine purs_step hB rfl ?_ | refine lt_tt hB (by decide) ?_ | refine lt_ff hB (by decide) ?_ | refine le_tt hB (by decide) ?_ | refine le_ff hB (by decide) ?_ | refine eq_tt hB (by decide) ?_ | refine eq_ff hB (by decide) ?_ | refine fint_wrp hB (by omega) (by omega) ?_ | refine fint_step hB ?_ | refine fbool_tt hB ?_ | refine fbool_ff hB ?_ | refine fbool_split hB (fun _ => ?_) (fun _ => ?_) | refine ftok_step hB ?_ | refine frows_step hB ?_ | refine fstr_step hB ?_ | refine len_map hB ?_ | refine len_step hB ?_ | refine lens_step hB ?_ | refine byte_step hB ?_ | refine drop_step hB rfl ?_ | refine fl_step hB rfl ?_ | refine add_one hB (by first | omega | decide) ?_ | refine opt_step hB rfl ?_ | refine fnat_step hB ?_ | refine ifk_step hB rfl ?_ | refine ifk_step hB (flat_or rfl) ?_ | refine opt2_step hB rfl ?_ | refine obj_raw hB ?_ | refine sob_raw hB ?_ | refine fst_raw hB ?_ | refine optl_raw hB ?_ | refine tok_step hB rfl ?_) <;> conv => lhs; whnf)
      · exact K0 e [] .nil rfl
      · conv => lhs; whnf
        repeat' ((first | refine tok_step hB (wtk_pur x) ?_ | refine purs_step hB rfl ?_ | refine lt_tt hB (by decide) ?_ | refine lt_ff hB (by decide) ?_ | refine le_tt hB (by decide) ?_ | refine le_ff hB (by decide) ?_ | refine eq_tt hB (by decide) ?_ | refine eq_ff hB (by decide) ?_ | refine fint_wrp hB (by omega) (by omega) ?_ | refine fint_step hB ?_ | refine fbool_tt hB ?_ | refine fbool_ff hB ?_ | refine fbool_split hB (fun _ => ?_) (fun _ => ?_) | refine ftok_step hB ?_ | refine frows_step hB ?_ | refine fstr_step hB ?_ | refine len_map hB ?_ | refine len_step hB ?_ | refine lens_step hB ?_ | refine byte_step hB ?_ | refine drop_step hB rfl ?_ | refine fl_step hB rfl ?_ | refine add_one hB (by first | omega | decide) ?_ | refine opt_step hB rfl ?_ | refine fnat_step hB ?_ | refine ifk_step hB rfl ?_ | refine ifk_step hB (flat_or rfl) ?_ | refine opt2_step hB rfl ?_ | refine obj_raw hB ?_ | refine sob_raw hB ?_ | refine fst_raw hB ?_ | refine optl_raw hB ?_ | refine tok_step hB rfl ?_) <;> conv => lhs; whnf)
        exact K x e

theorem ftok_pur (t : Tok) : purTok (ftok t) = true := by cases t <;> rfl
def wrongFrom (d : Desk) (j : Nat) : Option (List Nat) := (List.range' j (d.bs.length + 1 - j)).findSome? fun m => chooseV d m 0 []
theorem wf_end {d : Desk} {j : Nat} (h : d.bs.length + 1 ≤ j) : wrongFrom d j = none := by
  unfold wrongFrom
  rw [Nat.sub_eq_zero_of_le h]; rfl
theorem wf_none {d : Desk} {j : Nat} (h : j < d.bs.length + 1) (hn : chooseV d j 0 [] = none) : wrongFrom d j = wrongFrom d (j + 1) := by
  unfold wrongFrom
  rw [show d.bs.length + 1 - j = (d.bs.length + 1 - (j + 1)) + 1 by omega, List.range'_succ, List.findSome?_cons, hn]
theorem wf_some {d : Desk} {j : Nat} {x : List Nat} (h : j < d.bs.length + 1) (hn : chooseV d j 0 [] = some x) : wrongFrom d j = some x := by
  unfold wrongFrom
  rw [show d.bs.length + 1 - j = (d.bs.length + 1 - (j + 1)) + 1 by omega, List.range'_succ, List.findSome?_cons, hn]

theorem a33_L1_step {B : Bnd} (hB : B = Bk) {cl : CallK} {rd : RoundK} (d : Desk) (hd : d.ok) (hc : d.check = true)
    (HC : ∀ (m : Nat) (kont : AV → St → Ans) (r : Ans), m ≤ d.bs.length → (∀ x, chooseV d m 0 [] = some x → kont (.tup [.sl (rowsI (nats x)) (wtk x), .bool true]) [⟨[], []⟩, ⟨[.cells d.c, .cells [.fn 78 [] [.ptr 0 1 0]]], []⟩] = r) →
      (chooseV d m 0 [] = none → ∀ x t, purTok t = true → kont (.tup [.sl (rowsI x) t, .bool false]) [⟨[], []⟩, ⟨[.cells d.c, .cells [.fn 78 [] [.ptr 0 1 0]]], []⟩] = r) →
      cl 2 78 [d.v, .int .i64 0, .int .i64 (.ofNat m), .sl [] .nil, .ptr 0 1 0] [⟨[], []⟩, ⟨[.cells d.c, .cells [.fn 78 [] [.ptr 0 1 0]]], []⟩] kont = r)
    (n : Nat) (k : Ex → Env → St → Ans) (r : Ans) :
    ∀ (j i0 : Nat), d.bs.length + 1 < i0 + j → i0 ≤ d.bs.length + 1 →
    (wrongFrom d i0 = none → ∀ x, k (.exit 0) [(1, .ptr 0 0 0), (2, .sl [] .nil), (3, .int .i64 0), (5, .ptr 0 1 0), (18, .int .i64 (.ofNat (d.bs.length + 1))), (19, .int .i64 x)] [⟨[.cells d.c, .cells [.fn 78 [] [.ptr 0 1 0]]], []⟩] = r) →
    (∀ x, wrongFrom d i0 = some x → ∀ e, k .ret ((1, .ptr 0 0 0) :: (2, .sl (rowsI (nats x)) (ftok (wtk x))) :: (3, .int .i64 0) :: e) [⟨[.cells d.c, .cells [.fn 78 [] [.ptr 0 1 0]]], []⟩] = r) →
    B.loop (evCK B a33_L1) [1, 2, 3, 5, 18, 19] n j cl rd Gx 0 1 [(1, .ptr 0 0 0), (2, .sl [] .nil), (3, .int .i64 0), (5, .ptr 0 1 0), (18, .int .i64 (.ofNat (d.bs.length + 1))), (19, .int .i64 (.ofNat i0))] [⟨[.cells d.c, .cells [.fn 78 [] [.ptr 0 1 0]]], []⟩] k = r := by
  intro j
  induction j with
  | zero => intro i0 h1 h2; omega
  | succ j ih =>
    intro i0 h1 h2 k1 k2
    have hnb := (check_fine hc).nb
    refine loop_succ hB ?_
    conv => lhs; whnf
    refine lt_nat hB (fun h => ?_) (fun h => ?_) <;> conv => lhs; whnf
    · repeat' ((first | refine fnat_pred hB ?_ | refine tok_step hB hd.tp ?_ | refine tok_step hB hd.tb ?_ | refine HC i0 _ _ (by omega) (fun x e => ?_) (fun e x t ht => ?_) | refine tok_step hB (wtk_pur _) ?_ | refine len_map hB ?_ | refine opt_step hB (slice_pur _) ?_ | refine purs_step hB rfl ?_ | refine lt_tt hB (by decide) ?_ | refine lt_ff hB (by decide) ?_ | refine le_tt hB (by decide) ?_ | refine le_ff hB (by decide) ?_ | refine eq_tt hB (by decide) ?_ | refine eq_ff hB (by decide) ?_ | refine fint_wrp hB (by omega) (by omega) ?_ | refine fint_step hB ?_ | refine fbool_tt hB ?_ | refine fbool_ff hB ?_ | refine fbool_split hB (fun _ => ?_) (fun _ => ?_) | refine ftok_step hB ?_ | refine frows_step hB ?_ | refine fstr_step hB ?_ | refine len_map hB ?_ | refine len_step hB ?_ | refine lens_step hB ?_ | refine byte_step hB ?_ | refine drop_step hB rfl ?_ | refine fl_step hB rfl ?_ | refine add_one hB (by first | omega | decide) ?_ | refine opt_step hB rfl ?_ | refine fnat_step hB ?_ | refine ifk_step hB rfl ?_ | refine ifk_step hB (flat_or rfl) ?_ | refine opt2_step hB rfl ?_ | refine obj_raw hB ?_ | refine sob_raw hB ?_ | refine fst_raw hB ?_ | refine optl_raw hB ?_ | refine tok_step hB rfl ?_) <;> conv => lhs; whnf)
      · rw [clampTok_pur (ftok_pur (wtk x))]
        exact k2 x (wf_some h e) _
      · rw [wf_none h e] at k1
        simp only [wf_none h e] at k2
        exact ih (i0 + 1) (by omega) (by omega) k1 k2
    · repeat' ((first | refine purs_step hB rfl ?_ | refine lt_tt hB (by decide) ?_ | refine lt_ff hB (by decide) ?_ | refine le_tt hB (by decide) ?_ | refine le_ff hB (by decide) ?_ | refine eq_tt hB (by decide) ?_ | refine eq_ff hB (by decide) ?_ | refine fint_wrp hB (by omega) (by omega) ?_ | refine fint_step hB ?_ | refine fbool_tt hB ?_ | refine fbool_ff hB ?_ | refine fbool_split hB (fun _ => ?_) (fun _ => ?_) | refine ftok_step hB ?_ | refine frows_step hB ?_ | refine fstr_step hB ?_ | refine len_map hB ?_ | refine len_step hB ?_ | refine lens_step hB ?_ | refine byte_step hB ?_ | refine drop_step hB rfl ?_ | refine fl_step hB rfl ?_ | refine add_one hB (by first | omega | decide) ?_ | refine opt_step hB rfl ?_ | refine fnat_step hB ?_ | refine ifk_step hB rfl ?_ | refine ifk_step hB (flat_or rfl) ?_ | refine opt2_step hB rfl ?_ | refine obj_raw hB ?_ | refine sob_raw hB ?_ | refine fst_raw hB ?_ | refine optl_raw hB ?_ | refine tok_step hB rfl ?_) <;> conv => lhs; whnf)
      exact k1 (wf_end (by omega)) _

def wrongL (d : Desk) : List Nat := if d.check = true then (wrongV d).getD [] else []
def wrongE (d : Desk) : Int := if d.check = true then (if (wrongV d).isSome = true then 0 else 4) else 90
theorem wf_all (d : Desk) : wrongFrom d 0 = wrongV d := rfl
theorem Wrong_ev {n : Nat} (hn : 1000000000000600 ≤ n) (d : Desk) (hd : d.ok) : (evKR Bk Gx fsT n).1 0 33 [d.v] [] ansK = some (.tup [.sl (rowsI (nats (wrongL d))) (ftok (wtk (wrongL d))), .int .i64 (wrongE d)], []) := by
  refine call_open (show fsT.find 33 = some a33 from rfl) (by omega) fun n' B cl rd hn' hB hcl hrd => ?_
  have H15 := Check_ev (G := Gx) (n := n') d hd (by omega)
  unfold wrongL wrongE
  by_cases hc : d.check = true
  · rw [if_pos hc] at H15
    rw [if_pos hc, if_pos hc]
    have hnb := (check_fine hc).nb
    have h0 : unsB d.bs (inL []) = d.bs := unsB_none _ fun i _ => rfl
    have HC : ∀ (m : Nat) (kont : AV → St → Ans) (r : Ans), m ≤ d.bs.length → (∀ x, chooseV d m 0 [] = some x → kont (.tup [.sl (rowsI (nats x)) (wtk x), .bool true]) [⟨[], []⟩, ⟨[.cells d.c, .cells [.fn 78 [] [.ptr 0 1 0]]], []⟩] = r) →
        (chooseV d m 0 [] = none → ∀ x t, purTok t = true → kont (.tup [.sl (rowsI x) t, .bool false]) [⟨[], []⟩, ⟨[.cells d.c, .cells [.fn 78 [] [.ptr 0 1 0]]], []⟩] = r) →
        (evKR Bk Gx fsT n').1 2 78 [d.v, .int .i64 0, .int .i64 (.ofNat m), .sl [] .nil, .ptr 0 1 0] [⟨[], []⟩, ⟨[.cells d.c, .cells [.fn 78 [] [.ptr 0 1 0]]], []⟩] kont = r := by
      intro m kont r hm K K0
      refine choose_ev hd hc m (n := n') (by omega) 0 [] (fun x hx => by cases hx) (by simp; omega) (by omega) _ rfl (by simp) rfl (v := .sl (d.bs.map Box.c) d.tb) (.inl ⟨d.tb, hd.tb, by rw [h0]⟩) (tk := .nil) rfl rfl (by simp) kont r K K0
    rw [← hcl] at H15 HC
    have HL := a33_L1_step hB (rd := rd) d hd hc HC
    cases hw : wrongV d with
    | none =>
      rw [← wf_all] at hw
      conv => lhs; whnf
      repeat' ((first | refine fnat_pred hB ?_ | refine tok_step hB hd.tp ?_ | refine tok_step hB hd.tb ?_ | refine purs_step hB (by simp [purs, pur, hd.tp, hd.tb]) ?_ | refine pans_step hB H15 ?_ | refine len_map hB ?_ | refine add_one hB (by omega) ?_ | refine HL _ _ _ _ 0 (by omega) (by omega) (fun e x => ?_) (fun x e en => ?_) | refine purs_step hB rfl ?_ | refine lt_tt hB (by decide) ?_ | refine lt_ff hB (by decide) ?_ | refine le_tt hB (by decide) ?_ | refine le_ff hB (by decide) ?_ | refine eq_tt hB (by decide) ?_ | refine eq_ff hB (by decide) ?_ | refine fint_wrp hB (by omega) (by omega) ?_ | refine fint_step hB ?_ | refine fbool_tt hB ?_ | refine fbool_ff hB ?_ | refine fbool_split hB (fun _ => ?_) (fun _ => ?_) | refine ftok_step hB ?_ | refine frows_step hB ?_ | refine fstr_step hB ?_ | refine len_map hB ?_ | refine len_step hB ?_ | refine lens_step hB ?_ | refine byte_step hB ?_ | refine drop_step hB rfl ?_ | refine fl_step hB rfl ?_ | refine add_one hB (by first | omega | decide) ?_ | refine opt_step hB rfl ?_ | refine fnat_step hB ?_ | refine ifk_step hB rfl ?_ | refine ifk_step hB (flat_or rfl) ?_ | refine opt2_step hB rfl ?_ | refine obj_raw hB ?_ | refine sob_raw hB ?_ | refine fst_raw hB ?_ | refine optl_raw hB ?_ | refine tok_step hB rfl ?_) <;> conv => lhs; whnf)
      · rfl
      · rw [hw] at e
        cases e
    | some l =>
      rw [← wf_all] at hw
      conv => lhs; whnf
      repeat' ((first | refine fnat_pred hB ?_ | refine tok_step hB hd.tp ?_ | refine tok_step hB hd.tb ?_ | refine purs_step hB (by simp [purs, pur, hd.tp, hd.tb]) ?_ | refine pans_step hB H15 ?_ | refine len_map hB ?_ | refine add_one hB (by omega) ?_ | refine HL _ _ _ _ 0 (by omega) (by omega) (fun e x => ?_) (fun x e en => ?_) | refine purs_step hB rfl ?_ | refine lt_tt hB (by decide) ?_ | refine lt_ff hB (by decide) ?_ | refine le_tt hB (by decide) ?_ | refine le_ff hB (by decide) ?_ | refine eq_tt hB (by decide) ?_ | refine eq_ff hB (by decide) ?_ | refine fint_wrp hB (by omega) (by omega) ?_ | refine fint_step hB ?_ | refine fbool_tt hB ?_ | refine fbool_ff hB ?_ | refine fbool_split hB (fun _ => ?_) (fun _ => ?_) | refine ftok_step hB ?_ | refine frows_step hB ?_ | refine fstr_step hB ?_ | refine len_map hB ?_ | refine len_step hB ?_ | refine lens_step hB ?_ | refine byte_step hB ?_ | refine drop_step hB rfl ?_ | refine fl_step hB rfl ?_ | refine add_one hB (by first | omega | decide) ?_ | refine opt_step hB rfl ?_ | refine fnat_step hB ?_ | refine ifk_step hB rfl ?_ | refine ifk_step hB (flat_or rfl) ?_ | refine opt2_step hB rfl ?_ | refine obj_raw hB ?_ | refine sob_raw hB ?_ | refine fst_raw hB ?_ | refine optl_raw hB ?_ | refine tok_step hB rfl ?_) <;> conv => lhs; whnf)
      · rw [hw] at e
        cases e
      · rw [hw] at e
        cases e
        conv => lhs; whnf
        repeat' ((first | refine tok_step hB (ftok_pur _) ?_ | refine purs_step hB rfl ?_ | refine lt_tt hB (by decide) ?_ | refine lt_ff hB (by decide) ?_ | refine le_tt hB (by decide) ?_ | refine le_ff hB (by decide) ?_ | refine eq_tt hB (by decide) ?_ | refine eq_ff hB (by decide) ?_ | refine fint_wrp hB (by omega) (by omega) ?_ | refine fint_step hB ?_ | refine fbool_tt hB ?_ | refine fbool_ff hB ?_ | refine fbool_split hB (fun _ => ?_) (fun _ => ?_) | refine ftok_step hB ?_ | refine frows_step hB ?_ | refine fstr_step hB ?_ | refine len_map hB ?_ | refine len_step hB ?_ | refine lens_step hB ?_ | refine byte_step hB ?_ | refine drop_step hB rfl ?_ | refine fl_step hB rfl ?_ | refine add_one hB (by first | omega | decide) ?_ | refine opt_step hB rfl ?_ | refine fnat_step hB ?_ | refine ifk_step hB rfl ?_ | refine ifk_step hB (flat_or rfl) ?_ | refine opt2_step hB rfl ?_ | refine obj_raw hB ?_ | refine sob_raw hB ?_ | refine fst_raw hB ?_ | refine optl_raw hB ?_ | refine tok_step hB rfl ?_) <;> conv => lhs; whnf)
        rfl
  · rw [if_neg hc] at H15
    rw [if_neg hc, if_neg hc]
    rw [← hcl] at H15
    conv => lhs; whnf
    repeat' ((first | refine fnat_pred hB ?_ | refine tok_step hB hd.tp ?_ | refine tok_step hB hd.tb ?_ | refine purs_step hB (by simp [purs, pur, hd.tp, hd.tb]) ?_ | refine pans_step hB H15 ?_ | refine purs_step hB rfl ?_ | refine lt_tt hB (by decide) ?_ | refine lt_ff hB (by decide) ?_ | refine le_tt hB (by decide) ?_ | refine le_ff hB (by decide) ?_ | refine eq_tt hB (by decide) ?_ | refine eq_ff hB (by decide) ?_ | refine fint_wrp hB (by omega) (by omega) ?_ | refine fint_step hB ?_ | refine fbool_tt hB ?_ | refine fbool_ff hB ?_ | refine fbool_split hB (fun _ => ?_) (fun _ => ?_) | refine ftok_step hB ?_ | refine frows_step hB ?_ | refine fstr_step hB ?_ | refine len_map hB ?_ | refine len_step hB ?_ | refine lens_step hB ?_ | refine byte_step hB ?_ | refine drop_step hB rfl ?_ | refine fl_step hB rfl ?_ | refine add_one hB (by first | omega | decide) ?_ | refine opt_step hB rfl ?_ | refine fnat_step hB ?_ | refine ifk_step hB rfl ?_ | refine ifk_step hB (flat_or rfl) ?_ | refine opt2_step hB rfl ?_ | refine obj_raw hB ?_ | refine sob_raw hB ?_ | refine fst_raw hB ?_ | refine optl_raw hB ?_ | refine tok_step hB rfl ?_) <;> conv => lhs; whnf)
    all_goals rfl
end Go.Ab.Cl

namespace Go.Ab.Cl
open Go.Ab

/-! ### can, of a whole desk -/
theorem canAll_ev {n : Nat} (hn : 1000000000000200 ≤ n) (d : Desk) (hd : d.ok) (hc : d.check = true) : (evKR Bk Gx fsT n).1 0 77 [d.v, .int .i64 0, .int .i64 0, .int .i64 0] [] ansK = some (.bool (trueB d), []) := by
  have hnb := (check_fine hc).nb
  have HK := canF_ev hd hc d.bs.length (n := n) (Nat.le_refl _) (by omega) 0 (by omega) 0 (by omega) (by omega) (zi := 0) (zt := 0) (by simp) rfl
  rw [refCan_true hc] at HK
  exact HK

set_option maxHeartbeats 20000000 in
theorem FewestF_ev {n : Nat} (hn : 1000000000000500 ≤ n) (d : Desk) (hd : d.ok) : (evKR Bk Gx fsT n).1 0 32 [d.v] [] ansK = some (.tup [.int .i64 (fewR d).1, .int .i64 (fewR d).2], []) := by
  refine call_open (show fsT.find 32 = some a32 from rfl) (by omega) fun n' B cl rd hn' hB hcl hrd => ?_
  have HC := CheckR_ev (n := n') d hd (by omega)
  rw [← hcl] at HC
  cases hc : d.check
  · rw [hc] at HC
    rw [show fewR d = (0, 90) by simp [fewR, hc]]
    conv => lhs; whnf
    repeat' ((first | refine fnat_pred hB ?_ | refine tok_step hB hd.tp ?_ | refine tok_step hB hd.tb ?_ | refine purs_step hB (by simp [purs, pur, hd.tp, hd.tb]) ?_ | refine pans_step hB HC ?_ | refine purs_step hB rfl ?_ | refine lt_tt hB (by decide) ?_ | refine lt_ff hB (by decide) ?_ | refine le_tt hB (by decide) ?_ | refine le_ff hB (by decide) ?_ | refine eq_tt hB (by decide) ?_ | refine eq_ff hB (by decide) ?_ | refine fint_wrp hB (by omega) (by omega) ?_ | refine fint_step hB ?_ | refine fbool_tt hB ?_ | refine fbool_ff hB ?_ | refine fbool_split hB (fun _ => ?_) (fun _ => ?_) | refine ftok_step hB ?_ | refine frows_step hB ?_ | refine fstr_step hB ?_ | refine len_map hB ?_ | refine len_step hB ?_ | refine lens_step hB ?_ | refine byte_step hB ?_ | refine drop_step hB rfl ?_ | refine fl_step hB rfl ?_ | refine add_one hB (by first | omega | decide) ?_ | refine opt_step hB rfl ?_ | refine fnat_step hB ?_ | refine ifk_step hB rfl ?_ | refine ifk_step hB (flat_or rfl) ?_ | refine opt2_step hB rfl ?_ | refine obj_raw hB ?_ | refine sob_raw hB ?_ | refine fst_raw hB ?_ | refine optl_raw hB ?_ | refine tok_step hB rfl ?_) <;> conv => lhs; whnf)
    all_goals rfl
  · rw [hc] at HC
    have H77 := fun (s : Int) h0 h6 => canAll_ev (n := n') (by omega) (dS d s) (dS_ok hd s) (dS_check hc (s := s) h0 h6)
    rw [← hcl] at H77
    conv => lhs; whnf
    repeat' ((first | refine fnat_pred hB ?_ | refine tok_step hB hd.tp ?_ | refine tok_step hB hd.tb ?_ | refine purs_step hB (by simp [purs, pur, hd.tp, hd.tb]) ?_ | refine pans_step hB HC ?_ | refine loop_step hB (by omega) ?_ | refine pans_bool hB (H77 0 (by decide) (by decide)) (fun h0 => ?_) (fun h0 => ?_) | refine pans_bool hB (H77 1 (by decide) (by decide)) (fun h1 => ?_) (fun h1 => ?_) | refine pans_bool hB (H77 2 (by decide) (by decide)) (fun h2 => ?_) (fun h2 => ?_) | refine pans_bool hB (H77 3 (by decide) (by decide)) (fun h3 => ?_) (fun h3 => ?_) | refine pans_bool hB (H77 4 (by decide) (by decide)) (fun h4 => ?_) (fun h4 => ?_) | refine pans_bool hB (H77 5 (by decide) (by decide)) (fun h5 => ?_) (fun h5 => ?_) | refine pans_bool hB (H77 6 (by decide) (by decide)) (fun h6 => ?_) (fun h6 => ?_) | refine add_step hB (by decide) (by decide) ?_ | refine purs_step hB rfl ?_ | refine lt_tt hB (by decide) ?_ | refine lt_ff hB (by decide) ?_ | refine le_tt hB (by decide) ?_ | refine le_ff hB (by decide) ?_ | refine eq_tt hB (by decide) ?_ | refine eq_ff hB (by decide) ?_ | refine fint_wrp hB (by omega) (by omega) ?_ | refine fint_step hB ?_ | refine fbool_tt hB ?_ | refine fbool_ff hB ?_ | refine fbool_split hB (fun _ => ?_) (fun _ => ?_) | refine ftok_step hB ?_ | refine frows_step hB ?_ | refine fstr_step hB ?_ | refine len_map hB ?_ | refine len_step hB ?_ | refine lens_step hB ?_ | refine byte_step hB ?_ | refine drop_step hB rfl ?_ | refine fl_step hB rfl ?_ | refine add_one hB (by first | omega | decide) ?_ | refine opt_step hB rfl ?_ | refine fnat_step hB ?_ | refine ifk_step hB rfl ?_ | refine ifk_step hB (flat_or rfl) ?_ | refine opt2_step hB rfl ?_ | refine obj_raw hB ?_ | refine sob_raw hB ?_ | refine fst_raw hB ?_ | refine optl_raw hB ?_ | refine tok_step hB rfl ?_) <;> conv => lhs; whnf)
    all_goals simp [fewR, List.range, List.range.loop, *]

/-! ### Ahead -/
def aheadZ : List Int → List Int → Bool
  | [], [] => false
  | [], _ :: _ => true
  | _ :: _, [] => false
  | x :: a, y :: b => if x = y then aheadZ a b else decide (x < y)
theorem ahead_nats : ∀ a b : List Nat, aheadZ (nats a) (nats b) = aheadN a b
  | [], [] => rfl
  | [], _ :: _ => rfl
  | _ :: _, [] => rfl
  | x :: a, y :: b => by
    show (if (x : Int) = (y : Int) then aheadZ (nats a) (nats b) else decide ((x : Int) < (y : Int))) = if x = y then aheadN a b else decide (x < y)
    rw [ahead_nats a b]
    by_cases h : x = y
    · rw [if_pos h, if_pos (by omega)]
    · rw [if_neg h, if_neg (by omega), decide_eq_decide]; omega
theorem a48_L1_step {B : Bnd} (hB : B = Bk) {cl : CallK} {rd : RoundK} (a b : List Int) (ha : a.length ≤ 1000000000000000) (hb : b.length ≤ 1000000000000000) {t t' : Tok} (ht : purTok t = true) (ht' : purTok t' = true) (n : Nat) (k : Ex → Env → St → Ans) (r : Ans) :
    ∀ (j i : Nat), a.length < i + j → i ≤ a.length → i ≤ b.length → aheadZ a b = aheadZ (a.drop i) (b.drop i) →
    (∀ x, aheadZ a b = decide (a.length < b.length) → k (.exit 0) [(0, .sl (rowsI a) t), (1, .sl (rowsI b) t'), (4, .bool false), (5, .int .i64 x)] [⟨[], []⟩] = r) →
    (∀ x y z e, k .ret ((0, x) :: (1, y) :: (4, .bool (aheadZ a b)) :: (5, z) :: e) [⟨[], []⟩] = r) →
    B.loop (evCK B a48_L1) [0, 1, 4, 5] n j cl rd Gx 0 1 [(0, .sl (rowsI a) t), (1, .sl (rowsI b) t'), (4, .bool false), (5, .int .i64 (.ofNat i))] [⟨[], []⟩] k = r := by
  intro j
  induction j with
  | zero => intro i h1 h2; omega
  | succ j ih =>
    intro i h1 h2 h3 he k1 k2
    refine loop_succ hB ?_
    conv => lhs; whnf
    (repeat' ((first | refine fnat_step hB ?_ | refine obj_raw hB ?_ | refine drop_step hB rfl ?_ | refine len_map hB ?_) <;> conv => lhs; whnf))
    refine lt_nat hB (fun h => ?_) (fun h => ?_) <;> conv => lhs; whnf
    · (repeat' ((first | refine fnat_step hB ?_ | refine obj_raw hB ?_ | refine drop_step hB rfl ?_ | refine len_map hB ?_) <;> conv => lhs; whnf))
      refine lt_nat hB (fun h' => ?_) (fun h' => ?_) <;> conv => lhs; whnf
      · have hx := row_get h
        have hy := row_get (l := b) (i := i) h'
        have hda : a.drop i = a[i] :: a.drop (i + 1) := List.drop_eq_getElem_cons h
        have hdb : b.drop i = b[i] :: b.drop (i + 1) := List.drop_eq_getElem_cons h'
        rw [hda, hdb] at he
        generalize a[i] = u at hx he
        generalize b[i] = w at hy he
        have he2 : aheadZ a b = if u = w then aheadZ (a.drop (i + 1)) (b.drop (i + 1)) else decide (u < w) := he
        by_cases huw : u = w
        · rw [if_pos huw] at he2
          subst huw
          repeat' ((first | refine fnat_pred hB ?_ | refine tok_step hB ht ?_ | refine tok_step hB ht' ?_ | refine natOf_step hB (m := i) rfl ?_ | refine nth_step hB hx ?_ | refine nth_step hB hy ?_ | refine eq_tt hB rfl ?_ | refine purs_step hB rfl ?_ | refine lt_tt hB (by decide) ?_ | refine lt_ff hB (by decide) ?_ | refine le_tt hB (by decide) ?_ | refine le_ff hB (by decide) ?_ | refine eq_tt hB (by decide) ?_ | refine eq_ff hB (by decide) ?_ | refine fint_wrp hB (by omega) (by omega) ?_ | refine fint_step hB ?_ | refine fbool_tt hB ?_ | refine fbool_ff hB ?_ | refine fbool_split hB (fun _ => ?_) (fun _ => ?_) | refine ftok_step hB ?_ | refine frows_step hB ?_ | refine fstr_step hB ?_ | refine len_map hB ?_ | refine len_step hB ?_ | refine lens_step hB ?_ | refine byte_step hB ?_ | refine drop_step hB rfl ?_ | refine fl_step hB rfl ?_ | refine add_one hB (by first | omega | decide) ?_ | refine opt_step hB rfl ?_ | refine fnat_step hB ?_ | refine ifk_step hB rfl ?_ | refine ifk_step hB (flat_or rfl) ?_ | refine opt2_step hB rfl ?_ | refine obj_raw hB ?_ | refine sob_raw hB ?_ | refine fst_raw hB ?_ | refine optl_raw hB ?_ | refine tok_step hB rfl ?_) <;> conv => lhs; whnf)
          rw [clampTok_pur ht, clampTok_pur ht']
          exact ih (i + 1) (by omega) (by omega) (by omega) he2 k1 k2
        · rw [if_neg huw] at he2
          by_cases hlt : u < w
          · rw [decide_eq_true hlt] at he2
            rw [he2] at k2
            repeat' ((first | refine fnat_pred hB ?_ | refine tok_step hB ht ?_ | refine tok_step hB ht' ?_ | refine natOf_step hB (m := i) rfl ?_ | refine nth_step hB hx ?_ | refine nth_step hB hy ?_ | refine eq_ff hB huw ?_ | refine lt_tt hB hlt ?_ | refine purs_step hB rfl ?_ | refine lt_tt hB (by decide) ?_ | refine lt_ff hB (by decide) ?_ | refine le_tt hB (by decide) ?_ | refine le_ff hB (by decide) ?_ | refine eq_tt hB (by decide) ?_ | refine eq_ff hB (by decide) ?_ | refine fint_wrp hB (by omega) (by omega) ?_ | refine fint_step hB ?_ | refine fbool_tt hB ?_ | refine fbool_ff hB ?_ | refine fbool_split hB (fun _ => ?_) (fun _ => ?_) | refine ftok_step hB ?_ | refine frows_step hB ?_ | refine fstr_step hB ?_ | refine len_map hB ?_ | refine len_step hB ?_ | refine lens_step hB ?_ | refine byte_step hB ?_ | refine drop_step hB rfl ?_ | refine fl_step hB rfl ?_ | refine add_one hB (by first | omega | decide) ?_ | refine opt_step hB rfl ?_ | refine fnat_step hB ?_ | refine ifk_step hB rfl ?_ | refine ifk_step hB (flat_or rfl) ?_ | refine opt2_step hB rfl ?_ | refine obj_raw hB ?_ | refine sob_raw hB ?_ | refine fst_raw hB ?_ | refine optl_raw hB ?_ | refine tok_step hB rfl ?_) <;> conv => lhs; whnf)
            exact k2 _ _ _ _
          · rw [decide_eq_false hlt] at he2
            rw [he2] at k2
            repeat' ((first | refine fnat_pred hB ?_ | refine tok_step hB ht ?_ | refine tok_step hB ht' ?_ | refine natOf_step hB (m := i) rfl ?_ | refine nth_step hB hx ?_ | refine nth_step hB hy ?_ | refine eq_ff hB huw ?_ | refine lt_ff hB hlt ?_ | refine purs_step hB rfl ?_ | refine lt_tt hB (by decide) ?_ | refine lt_ff hB (by decide) ?_ | refine le_tt hB (by decide) ?_ | refine le_ff hB (by decide) ?_ | refine eq_tt hB (by decide) ?_ | refine eq_ff hB (by decide) ?_ | refine fint_wrp hB (by omega) (by omega) ?_ | refine fint_step hB ?_ | refine fbool_tt hB ?_ | refine fbool_ff hB ?_ | refine fbool_split hB (fun _ => ?_) (fun _ => ?_) | refine ftok_step hB ?_ | refine frows_step hB ?_ | refine fstr_step hB ?_ | refine len_map hB ?_ | refine len_step hB ?_ | refine lens_step hB ?_ | refine byte_step hB ?_ | refine drop_step hB rfl ?_ | refine fl_step hB rfl ?_ | refine add_one hB (by first | omega | decide) ?_ | refine opt_step hB rfl ?_ | refine fnat_step hB ?_ | refine ifk_step hB rfl ?_ | refine ifk_step hB (flat_or rfl) ?_ | refine opt2_step hB rfl ?_ | refine obj_raw hB ?_ | refine sob_raw hB ?_ | refine fst_raw hB ?_ | refine optl_raw hB ?_ | refine tok_step hB rfl ?_) <;> conv => lhs; whnf)
            exact k2 _ _ _ _
      · repeat' ((first | refine fnat_pred hB ?_ | refine tok_step hB ht ?_ | refine tok_step hB ht' ?_ | refine purs_step hB rfl ?_ | refine lt_tt hB (by decide) ?_ | refine lt_ff hB (by decide) ?_ | refine le_tt hB (by decide) ?_ | refine le_ff hB (by decide) ?_ | refine eq_tt hB (by decide) ?_ | refine eq_ff hB (by decide) ?_ | refine fint_wrp hB (by omega) (by omega) ?_ | refine fint_step hB ?_ | refine fbool_tt hB ?_ | refine fbool_ff hB ?_ | refine fbool_split hB (fun _ => ?_) (fun _ => ?_) | refine ftok_step hB ?_ | refine frows_step hB ?_ | refine fstr_step hB ?_ | refine len_map hB ?_ | refine len_step hB ?_ | refine lens_step hB ?_ | refine byte_step hB ?_ | refine drop_step hB rfl ?_ | refine fl_step hB rfl ?_ | refine add_one hB (by first | omega | decide) ?_ | refine opt_step hB rfl ?_ | refine fnat_step hB ?_ | refine ifk_step hB rfl ?_ | refine ifk_step hB (flat_or rfl) ?_ | refine opt2_step hB rfl ?_ | refine obj_raw hB ?_ | refine sob_raw hB ?_ | refine fst_raw hB ?_ | refine optl_raw hB ?_ | refine tok_step hB rfl ?_) <;> conv => lhs; whnf)
        rw [clampTok_pur ht, clampTok_pur ht']
        refine k1 _ ?_
        rw [he, List.drop_eq_getElem_cons h, List.drop_of_length_le (l := b) (by omega), decide_eq_false (by omega)]
        rfl
    · repeat' ((first | refine fnat_pred hB ?_ | refine tok_step hB ht ?_ | refine tok_step hB ht' ?_ | refine purs_step hB rfl ?_ | refine lt_tt hB (by decide) ?_ | refine lt_ff hB (by decide) ?_ | refine le_tt hB (by decide) ?_ | refine le_ff hB (by decide) ?_ | refine eq_tt hB (by decide) ?_ | refine eq_ff hB (by decide) ?_ | refine fint_wrp hB (by omega) (by omega) ?_ | refine fint_step hB ?_ | refine fbool_tt hB ?_ | refine fbool_ff hB ?_ | refine fbool_split hB (fun _ => ?_) (fun _ => ?_) | refine ftok_step hB ?_ | refine frows_step hB ?_ | refine fstr_step hB ?_ | refine len_map hB ?_ | refine len_step hB ?_ | refine lens_step hB ?_ | refine byte_step hB ?_ | refine drop_step hB rfl ?_ | refine fl_step hB rfl ?_ | refine add_one hB (by first | omega | decide) ?_ | refine opt_step hB rfl ?_ | refine fnat_step hB ?_ | refine ifk_step hB rfl ?_ | refine ifk_step hB (flat_or rfl) ?_ | refine opt2_step hB rfl ?_ | refine obj_raw hB ?_ | refine sob_raw hB ?_ | refine fst_raw hB ?_ | refine optl_raw hB ?_ | refine tok_step hB rfl ?_) <;> conv => lhs; whnf)
      rw [clampTok_pur ht, clampTok_pur ht']
      refine k1 _ ?_
      rw [he, List.drop_of_length_le (l := a) (by omega)]
      by_cases h' : i < b.length
      · rw [List.drop_eq_getElem_cons h', decide_eq_true (by omega)]
        rfl
      · rw [List.drop_of_length_le (l := b) (by omega), decide_eq_false (by omega)]
        rfl
theorem Ahead_ev {n : Nat} (hn : 1000000000000002 ≤ n) (a b : List Int) (ha : a.length ≤ 1000000000000000) (hb : b.length ≤ 1000000000000000) {t t' : Tok} (ht : purTok t = true) (ht' : purTok t' = true) :
    (evKR Bk Gx fsT n).1 0 48 [.sl (rowsI a) t, .sl (rowsI b) t'] [] ansK = some (.bool (aheadZ a b), []) := by
  refine call_open (show fsT.find 48 = some a48 from rfl) (by omega) fun n' B cl rd hn' hB hcl hrd => ?_
  conv => lhs; whnf
  repeat' ((first | refine fnat_pred hB ?_ | refine tok_step hB ht ?_ | refine tok_step hB ht' ?_ | refine len_map hB ?_ | refine a48_L1_step hB a b ha hb (purTok_clamp ht) (purTok_clamp ht') _ _ _ _ 0 (by omega) (by omega) (by omega) rfl (fun x e => ?_) (fun x y z e => ?_) | refine lt_nat hB (fun h => ?_) (fun h => ?_) | refine purs_step hB rfl ?_ | refine lt_tt hB (by decide) ?_ | refine lt_ff hB (by decide) ?_ | refine le_tt hB (by decide) ?_ | refine le_ff hB (by decide) ?_ | refine eq_tt hB (by decide) ?_ | refine eq_ff hB (by decide) ?_ | refine fint_wrp hB (by omega) (by omega) ?_ | refine fint_step hB ?_ | refine fbool_tt hB ?_ | refine fbool_ff hB ?_ | refine fbool_split hB (fun _ => ?_) (fun _ => ?_) | refine ftok_step hB ?_ | refine frows_step hB ?_ | refine fstr_step hB ?_ | refine len_map hB ?_ | refine len_step hB ?_ | refine lens_step hB ?_ | refine byte_step hB ?_ | refine drop_step hB rfl ?_ | refine fl_step hB rfl ?_ | refine add_one hB (by first | omega | decide) ?_ | refine opt_step hB rfl ?_ | refine fnat_step hB ?_ | refine ifk_step hB rfl ?_ | refine ifk_step hB (flat_or rfl) ?_ | refine opt2_step hB rfl ?_ | refine obj_raw hB ?_ | refine sob_raw hB ?_ | refine fst_raw hB ?_ | refine optl_raw hB ?_ | refine tok_step hB rfl ?_) <;> conv => lhs; whnf)
  · rw [e, decide_eq_true h]
  · rw [e, decide_eq_false h]

/-! ### a desk without stamps -/
def tokB (l : List Box) : Tok := if l.isEmpty = true then .nil else .site 0 34 1
def tksB (l : List Box) : List (Nat × Nat × Nat) := if l.isEmpty = true then [] else [(34, 1, l.length)]
theorem clamp_tokB {lv : Nat} (l : List Box) : clampTok lv (tokB l) = tokB l := by
  unfold tokB; split
  · rfl
  · simp [clampTok]
theorem app_tokB {os : List AObj} {f : Fr} (acc : List Box) (b : Box) (hl : acc.length ≤ 1000) :
    appAt 0 [f, ⟨os, tksB acc⟩] 34 5 48 (.sl (acc.map Box.c) (tokB acc)) (.sl [b.c] .full) = some (.sl ((acc ++ [b]).map Box.c) (tokB (acc ++ [b])), [f, ⟨os, tksB (acc ++ [b])⟩]) := by
  cases acc with
  | nil => simp [appAt, rowsAt, tokB, tksB, headFit, purs, pur, getTok, setTok, modFr, getFr, tokGet, tokSet, Box.c]
  | cons a acc =>
    have h1 : ((acc.length + 1 + 1) * 48 ≤ 140737488355328) := by simp at hl; omega
    simp [appAt, rowsAt, tokB, tksB, headFit, purs, pur, getTok, setTok, modFr, getFr, tokGet, tokSet, h1, Box.c]
def unsFrom (bs : List Box) (f : Nat → Bool) (i : Nat) : List Box := (unsB bs f).drop i
theorem a79_L1_step {B : Bnd} (hB : B = Bk) {cl : CallK} {rd : RoundK} (d : Desk) (hd : d.ok) (hnb : d.bs.length ≤ 6) (t : Nat) {zt : Int} {t5 : Tok} (ht5 : purTok t5 = true)
    (H40 : ∀ k : Nat, k < 9 → cl 0 40 [.int .i64 zt, .int .i64 (k : Int)] [] ansK = some (.bool (t.testBit k), [])) (z6 : AObj) (n : Nat) (k : Ex → Env → St → Ans) (r : Ans) :
    ∀ (j i0 : Nat) (acc : List Box), d.bs.length < i0 + j → i0 ≤ d.bs.length → acc.length = i0 →
    (∀ x, k (.exit 0) [(1, .int .i64 zt), (2, .ptr 0 0 0), (4, .ptr 0 1 0), (5, .sl (d.bs.map Box.c) t5), (6, .int .i64 x)] [⟨[.cells (dcB d (.sl ((acc ++ unsFrom d.bs (fun i => t.testBit i) i0).map Box.c) (tokB (acc ++ unsFrom d.bs (fun i => t.testBit i) i0)))), z6], tksB (acc ++ unsFrom d.bs (fun i => t.testBit i) i0)⟩] = r) →
    B.loop (evCK B a79_L1) [1, 2, 4, 5, 6] n j cl rd Gx 0 1 [(1, .int .i64 zt), (2, .ptr 0 0 0), (4, .ptr 0 1 0), (5, .sl (d.bs.map Box.c) t5), (6, .int .i64 (.ofNat i0))] [⟨[.cells (dcB d (.sl (acc.map Box.c) (tokB acc))), z6], tksB acc⟩] k = r := by
  intro j
  induction j with
  | zero => intro i0 acc h1 h2; omega
  | succ j ih =>
    intro i0 acc h1 h2 h3 k1
    refine loop_succ hB ?_
    conv => lhs; whnf
    (repeat' ((first | refine fnat_step hB ?_ | refine obj_raw hB ?_ | refine drop_step hB rfl ?_ | refine len_map hB ?_) <;> conv => lhs; whnf))
    refine lt_nat hB (fun h => ?_) (fun h => ?_) <;> conv => lhs; whnf
    · obtain ⟨b, hb⟩ : ∃ b, d.bs[i0]? = some b := ⟨d.bs[i0], by simp [h]⟩
      have hxb : (d.bs.map Box.c)[i0]? = some b.c := by simp [hb]
      have hun : unsFrom d.bs (fun i => t.testBit i) i0 = b.uns (t.testBit i0) :: unsFrom d.bs (fun i => t.testBit i) (i0 + 1) := by
        unfold unsFrom
        have hlt : i0 < (unsB d.bs fun i => t.testBit i).length := by rw [unsB_len]; exact h
        rw [List.drop_eq_getElem_cons hlt]
        congr 1
        have := unsB_get d.bs (fun i => t.testBit i) i0
        rw [List.getElem?_eq_getElem hlt, hb] at this
        exact Option.some.inj this
      have HI := H40 i0 (by omega)
      have happ : ∀ f : Fr, appAt 0 [f, ⟨[.cells (dcB d (.sl (acc.map Box.c) (tokB acc))), z6], tksB acc⟩] 34 5 48 (.sl (acc.map Box.c) (tokB acc)) (.sl [(b.uns (t.testBit i0)).c] .full) = some (.sl ((acc ++ [b.uns (t.testBit i0)]).map Box.c) (tokB (acc ++ [b.uns (t.testBit i0)])), [f, ⟨[.cells (dcB d (.sl (acc.map Box.c) (tokB acc))), z6], tksB (acc ++ [b.uns (t.testBit i0)])⟩]) := fun f => app_tokB acc _ (by omega)
      rw [hun] at k1
      rcases b with ⟨b1, b2, b3, b4, b5⟩
      cases b5
      · have hu : (Box.mk b1 b2 b3 b4 false).uns (t.testBit i0) = Box.mk b1 b2 b3 b4 false := by simp [Box.uns]
        rw [hu] at happ k1
        repeat' ((first | refine fnat_pred hB ?_ | refine tok_step hB hd.tp ?_ | refine tok_step hB ht5 ?_ | refine natOf_step hB (m := i0) rfl ?_ | refine nth_step hB hxb ?_ | refine opt2_step hB (happ _) ?_ | refine purs_step hB rfl ?_ | refine lt_tt hB (by decide) ?_ | refine lt_ff hB (by decide) ?_ | refine le_tt hB (by decide) ?_ | refine le_ff hB (by decide) ?_ | refine eq_tt hB (by decide) ?_ | refine eq_ff hB (by decide) ?_ | refine fint_wrp hB (by omega) (by omega) ?_ | refine fint_step hB ?_ | refine fbool_tt hB ?_ | refine fbool_ff hB ?_ | refine fbool_split hB (fun _ => ?_) (fun _ => ?_) | refine ftok_step hB ?_ | refine frows_step hB ?_ | refine fstr_step hB ?_ | refine len_map hB ?_ | refine len_step hB ?_ | refine lens_step hB ?_ | refine byte_step hB ?_ | refine drop_step hB rfl ?_ | refine fl_step hB rfl ?_ | refine add_one hB (by first | omega | decide) ?_ | refine opt_step hB rfl ?_ | refine fnat_step hB ?_ | refine ifk_step hB rfl ?_ | refine ifk_step hB (flat_or rfl) ?_ | refine opt2_step hB rfl ?_ | refine obj_raw hB ?_ | refine sob_raw hB ?_ | refine fst_raw hB ?_ | refine optl_raw hB ?_ | refine tok_step hB rfl ?_) <;> conv => lhs; whnf)
        rw [clampTok_pur ht5, clamp_tokB]
        refine ih (i0 + 1) (acc ++ [_]) (by omega) (by omega) (by simp; omega) fun x => ?_
        rw [List.append_assoc]
        exact k1 x
      · cases ht : t.testBit i0
        all_goals
          rw [ht] at HI happ k1
          repeat' ((first | refine fnat_pred hB ?_ | refine tok_step hB hd.tp ?_ | refine tok_step hB ht5 ?_ | refine natOf_step hB (m := i0) rfl ?_ | refine nth_step hB hxb ?_ | refine opt2_step hB (happ _) ?_ | refine pans_step hB HI ?_ | refine purs_step hB rfl ?_ | refine lt_tt hB (by decide) ?_ | refine lt_ff hB (by decide) ?_ | refine le_tt hB (by decide) ?_ | refine le_ff hB (by decide) ?_ | refine eq_tt hB (by decide) ?_ | refine eq_ff hB (by decide) ?_ | refine fint_wrp hB (by omega) (by omega) ?_ | refine fint_step hB ?_ | refine fbool_tt hB ?_ | refine fbool_ff hB ?_ | refine fbool_split hB (fun _ => ?_) (fun _ => ?_) | refine ftok_step hB ?_ | refine frows_step hB ?_ | refine fstr_step hB ?_ | refine len_map hB ?_ | refine len_step hB ?_ | refine lens_step hB ?_ | refine byte_step hB ?_ | refine drop_step hB rfl ?_ | refine fl_step hB rfl ?_ | refine add_one hB (by first | omega | decide) ?_ | refine opt_step hB rfl ?_ | refine fnat_step hB ?_ | refine ifk_step hB rfl ?_ | refine ifk_step hB (flat_or rfl) ?_ | refine opt2_step hB rfl ?_ | refine obj_raw hB ?_ | refine sob_raw hB ?_ | refine fst_raw hB ?_ | refine optl_raw hB ?_ | refine tok_step hB rfl ?_) <;> conv => lhs; whnf)
          rw [clampTok_pur ht5, clamp_tokB]
          refine ih (i0 + 1) (acc ++ [_]) (by omega) (by omega) (by simp; omega) fun x => ?_
          rw [List.append_assoc]
          exact k1 x
    · repeat' ((first | refine fnat_pred hB ?_ | refine tok_step hB ht5 ?_ | refine purs_step hB rfl ?_ | refine lt_tt hB (by decide) ?_ | refine lt_ff hB (by decide) ?_ | refine le_tt hB (by decide) ?_ | refine le_ff hB (by decide) ?_ | refine eq_tt hB (by decide) ?_ | refine eq_ff hB (by decide) ?_ | refine fint_wrp hB (by omega) (by omega) ?_ | refine fint_step hB ?_ | refine fbool_tt hB ?_ | refine fbool_ff hB ?_ | refine fbool_split hB (fun _ => ?_) (fun _ => ?_) | refine ftok_step hB ?_ | refine frows_step hB ?_ | refine fstr_step hB ?_ | refine len_map hB ?_ | refine len_step hB ?_ | refine lens_step hB ?_ | refine byte_step hB ?_ | refine drop_step hB rfl ?_ | refine fl_step hB rfl ?_ | refine add_one hB (by first | omega | decide) ?_ | refine opt_step hB rfl ?_ | refine fnat_step hB ?_ | refine ifk_step hB rfl ?_ | refine ifk_step hB (flat_or rfl) ?_ | refine opt2_step hB rfl ?_ | refine obj_raw hB ?_ | refine sob_raw hB ?_ | refine fst_raw hB ?_ | refine optl_raw hB ?_ | refine tok_step hB rfl ?_) <;> conv => lhs; whnf)
      have hi : i0 = d.bs.length := by omega
      subst hi
      have he : unsFrom d.bs (fun i => t.testBit i) d.bs.length = [] := by
        unfold unsFrom
        rw [List.drop_of_length_le (by rw [unsB_len]; exact Nat.le_refl _)]
      rw [he, List.append_nil] at k1
      rw [clampTok_pur ht5]
      exact k1 _
theorem withoutS_ev {n : Nat} (hn : 1000000000000002 ≤ n) (d : Desk) (hd : d.ok) (hnb : d.bs.length ≤ 6) (t : Nat) (ht : t < 512) {zt : Int} (hzt : zt = (t : Int)) :
    ∃ tb, purTok tb = true ∧ (evKR Bk Gx fsT n).1 0 79 [d.v, .int .i64 zt] [] ansK = some ((unS d (fun i => t.testBit i) tb).v, []) := by
  refine ⟨eraseTok (tokB (unsB d.bs fun i => t.testBit i)), by cases tokB (unsB d.bs fun i => t.testBit i) <;> rfl, ?_⟩
  refine call_open (show fsT.find 79 = some a79 from rfl) (by omega) fun n' B cl rd hn' hB hcl hrd => ?_
  have H40 : ∀ k : Nat, k < 9 → (evKR Bk Gx fsT n').1 0 40 [.int .i64 zt, .int .i64 (k : Int)] [] ansK = some (.bool (t.testBit k), []) := fun k hk => In_ev (n := n') (by omega) t k ht hk hzt rfl
  rw [← hcl] at H40
  have HL := fun z6 => a79_L1_step hB (rd := rd) d hd hnb t (purTok_clamp (l := (Nat.succ 0).pred) hd.tb) H40 z6
  conv => lhs; whnf
  repeat' ((first | refine fnat_pred hB ?_ | refine tok_step hB hd.tp ?_ | refine tok_step hB hd.tb ?_ | refine HL _ _ _ _ _ 0 [] (by omega) (by omega) rfl (fun x => ?_) | refine tokE_step hB ?_ | refine purs_step hB rfl ?_ | refine lt_tt hB (by decide) ?_ | refine lt_ff hB (by decide) ?_ | refine le_tt hB (by decide) ?_ | refine le_ff hB (by decide) ?_ | refine eq_tt hB (by decide) ?_ | refine eq_ff hB (by decide) ?_ | refine fint_wrp hB (by omega) (by omega) ?_ | refine fint_step hB ?_ | refine fbool_tt hB ?_ | refine fbool_ff hB ?_ | refine fbool_split hB (fun _ => ?_) (fun _ => ?_) | refine ftok_step hB ?_ | refine frows_step hB ?_ | refine fstr_step hB ?_ | refine len_map hB ?_ | refine len_step hB ?_ | refine lens_step hB ?_ | refine byte_step hB ?_ | refine drop_step hB rfl ?_ | refine fl_step hB rfl ?_ | refine add_one hB (by first | omega | decide) ?_ | refine opt_step hB rfl ?_ | refine fnat_step hB ?_ | refine ifk_step hB rfl ?_ | refine ifk_step hB (flat_or rfl) ?_ | refine opt2_step hB rfl ?_ | refine obj_raw hB ?_ | refine sob_raw hB ?_ | refine fst_raw hB ?_ | refine optl_raw hB ?_ | refine tok_step hB rfl ?_) <;> conv => lhs; whnf)
  rfl
end Go.Ab.Cl
