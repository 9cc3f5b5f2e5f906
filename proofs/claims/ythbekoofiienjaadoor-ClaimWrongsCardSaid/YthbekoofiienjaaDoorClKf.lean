/-
  The claims, the specification: Wrong.
-/
import Derived.Test.YthbekoofiienjaaDoorClKe
namespace Go.Ab.Cl
open Go.Ab

/-! ### are all stamped? -/
theorem a34_L2_step {B : Bnd} (hB : B = Bk) {cl : CallK} {rd : RoundK} (d : Desk) (hd : d.ok) (l : List Nat) (hl : ∀ x ∈ l, x < d.bs.length) (hl6 : l.length ≤ 100) {tl tb : Tok} (htl : purTok tl = true) (htb : purTok tb = true) {zs : Int} {fo : Bool} {best : List Int} (n : Nat) (k : Ex → Env → St → Ans) (r : Ans) :
    ∀ (j i0 : Nat) (acc : Bool), l.length < i0 + j → i0 ≤ l.length →
    (∀ x, k (.exit 2) [(1, .ptr 0 0 0), (5, .bool fo), (6, .sl (rowsI best) tb), (7, .int .i64 zs), (8, .sl (rowsI (nats l)) tl), (9, .bool (acc && (l.drop i0).all (stampB d))), (10, .int .i64 x)] [⟨[], []⟩, ⟨[.cells d.c], []⟩] = r) →
    B.loop (evCK B a34_L2) [1, 5, 6, 7, 8, 9, 10] n j cl rd Gx 0 2 [(1, .ptr 0 0 0), (5, .bool fo), (6, .sl (rowsI best) tb), (7, .int .i64 zs), (8, .sl (rowsI (nats l)) tl), (9, .bool acc), (10, .int .i64 (.ofNat i0))] [⟨[], []⟩, ⟨[.cells d.c], []⟩] k = r := by
  intro j
  induction j with
  | zero => intro i0 acc h1 h2; omega
  | succ j ih =>
    intro i0 acc h1 h2 k1
    refine loop_succ hB ?_
    have hnl : (nats l).length = l.length := by simp [nats]
    cases acc
    · conv => lhs; whnf
      repeat' ((first | refine fnat_pred hB ?_ | refine tok_step hB htl ?_ | refine tok_step hB htb ?_ | refine len_map hB ?_ | refine lt_nat hB (fun h => ?_) (fun h => ?_) | refine purs_step hB rfl ?_ | refine lt_tt hB (by decide) ?_ | refine lt_ff hB (by decide) ?_ | refine le_tt hB (by decide) ?_ | refine le_ff hB (by decide) ?_ | refine eq_tt hB (by decide) ?_ | refine eq_ff hB (by decide) ?_ | refine fint_wrp hB (by omega) (by omega) ?_ | refine fint_step hB ?_ | refine fbool_tt hB ?_ | refine fbool_ff hB ?_ | refine fbool_split hB (fun _ => ?_) (fun _ => ?_) | refine ftok_step hB ?_ | refine frows_step hB ?_ | refine fstr_step hB ?_ | refine len_map hB ?_ | refine len_step hB ?_ | refine lens_step hB ?_ | refine byte_step hB ?_ | refine drop_step hB rfl ?_ | refine fl_step hB rfl ?_ | refine add_one hB (by first | omega | decide) ?_ | refine opt_step hB rfl ?_ | refine fnat_step hB ?_ | refine ifk_step hB rfl ?_ | refine ifk_step hB (flat_or rfl) ?_ | refine opt2_step hB rfl ?_ | refine obj_raw hB ?_ | refine sob_raw hB ?_ | refine fst_raw hB ?_ | refine optl_raw hB ?_ | refine tok_step hB rfl ?_) <;> conv => lhs; whnf)
      · rw [clampTok_pur htl, clampTok_pur htb]
        refine ih (i0 + 1) false (by omega) (by omega) fun x => ?_
        have k1 := k1 x
        rw [Bool.false_and] at k1 ⊢
        exact k1
      · rw [clampTok_pur htl, clampTok_pur htb]
        have k1 := k1 (.ofNat i0)
        rw [Bool.false_and] at k1
        exact k1
    · conv => lhs; whnf
      repeat' ((first | refine fnat_pred hB ?_ | refine tok_step hB htl ?_ | refine tok_step hB htb ?_ | refine len_map hB ?_ | refine lt_nat hB (fun h => ?_) (fun h => ?_) | refine purs_step hB rfl ?_ | refine lt_tt hB (by decide) ?_ | refine lt_ff hB (by decide) ?_ | refine le_tt hB (by decide) ?_ | refine le_ff hB (by decide) ?_ | refine eq_tt hB (by decide) ?_ | refine eq_ff hB (by decide) ?_ | refine fint_wrp hB (by omega) (by omega) ?_ | refine fint_step hB ?_ | refine fbool_tt hB ?_ | refine fbool_ff hB ?_ | refine fbool_split hB (fun _ => ?_) (fun _ => ?_) | refine ftok_step hB ?_ | refine frows_step hB ?_ | refine fstr_step hB ?_ | refine len_map hB ?_ | refine len_step hB ?_ | refine lens_step hB ?_ | refine byte_step hB ?_ | refine drop_step hB rfl ?_ | refine fl_step hB rfl ?_ | refine add_one hB (by first | omega | decide) ?_ | refine opt_step hB rfl ?_ | refine fnat_step hB ?_ | refine ifk_step hB rfl ?_ | refine ifk_step hB (flat_or rfl) ?_ | refine opt2_step hB rfl ?_ | refine obj_raw hB ?_ | refine sob_raw hB ?_ | refine fst_raw hB ?_ | refine optl_raw hB ?_ | refine tok_step hB rfl ?_) <;> conv => lhs; whnf)
      · have h' : i0 < l.length := by omega
        have hx : (rowsI (nats l))[i0]? = some [.int .i64 ((l[i0] : Nat) : Int)] := by simp [rowsI, nats, h']
        have hdr : l.drop i0 = l[i0] :: l.drop (i0 + 1) := List.drop_eq_getElem_cons h'
        have hlt := hl l[i0] (List.getElem_mem _)
        rw [hdr] at k1
        generalize l[i0] = y at hx k1 hlt
        obtain ⟨b, hb⟩ : ∃ b, d.bs[y]? = some b := ⟨d.bs[y], by simp⟩
        have hxb : (d.bs.map Box.c)[y]? = some b.c := by simp [hb]
        have hst : stampB d y = b.stamp := by unfold stampB; rw [hb]
        repeat' ((first | refine fnat_pred hB ?_ | refine tok_step hB htl ?_ | refine tok_step hB htb ?_ | refine len_map hB ?_ | refine tok_step hB hd.tp ?_ | refine tok_step hB hd.tb ?_ | refine natOf_step hB (m := i0) rfl ?_ | refine natOf_step hB (m := y) rfl ?_ | refine nth_step hB hx ?_ | refine nth_step hB hxb ?_ | refine purs_step hB rfl ?_ | refine lt_tt hB (by decide) ?_ | refine lt_ff hB (by decide) ?_ | refine le_tt hB (by decide) ?_ | refine le_ff hB (by decide) ?_ | refine eq_tt hB (by decide) ?_ | refine eq_ff hB (by decide) ?_ | refine fint_wrp hB (by omega) (by omega) ?_ | refine fint_step hB ?_ | refine fbool_tt hB ?_ | refine fbool_ff hB ?_ | refine fbool_split hB (fun _ => ?_) (fun _ => ?_) | refine ftok_step hB ?_ | refine frows_step hB ?_ | refine fstr_step hB ?_ | refine len_map hB ?_ | refine len_step hB ?_ | refine lens_step hB ?_ | refine byte_step hB ?_ | refine drop_step hB rfl ?_ | refine fl_step hB rfl ?_ | refine add_one hB (by first | omega | decide) ?_ | refine opt_step hB rfl ?_ | refine fnat_step hB ?_ | refine ifk_step hB rfl ?_ | refine ifk_step hB (flat_or rfl) ?_ | refine opt2_step hB rfl ?_ | refine obj_raw hB ?_ | refine sob_raw hB ?_ | refine fst_raw hB ?_ | refine optl_raw hB ?_ | refine tok_step hB rfl ?_) <;> conv => lhs; whnf)
        rw [clampTok_pur htl, clampTok_pur htb]
        refine ih (i0 + 1) b.stamp (by omega) (by omega) fun x => ?_
        have k1 := k1 x
        rw [List.all_cons, hst, Bool.true_and] at k1
        exact k1
      · have hi : i0 = l.length := by omega
        subst hi
        rw [List.drop_length] at k1
        rw [clampTok_pur htl, clampTok_pur htb]
        exact k1 _
theorem a34_L2_two {B : Bnd} (hB : B = Bk) {cl : CallK} {rd : RoundK} (d : Desk) (hd : d.ok) (l : List Nat) (hl : ∀ x ∈ l, x < d.bs.length) (hl6 : l.length ≤ 100) {tl tb : Tok} (htl : purTok tl = true) (htb : purTok tb = true) {zs : Int} {fo : Bool} {best : List Int} {v : Bool} (hv : l.all (stampB d) = v) (n : Nat) (k : Ex → Env → St → Ans) (r : Ans) (j : Nat) (hj : 200 ≤ j)
    (k1 : ∀ x, k (.exit 2) [(1, .ptr 0 0 0), (5, .bool fo), (6, .sl (rowsI best) tb), (7, .int .i64 zs), (8, .sl (rowsI (nats l)) tl), (9, .bool v), (10, .int .i64 x)] [⟨[], []⟩, ⟨[.cells d.c], []⟩] = r) :
    B.loop (evCK B a34_L2) [1, 5, 6, 7, 8, 9, 10] n j cl rd Gx 0 2 [(1, .ptr 0 0 0), (5, .bool fo), (6, .sl (rowsI best) tb), (7, .int .i64 zs), (8, .sl (rowsI (nats l)) tl), (9, .bool true), (10, .int .i64 0)] [⟨[], []⟩, ⟨[.cells d.c], []⟩] k = r :=
  a34_L2_step hB d hd l hl hl6 htl htb n k r j 0 true (by omega) (by omega) fun x => by
    rw [List.drop_zero, hv, Bool.true_and]; exact k1 x

/-! ### all sets -/
def refFrom (d : Desk) (b : Option (List Nat)) (j : Nat) : Option (List Nat) := (List.range' j (2 ^ d.bs.length - j)).foldl (refStep d) b
theorem rf_end {d : Desk} {b : Option (List Nat)} {j : Nat} (h : 2 ^ d.bs.length ≤ j) : refFrom d b j = b := by
  unfold refFrom
  rw [Nat.sub_eq_zero_of_le h]; rfl
theorem rf_step {d : Desk} {b : Option (List Nat)} {j : Nat} (h : j < 2 ^ d.bs.length) : refFrom d b j = refFrom d (refStep d b j) (j + 1) := by
  unfold refFrom
  rw [show 2 ^ d.bs.length - j = (2 ^ d.bs.length - (j + 1)) + 1 by omega, List.range'_succ, List.foldl_cons]
def bestL (b : Option (List Nat)) : List Nat := b.getD []
theorem step_no {d : Desk} {b : Option (List Nat)} {t : Nat} (h : goodS d t = false) : refStep d b t = b := by unfold refStep; rw [h]; rfl
theorem step_yes {d : Desk} {b : Option (List Nat)} {t : Nat} (h : goodS d t = true) (h2 : betterO (ofN t d.bs.length) b = true) : refStep d b t = some (ofN t d.bs.length) := by unfold refStep; rw [h, h2]; rfl
theorem step_worse {d : Desk} {b : Option (List Nat)} {t : Nat} (h : betterO (ofN t d.bs.length) b = false) : refStep d b t = b := by unfold refStep; rw [h, Bool.and_false]; rfl

set_option maxHeartbeats 4000000 in
theorem a34_L1_step {B : Bnd} (hB : B = Bk) {cl : CallK} {rd : RoundK} (d : Desk) (hd : d.ok) (hc : d.check = true) (hbest : ∀ t, (ofN t d.bs.length).length ≤ 100)
    (H72 : ∀ t : Nat, t < 512 → cl 0 72 [.int .i64 (t : Int), .int .i64 (.ofNat d.bs.length)] [] ansK = some (.sl (rowsI (nats (ofN t d.bs.length))) (wtk (ofN t d.bs.length)), []))
    (H79 : ∀ t : Nat, t < 512 → ∃ tb, purTok tb = true ∧ cl 0 79 [d.v, .int .i64 (t : Int)] [] ansK = some ((unS d (fun i => t.testBit i) tb).v, []))
    (H77 : ∀ (t : Nat) (tb : Tok), purTok tb = true → cl 0 77 [(unS d (fun i => t.testBit i) tb).v, .int .i64 0, .int .i64 0, .int .i64 0] [] ansK = some (.bool (tW d fun i => t.testBit i), []))
    (H48 : ∀ (a b : List Nat) (t t' : Tok), a.length ≤ 100 → b.length ≤ 100 → purTok t = true → purTok t' = true → cl 0 48 [.sl (rowsI (nats a)) t, .sl (rowsI (nats b)) t'] [] ansK = some (.bool (aheadN a b), []))
    (n : Nat) (hn : 200 ≤ n) (k : Ex → Env → St → Ans) (r : Ans) :
    ∀ (j i0 : Nat) (b : Option (List Nat)), 2 ^ d.bs.length < i0 + j → i0 ≤ 2 ^ d.bs.length → (bestL b).length ≤ 100 →
    (∀ x, k (.exit 0) [(1, .ptr 0 0 0), (5, .bool (refFrom d b i0).isSome), (6, .sl (rowsI (nats (bestL (refFrom d b i0)))) (wtk (bestL (refFrom d b i0)))), (7, .int .i64 x)] [⟨[.cells d.c], []⟩] = r) →
    B.loop (evCK B a34_L1) [1, 5, 6, 7] n j cl rd Gx 0 1 [(1, .ptr 0 0 0), (5, .bool b.isSome), (6, .sl (rowsI (nats (bestL b))) (wtk (bestL b))), (7, .int .i64 (.ofNat i0))] [⟨[.cells d.c], []⟩] k = r := by
  intro j
  induction j with
  | zero => intro i0 b h1 h2; omega
  | succ j ih =>
    intro i0 b h1 h2 hb k1
    have hnb := (check_fine hc).nb
    have h64 : 2 ^ d.bs.length ≤ 64 := by
      have : ∀ k : Fin 7, 2 ^ k.val ≤ 64 := by decide
      exact this ⟨d.bs.length, by omega⟩
    have hsh : (1 <<< d.bs.length : Nat) = 2 ^ d.bs.length := by rw [Nat.shiftLeft_eq, Nat.one_mul]
    refine loop_succ hB ?_
    conv => lhs; whnf
    repeat' ((first | refine fnat_pred hB ?_ | refine tok_step hB hd.tp ?_ | refine tok_step hB hd.tb ?_ | refine len_map hB ?_ | refine opt_step hB (shl_gen (k := d.bs.length) rfl (by omega)) ?_ | refine tok_step hB (wtk_pur _) ?_ | refine lt_split hB (fun h => ?_) (fun h => ?_) | refine purs_step hB rfl ?_ | refine lt_tt hB (by decide) ?_ | refine lt_ff hB (by decide) ?_ | refine le_tt hB (by decide) ?_ | refine le_ff hB (by decide) ?_ | refine eq_tt hB (by decide) ?_ | refine eq_ff hB (by decide) ?_ | refine fint_wrp hB (by omega) (by omega) ?_ | refine fint_step hB ?_ | refine fbool_tt hB ?_ | refine fbool_ff hB ?_ | refine fbool_split hB (fun _ => ?_) (fun _ => ?_) | refine ftok_step hB ?_ | refine frows_step hB ?_ | refine fstr_step hB ?_ | refine len_map hB ?_ | refine len_step hB ?_ | refine lens_step hB ?_ | refine byte_step hB ?_ | refine drop_step hB rfl ?_ | refine fl_step hB rfl ?_ | refine add_one hB (by first | omega | decide) ?_ | refine opt_step hB rfl ?_ | refine fnat_step hB ?_ | refine ifk_step hB rfl ?_ | refine ifk_step hB (flat_or rfl) ?_ | refine opt2_step hB rfl ?_ | refine obj_raw hB ?_ | refine sob_raw hB ?_ | refine fst_raw hB ?_ | refine optl_raw hB ?_ | refine tok_step hB rfl ?_) <;> conv => lhs; whnf)
    · have hi : i0 < 2 ^ d.bs.length := by rw [← hsh]; simp only [Int.ofNat_eq_natCast] at h; omega
      have HO := H72 i0 (by omega)
      obtain ⟨tb, htb, HW⟩ := H79 i0 (by omega)
      have HT := H77 i0 tb htb
      have hmem : ∀ x ∈ ofN i0 d.bs.length, x < d.bs.length := fun x hx => (mem_ofN.1 hx).1
      have hpu : purs [d.v, AV.int .i64 (.ofNat i0)] = true := by simp [purs, pur, hd.tp, hd.tb, Desk.v, Desk.c]
      have hpw : purs [(unS d (fun i => i0.testBit i) tb).v, AV.int .i64 0, AV.int .i64 0, AV.int .i64 0] = true := by simp [purs, pur, Desk.v, Desk.c, unS, hd.tp, htb]
      cases ha : (ofN i0 d.bs.length).all (stampB d)
      · have hg : goodS d i0 = false := by unfold goodS; rw [ha]; rfl
        rw [rf_step hi, step_no hg] at k1
        conv => lhs; whnf
        repeat' ((first | refine fnat_pred hB ?_ | refine tok_step hB hd.tp ?_ | refine tok_step hB hd.tb ?_ | refine tok_step hB htb ?_ | refine len_map hB ?_ | refine tok_step hB (wtk_pur _) ?_ | refine purs_step hB hpu ?_ | refine purs_step hB hpw ?_ | refine pans_step hB HO ?_ | refine pans_step hB HW ?_ | refine pans_step hB HT ?_ | refine a34_L2_two hB d hd (ofN i0 d.bs.length) hmem (hbest i0) (purTok_clamp (wtk_pur _)) (purTok_clamp (wtk_pur _)) ha _ _ _ _ hn (fun x => ?_) | refine purs_step hB rfl ?_ | refine lt_tt hB (by decide) ?_ | refine lt_ff hB (by decide) ?_ | refine le_tt hB (by decide) ?_ | refine le_ff hB (by decide) ?_ | refine eq_tt hB (by decide) ?_ | refine eq_ff hB (by decide) ?_ | refine fint_wrp hB (by omega) (by omega) ?_ | refine fint_step hB ?_ | refine fbool_tt hB ?_ | refine fbool_ff hB ?_ | refine fbool_split hB (fun _ => ?_) (fun _ => ?_) | refine ftok_step hB ?_ | refine frows_step hB ?_ | refine fstr_step hB ?_ | refine len_map hB ?_ | refine len_step hB ?_ | refine lens_step hB ?_ | refine byte_step hB ?_ | refine drop_step hB rfl ?_ | refine fl_step hB rfl ?_ | refine add_one hB (by first | omega | decide) ?_ | refine opt_step hB rfl ?_ | refine fnat_step hB ?_ | refine ifk_step hB rfl ?_ | refine ifk_step hB (flat_or rfl) ?_ | refine opt2_step hB rfl ?_ | refine obj_raw hB ?_ | refine sob_raw hB ?_ | refine fst_raw hB ?_ | refine optl_raw hB ?_ | refine tok_step hB rfl ?_) <;> conv => lhs; whnf)
        simp only [clampTok_pur (wtk_pur _)]
        exact ih (i0 + 1) b (by omega) (by omega) hb k1
      · cases hw : tW d (fun i => i0.testBit i)
        · have hg : goodS d i0 = false := by unfold goodS; rw [ha, hw]; rfl
          rw [rf_step hi, step_no hg] at k1
          rw [hw] at HT
          conv => lhs; whnf
          repeat' ((first | refine fnat_pred hB ?_ | refine tok_step hB hd.tp ?_ | refine tok_step hB hd.tb ?_ | refine tok_step hB htb ?_ | refine len_map hB ?_ | refine tok_step hB (wtk_pur _) ?_ | refine purs_step hB hpu ?_ | refine purs_step hB hpw ?_ | refine pans_step hB HO ?_ | refine pans_step hB HW ?_ | refine pans_step hB HT ?_ | refine a34_L2_two hB d hd (ofN i0 d.bs.length) hmem (hbest i0) (purTok_clamp (wtk_pur _)) (purTok_clamp (wtk_pur _)) ha _ _ _ _ hn (fun x => ?_) | refine purs_step hB rfl ?_ | refine lt_tt hB (by decide) ?_ | refine lt_ff hB (by decide) ?_ | refine le_tt hB (by decide) ?_ | refine le_ff hB (by decide) ?_ | refine eq_tt hB (by decide) ?_ | refine eq_ff hB (by decide) ?_ | refine fint_wrp hB (by omega) (by omega) ?_ | refine fint_step hB ?_ | refine fbool_tt hB ?_ | refine fbool_ff hB ?_ | refine fbool_split hB (fun _ => ?_) (fun _ => ?_) | refine ftok_step hB ?_ | refine frows_step hB ?_ | refine fstr_step hB ?_ | refine len_map hB ?_ | refine len_step hB ?_ | refine lens_step hB ?_ | refine byte_step hB ?_ | refine drop_step hB rfl ?_ | refine fl_step hB rfl ?_ | refine add_one hB (by first | omega | decide) ?_ | refine opt_step hB rfl ?_ | refine fnat_step hB ?_ | refine ifk_step hB rfl ?_ | refine ifk_step hB (flat_or rfl) ?_ | refine opt2_step hB rfl ?_ | refine obj_raw hB ?_ | refine sob_raw hB ?_ | refine fst_raw hB ?_ | refine optl_raw hB ?_ | refine tok_step hB rfl ?_) <;> conv => lhs; whnf)
          simp only [clampTok_pur (wtk_pur _)]
          exact ih (i0 + 1) b (by omega) (by omega) hb k1
        · have hg : goodS d i0 = true := by unfold goodS; rw [ha, hw]; rfl
          rw [hw] at HT
          cases b with
          | none =>
            conv => lhs; whnf
            repeat' ((first | refine fnat_pred hB ?_ | refine tok_step hB hd.tp ?_ | refine tok_step hB hd.tb ?_ | refine tok_step hB htb ?_ | refine len_map hB ?_ | refine tok_step hB (wtk_pur _) ?_ | refine purs_step hB hpu ?_ | refine purs_step hB hpw ?_ | refine pans_step hB HO ?_ | refine pans_step hB HW ?_ | refine pans_step hB HT ?_ | refine a34_L2_two hB d hd (ofN i0 d.bs.length) hmem (hbest i0) (purTok_clamp (wtk_pur _)) (purTok_clamp (wtk_pur _)) ha _ _ _ _ hn (fun x => ?_) | refine purs_step hB rfl ?_ | refine lt_tt hB (by decide) ?_ | refine lt_ff hB (by decide) ?_ | refine le_tt hB (by decide) ?_ | refine le_ff hB (by decide) ?_ | refine eq_tt hB (by decide) ?_ | refine eq_ff hB (by decide) ?_ | refine fint_wrp hB (by omega) (by omega) ?_ | refine fint_step hB ?_ | refine fbool_tt hB ?_ | refine fbool_ff hB ?_ | refine fbool_split hB (fun _ => ?_) (fun _ => ?_) | refine ftok_step hB ?_ | refine frows_step hB ?_ | refine fstr_step hB ?_ | refine len_map hB ?_ | refine len_step hB ?_ | refine lens_step hB ?_ | refine byte_step hB ?_ | refine drop_step hB rfl ?_ | refine fl_step hB rfl ?_ | refine add_one hB (by first | omega | decide) ?_ | refine opt_step hB rfl ?_ | refine fnat_step hB ?_ | refine ifk_step hB rfl ?_ | refine ifk_step hB (flat_or rfl) ?_ | refine opt2_step hB rfl ?_ | refine obj_raw hB ?_ | refine sob_raw hB ?_ | refine fst_raw hB ?_ | refine optl_raw hB ?_ | refine tok_step hB rfl ?_) <;> conv => lhs; whnf)
            simp only [clampTok_pur (wtk_pur _)]
            rw [rf_step hi, step_yes hg rfl] at k1
            exact ih (i0 + 1) (some (ofN i0 d.bs.length)) (by omega) (by omega) (hbest i0) k1

          | some y =>
            have hx : y.length ≤ 100 := hb
            have HA := fun t t' => H48 (ofN i0 d.bs.length) y t t' (hbest i0) hx
            have hn1 : (nats (ofN i0 d.bs.length)).length = (ofN i0 d.bs.length).length := by simp [nats]
            have hn2 : (nats (bestL (some y))).length = y.length := by simp [nats, bestL]
            have hB1 : betterO (ofN i0 d.bs.length) (some y) = lessL (ofN i0 d.bs.length) y := rfl
            conv => lhs; whnf
            repeat' ((first | refine fnat_pred hB ?_ | refine tok_step hB hd.tp ?_ | refine tok_step hB hd.tb ?_ | refine tok_step hB htb ?_ | refine len_map hB ?_ | refine tok_step hB (wtk_pur _) ?_ | refine purs_step hB hpu ?_ | refine purs_step hB hpw ?_ | refine pans_step hB HO ?_ | refine pans_step hB HW ?_ | refine pans_step hB HT ?_ | refine a34_L2_two hB d hd (ofN i0 d.bs.length) hmem (hbest i0) (purTok_clamp (wtk_pur _)) (purTok_clamp (wtk_pur _)) ha _ _ _ _ hn (fun x => ?_) | refine lt_nat hB (fun h1 => ?_) (fun h1 => ?_) | refine eq_split hB (fun h2 => ?_) (fun h2 => ?_) | refine tok_step hB (purTok_clamp (wtk_pur _)) ?_ | refine purs_step hB (by simp [purs, pur, purTok_clamp, wtk_pur]) ?_ | refine pans_bool hB (HA _ _ (purTok_clamp (wtk_pur _)) (purTok_clamp (wtk_pur _))) (fun h3 => ?_) (fun h3 => ?_) | refine purs_step hB rfl ?_ | refine lt_tt hB (by decide) ?_ | refine lt_ff hB (by decide) ?_ | refine le_tt hB (by decide) ?_ | refine le_ff hB (by decide) ?_ | refine eq_tt hB (by decide) ?_ | refine eq_ff hB (by decide) ?_ | refine fint_wrp hB (by omega) (by omega) ?_ | refine fint_step hB ?_ | refine fbool_tt hB ?_ | refine fbool_ff hB ?_ | refine fbool_split hB (fun _ => ?_) (fun _ => ?_) | refine ftok_step hB ?_ | refine frows_step hB ?_ | refine fstr_step hB ?_ | refine len_map hB ?_ | refine len_step hB ?_ | refine lens_step hB ?_ | refine byte_step hB ?_ | refine drop_step hB rfl ?_ | refine fl_step hB rfl ?_ | refine add_one hB (by first | omega | decide) ?_ | refine opt_step hB rfl ?_ | refine fnat_step hB ?_ | refine ifk_step hB rfl ?_ | refine ifk_step hB (flat_or rfl) ?_ | refine opt2_step hB rfl ?_ | refine obj_raw hB ?_ | refine sob_raw hB ?_ | refine fst_raw hB ?_ | refine optl_raw hB ?_ | refine tok_step hB rfl ?_) <;> conv => lhs; whnf)
            · simp only [clampTok_pur (wtk_pur _)]
              rw [rf_step hi, step_yes hg (by rw [hB1, less_iff]; exact .inl (by omega))] at k1
              exact ih (i0 + 1) (some (ofN i0 d.bs.length)) (by omega) (by omega) (hbest i0) k1

            · simp only [clampTok_pur (wtk_pur _)]
              rw [rf_step hi, step_yes hg (by rw [hB1, less_iff]; exact .inr ⟨by simp only [Int.ofNat_eq_natCast] at h2; omega, h3⟩)] at k1
              exact ih (i0 + 1) (some (ofN i0 d.bs.length)) (by omega) (by omega) (hbest i0) k1

            · simp only [clampTok_pur (wtk_pur _)]
              rw [rf_step hi, step_worse (by rw [hB1, ← Bool.not_eq_true, less_iff]; exact fun h4 => h4.elim (fun h5 => by omega) (fun h5 => by rw [h3] at h5; cases h5.2))] at k1
              exact ih (i0 + 1) (some y) (by omega) (by omega) hb k1

            · simp only [clampTok_pur (wtk_pur _)]
              rw [rf_step hi, step_worse (by rw [hB1, ← Bool.not_eq_true, less_iff]; rintro (h4 | ⟨h4, _⟩) <;> (simp only [Int.ofNat_eq_natCast] at h2; omega))] at k1
              exact ih (i0 + 1) (some y) (by omega) (by omega) hb k1

    · have hi : 2 ^ d.bs.length ≤ i0 := by rw [← hsh]; simp only [Int.ofNat_eq_natCast] at h; omega
      rw [rf_end hi] at k1
      simp only [clampTok_pur (wtk_pur _)]
      exact k1 _
end Go.Ab.Cl
