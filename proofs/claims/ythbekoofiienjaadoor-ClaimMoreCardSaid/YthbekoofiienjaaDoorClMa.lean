/-
  The claims: Which of a desk whose boxes a frame below owns.
-/
import Derived.Test.YthbekoofiienjaaDoorClKc
import Derived.Test.YthbekoofiienjaaDoorClZ
namespace Go.Ab.Cl
open Go.Ab

theorem frz_dos {s : St} {D l i n : Nat} (hl : l < D) (f : Fr) {d : Desk} (hd : d.ok) (e : Int) : frz (f :: s) D 1000 (.tup [.agg (dcB d (.os l i 0 n 5)), .int .i64 e]) = some (.tup [.agg (dcB d (.os l i 0 n 5)), .int .i64 e]) := by
  simp [frz, frzs, dcB, eraseTok_pur hd.tp, hl]
theorem which_ok' {d : Desk} {z : Int} (he : whichE d z = 0) : d.check = true := by
  unfold whichE askE at he
  cases hc : d.check
  · rw [hc] at he; simp at he
  · rfl
def askO (d : Desk) (ok : Bool) (v : AV) : AV := if askE d ok = 0 then .agg (dcB d v) else zeroD.v
set_option maxHeartbeats 4000000 in
theorem asked_os {n : Nat} (hn : 1000000000000300 ≤ n) (d : Desk) (hd : d.ok) (ht : d.tb = .any) (f : Nat) (caps : List AV) (s : St) {D : Nat} (hD : D = s.length) {l i : Nat} (hl : l < s.length) (hg : getObj s l i = some (.cells (bflat d.bs))) (ok : Bool)
    (HR : ∀ (fr : Fr) (kont : AV → St → Ans), (evKR Bk Gx fsT n).1 (D + 1) f (.agg (dcB d (.os l i 0 d.bs.length 5)) :: caps) (fr :: s) kont = kont (.bool ok) (fr :: s)) (kont : AV → St → Ans) :
    (evKR Bk Gx fsT (n + 1)).1 D 63 [.agg (dcB d (.os l i 0 d.bs.length 5)), .fn f [] caps] s kont = kont (.tup [askO d ok (.os l i 0 d.bs.length 5), .int .i64 (askE d ok)]) s := by
  refine call_open (show fsT.find 63 = some a63 from rfl) (by omega) fun n' B cl rd hn' hB hcl hrd => ?_
  obtain rfl : n = n' := by omega
  have HC := Check_ev (G := Gx) (n := n) d hd (by omega)
  have hv : d.v = .agg (dcB d (.sl (d.bs.map Box.c) .any)) := by unfold Desk.v Desk.c dcB; rw [ht]
  rw [hv] at HC
  rw [← hcl] at HC HR
  have hl1 : ∀ (g : Fr), D + 1 = (g :: s : St).length := fun _ => by simp [hD]
  have hlD : l < D := by omega
  have hbl : d.bs.length = (d.bs.map Box.c).length := by simp
  cases hc : d.check
  · rw [hc] at HC
    conv => lhs; whnf
    repeat' ((first | refine Qw hB ?_ | refine Qv hB hd.tp ?_ | refine osh_step hB (hand_os_ok (rows := d.bs.map Box.c) hbl ((getObj_sub hl).trans hg) (by omega) box_pur) ?_ | refine Qz hB (hl1 _) ((getObj_top hD).trans rfl) ?_ | refine QA hB (hl1 _) (setTop1 hD) ?_ | refine QA hB (hl1 _) (setTop2 hD) ?_ | refine Q0 hB (by simp [purs, pur, hd.tp, show purTok .any = true from rfl]) ?_ | refine Qx hB HC ?_ | refine fbool_same hB (by omega) ?_ | refine Q0 hB rfl ?_ | refine Q1 hB (by decide) ?_ | refine Q2 hB (by decide) ?_ | refine Q3 hB (by decide) ?_ | refine Q4 hB (by decide) ?_ | refine Q5 hB (by decide) ?_ | refine Q6 hB (by decide) ?_ | refine Q7 hB (by omega) (by omega) ?_ | refine Q8 hB ?_ | refine Q9 hB ?_ | refine Qa hB ?_ | refine Qb hB (fun _ => ?_) (fun _ => ?_) | refine Qc hB ?_ | refine Qd hB ?_ | refine Qe hB ?_ | refine Qf hB ?_ | refine Qg hB ?_ | refine Qh hB ?_ | refine Qi hB ?_ | refine Qj hB rfl ?_ | refine Qk hB rfl ?_ | refine Ql hB (by first | omega | decide) ?_ | refine Qm hB rfl ?_ | refine Qn hB ?_ | refine Qo hB rfl ?_ | refine Qo hB (Qp rfl) ?_ | refine Qq hB rfl ?_ | refine Qr hB ?_ | refine Qs hB ?_ | refine Qt hB ?_ | refine Qu hB ?_ | refine Qv hB rfl ?_) <;> conv => lhs; whnf)
    refine congrArg (fun v => kont v s) ?_
    simp [askO, askE, hc, zeroD, Desk.v, Desk.c, eraseTok]
  · rw [hc] at HC
    have HT := true_ev (n := n) (by omega) d hd hc
    rw [hv, ← hcl] at HT
    cases ok
    · conv => lhs; whnf
      repeat' ((first | refine Qw hB ?_ | refine Qv hB hd.tp ?_ | refine osh_step hB (hand_os_ok (rows := d.bs.map Box.c) hbl ((getObj_sub hl).trans hg) (by omega) box_pur) ?_ | refine Qz hB (hl1 _) ((getObj_top hD).trans rfl) ?_ | refine QA hB (hl1 _) (setTop1 hD) ?_ | refine QA hB (hl1 _) (setTop2 hD) ?_ | refine Q0 hB (by simp [purs, pur, hd.tp, show purTok .any = true from rfl]) ?_ | refine Qx hB HC ?_ | refine fbool_same hB (by omega) ?_ | refine (HR _ _).trans ?_ | refine Q0 hB rfl ?_ | refine Q1 hB (by decide) ?_ | refine Q2 hB (by decide) ?_ | refine Q3 hB (by decide) ?_ | refine Q4 hB (by decide) ?_ | refine Q5 hB (by decide) ?_ | refine Q6 hB (by decide) ?_ | refine Q7 hB (by omega) (by omega) ?_ | refine Q8 hB ?_ | refine Q9 hB ?_ | refine Qa hB ?_ | refine Qb hB (fun _ => ?_) (fun _ => ?_) | refine Qc hB ?_ | refine Qd hB ?_ | refine Qe hB ?_ | refine Qf hB ?_ | refine Qg hB ?_ | refine Qh hB ?_ | refine Qi hB ?_ | refine Qj hB rfl ?_ | refine Qk hB rfl ?_ | refine Ql hB (by first | omega | decide) ?_ | refine Qm hB rfl ?_ | refine Qn hB ?_ | refine Qo hB rfl ?_ | refine Qo hB (Qp rfl) ?_ | refine Qq hB rfl ?_ | refine Qr hB ?_ | refine Qs hB ?_ | refine Qt hB ?_ | refine Qu hB ?_ | refine Qv hB rfl ?_) <;> conv => lhs; whnf)
      refine congrArg (fun v => kont v s) ?_
      simp [askO, askE, hc, zeroD, Desk.v, Desk.c, eraseTok]
    · cases htr : trueB d
      all_goals
        rw [htr] at HT
        conv => lhs; whnf
        repeat' ((first | refine Qw hB ?_ | refine Qv hB hd.tp ?_ | refine osh_step hB (hand_os_ok (rows := d.bs.map Box.c) hbl ((getObj_sub hl).trans hg) (by omega) box_pur) ?_ | refine Qz hB (hl1 _) ((getObj_top hD).trans rfl) ?_ | refine QA hB (hl1 _) (setTop1 hD) ?_ | refine QA hB (hl1 _) (setTop2 hD) ?_ | refine Q0 hB (by simp [purs, pur, hd.tp, show purTok .any = true from rfl]) ?_ | refine Qx hB HC ?_ | refine fbool_same hB (by omega) ?_ | refine (HR _ _).trans ?_ | refine Qx hB HT ?_ | refine Qm hB (frz_dos hlD _ hd 0) ?_ | refine Q0 hB rfl ?_ | refine Q1 hB (by decide) ?_ | refine Q2 hB (by decide) ?_ | refine Q3 hB (by decide) ?_ | refine Q4 hB (by decide) ?_ | refine Q5 hB (by decide) ?_ | refine Q6 hB (by decide) ?_ | refine Q7 hB (by omega) (by omega) ?_ | refine Q8 hB ?_ | refine Q9 hB ?_ | refine Qa hB ?_ | refine Qb hB (fun _ => ?_) (fun _ => ?_) | refine Qc hB ?_ | refine Qd hB ?_ | refine Qe hB ?_ | refine Qf hB ?_ | refine Qg hB ?_ | refine Qh hB ?_ | refine Qi hB ?_ | refine Qj hB rfl ?_ | refine Qk hB rfl ?_ | refine Ql hB (by first | omega | decide) ?_ | refine Qm hB rfl ?_ | refine Qn hB ?_ | refine Qo hB rfl ?_ | refine Qo hB (Qp rfl) ?_ | refine Qq hB rfl ?_ | refine Qr hB ?_ | refine Qs hB ?_ | refine Qt hB ?_ | refine Qu hB ?_ | refine Qv hB rfl ?_) <;> conv => lhs; whnf)
        refine congrArg (fun v => kont v s) ?_
        simp [askO, askE, hc, htr, zeroD, Desk.v, Desk.c, eraseTok]
theorem box1_os {n : Nat} (hn : 3 ≤ n) (d : Desk) (hd : d.ok) (ht : d.tb = .any) (s : St) {D : Nat} (hD : D = s.length) {l i : Nat} (hl : l < s.length) (hg : getObj s l i = some (.cells (bflat d.bs))) (o0 : AObj) (os : List AObj) (T : List (Nat × Nat × Nat)) (z : Int) (fr : Fr) (kont : AV → St → Ans) :
    (evKR Bk Gx fsT n).1 (D + 1 + 1) 70 [.agg (dcB d (.os l i 0 d.bs.length 5)), .ptr D 1 0] (fr :: ⟨o0 :: .cells [.int .i64 z] :: os, T⟩ :: s) kont = kont (.bool (within z 0 ((d.bs.length : Int) - 1))) (fr :: ⟨o0 :: .cells [.int .i64 z] :: os, T⟩ :: s) := by
  refine call_open (show fsT.find 70 = some a70 from rfl) (by omega) fun n' B cl rd hn' hB hcl hrd => ?_
  have H := isBox_ev (G := Gx) (n := n') (by omega) d hd z
  have hv : d.v = .agg (dcB d (.sl (d.bs.map Box.c) .any)) := by unfold Desk.v Desk.c dcB; rw [ht]
  rw [hv, ← hcl] at H
  have hbl : d.bs.length = (d.bs.map Box.c).length := by simp
  have hl3 : ∀ (g : Fr), D + 1 + 1 + 1 = (g :: fr :: ⟨o0 :: .cells [.int .i64 z] :: os, T⟩ :: s : St).length := fun _ => by simp [hD]
  have hl2 : D + 1 + 1 = (fr :: ⟨o0 :: .cells [.int .i64 z] :: os, T⟩ :: s : St).length := by simp [hD]
  have hz : ∀ g : Fr, getObj (g :: fr :: ⟨o0 :: .cells [.int .i64 z] :: os, T⟩ :: s) D 1 = some (.cells [.int .i64 z]) := fun g => (getObj_sub (by simp [hD]; omega)).trans ((getObj_sub (by simp [hD])).trans ((getObj_top hD).trans rfl))
  have ho : ∀ g : Fr, getObj (g :: fr :: ⟨o0 :: .cells [.int .i64 z] :: os, T⟩ :: s) l i = some (.cells (d.bs.map Box.c).flatten) := fun g => (getObj_sub (by simp; omega)).trans ((getObj_sub (by simp; omega)).trans ((getObj_sub hl).trans hg))
  conv => lhs; whnf
  repeat' ((first | refine Qw hB ?_ | refine Qv hB hd.tp ?_ | refine osh_step hB (hand_os_ok (rows := d.bs.map Box.c) hbl (ho _) (by omega) box_pur) ?_ | refine Qz hB (hl3 _) ((getObj_top hl2).trans rfl) ?_ | refine Qz hB (hl3 _) (hz _) ?_ | refine Q0 hB (by simp [purs, pur, hd.tp, show purTok .any = true from rfl]) ?_ | refine Qx hB H ?_ | refine Q0 hB rfl ?_ | refine Q1 hB (by decide) ?_ | refine Q2 hB (by decide) ?_ | refine Q3 hB (by decide) ?_ | refine Q4 hB (by decide) ?_ | refine Q5 hB (by decide) ?_ | refine Q6 hB (by decide) ?_ | refine Q7 hB (by omega) (by omega) ?_ | refine Q8 hB ?_ | refine Q9 hB ?_ | refine Qa hB ?_ | refine Qb hB (fun _ => ?_) (fun _ => ?_) | refine Qc hB ?_ | refine Qd hB ?_ | refine Qe hB ?_ | refine Qf hB ?_ | refine Qg hB ?_ | refine Qh hB ?_ | refine Qi hB ?_ | refine Qj hB rfl ?_ | refine Qk hB rfl ?_ | refine Ql hB (by first | omega | decide) ?_ | refine Qm hB rfl ?_ | refine Qn hB ?_ | refine Qo hB rfl ?_ | refine Qo hB (Qp rfl) ?_ | refine Qq hB rfl ?_ | refine Qr hB ?_ | refine Qs hB ?_ | refine Qt hB ?_ | refine Qu hB ?_ | refine Qv hB rfl ?_) <;> conv => lhs; whnf)
  all_goals rfl

theorem app_lvl {F : Fr} {os : List AObj} {s : St} {D p : Nat} (hD : D = s.length) (acc : List Int) (z : Int) (hl : acc.length ≤ 1000) :
    appAt D (F :: ⟨os, tks p acc⟩ :: s) p 1 8 (.sl (rowsI acc) (tk D p acc)) (.sl [[.int .i64 z]] .full) = some (.sl (rowsI (acc ++ [z])) (tk D p (acc ++ [z])), F :: ⟨os, tks p (acc ++ [z])⟩ :: s) := by
  have h4 : ∀ T q, getTok (F :: ⟨os, T⟩ :: s) D q = tokGet T q := fun T q => by
    rw [getTok_sub (by simp [hD])]
    simp [getTok, getFr, hD]
  have h5 : ∀ T q x, setTok (F :: ⟨os, T⟩ :: s) D q x = F :: ⟨os, tokSet T q x⟩ :: s := fun T q x => by
    rw [setTok_sub (by simp [hD])]
    simp [setTok, modFr, hD]
  cases acc with
  | nil => simp [appAt, rowsAt, rowsI, tk, tks, headFit, purs, pur, h4, h5, tokGet, tokSet]
  | cons a acc =>
    have h1 : ((acc.length + 1 + 1) * 8 ≤ 140737488355328) := by simp at hl; omega
    simp [appAt, rowsAt, rowsI, tk, tks, headFit, purs, pur, h4, h5, tokGet, tokSet, h1]

set_option maxHeartbeats 4000000 in
theorem a22_L1_os {B : Bnd} (hB : B = Bk) {cl : CallK} {rd : RoundK} (d : Desk) (hd : d.ok) (ht : d.tb = .any) (hp : d.ps.length ≤ 8) (z : Int) (s : St) {D : Nat} (hD : D = s.length) {l i : Nat} (hl : l < s.length) (hg : getObj s l i = some (.cells (bflat d.bs))) (o0 : AObj)
    (H71 : ∀ k : Int, cl 0 71 [d.v, .int .i64 z, .int .i64 k] [] ansK = some (.bool (canB d z k), []))
    (n : Nat) (k : Ex → Env → St → Ans) (r : Ans) :
    ∀ (j i0 : Nat) (acc : List Int), d.ps.length < i0 + j → i0 ≤ d.ps.length → acc.length ≤ i0 →
    (∀ x, k (.exit 0) [(3, .ptr D 1 0), (6, .ptr D 2 0), (8, .sl (rowsI (acc ++ whichFrom d z i0)) (tk D 33 (acc ++ whichFrom d z i0))), (22, .int .i64 (.ofNat d.ps.length)), (23, .int .i64 x)] (⟨[o0, .cells [.int .i64 z], .cells (dcB d (.os l i 0 d.bs.length 5))], tks 33 (acc ++ whichFrom d z i0)⟩ :: s) = r) →
    B.loop (evCK B a22_L1) [3, 6, 8, 22, 23] n j cl rd Gx D (D + 1) [(3, .ptr D 1 0), (6, .ptr D 2 0), (8, .sl (rowsI acc) (tk D 33 acc)), (22, .int .i64 (.ofNat d.ps.length)), (23, .int .i64 (.ofNat i0))] (⟨[o0, .cells [.int .i64 z], .cells (dcB d (.os l i 0 d.bs.length 5))], tks 33 acc⟩ :: s) k = r := by
  have hv : d.v = .agg (dcB d (.sl (d.bs.map Box.c) .any)) := by unfold Desk.v Desk.c dcB; rw [ht]
  rw [hv] at H71
  have hbl : d.bs.length = (d.bs.map Box.c).length := by simp
  intro j
  induction j with
  | zero => intro i0 acc h1 h2; omega
  | succ j ih =>
    intro i0 acc h1 h2 h3 k1
    have hl2 : ∀ (g g' : Fr), D + 1 + 1 = (g :: g' :: s : St).length := fun _ _ => by simp [hD]
    have hl0 : ∀ (g : Fr), D < (g :: s : St).length := fun _ => by simp [hD]
    have ho : ∀ g g' : Fr, getObj (g :: g' :: s) l i = some (.cells (d.bs.map Box.c).flatten) := fun g g' => (getObj_sub (by simp; omega)).trans ((getObj_sub hl).trans hg)
    refine loop_succ hB ?_
    conv => lhs; whnf
    refine lt_nat hB (fun h => ?_) (fun h => ?_) <;> conv => lhs; whnf
    · repeat' ((first | refine Qw hB ?_ | refine Qv hB hd.tp ?_ | refine osh_step hB (hand_os_ok (rows := d.bs.map Box.c) hbl (ho _ _) (by omega) box_pur) ?_ | refine Qz hB (hl2 _ _) ((getObj_sub (hl0 _)).trans ((getObj_top hD).trans rfl)) ?_ | refine Q0 hB (by simp [purs, pur, hd.tp, show purTok .any = true from rfl]) ?_ | refine Qy hB (H71 _) (fun hc => ?_) (fun hc => ?_) | refine Qq hB (app_lvl hD acc (i0 : Int) (by omega)) ?_ | refine fst_step hB rfl ?_ | refine Qo hB (Nat.ble_eq_true_of_le (by omega)) ?_ | refine Q0 hB rfl ?_ | refine Q1 hB (by decide) ?_ | refine Q2 hB (by decide) ?_ | refine Q3 hB (by decide) ?_ | refine Q4 hB (by decide) ?_ | refine Q5 hB (by decide) ?_ | refine Q6 hB (by decide) ?_ | refine Q7 hB (by omega) (by omega) ?_ | refine Q8 hB ?_ | refine Q9 hB ?_ | refine Qa hB ?_ | refine Qb hB (fun _ => ?_) (fun _ => ?_) | refine Qc hB ?_ | refine Qd hB ?_ | refine Qe hB ?_ | refine Qf hB ?_ | refine Qg hB ?_ | refine Qh hB ?_ | refine Qi hB ?_ | refine Qj hB rfl ?_ | refine Qk hB rfl ?_ | refine Ql hB (by first | omega | decide) ?_ | refine Qm hB rfl ?_ | refine Qn hB ?_ | refine Qo hB rfl ?_ | refine Qo hB (Qp rfl) ?_ | refine Qq hB rfl ?_ | refine Qr hB ?_ | refine Qs hB ?_ | refine Qt hB ?_ | refine Qu hB ?_ | refine Qv hB rfl ?_) <;> conv => lhs; whnf)
      · rw [whichFrom_yes h hc] at k1
        rw [clamp_tk (by omega)]
        refine ih (i0 + 1) (acc ++ [(i0 : Int)]) (by omega) (by omega) (by simp; omega) fun x => ?_
        rw [List.append_assoc]; exact k1 x
      · rw [whichFrom_no h hc] at k1
        rw [clamp_tk (by omega)]
        exact ih (i0 + 1) acc (by omega) (by omega) (by omega) k1
    · repeat' ((first | refine Qo hB (Nat.ble_eq_true_of_le (by omega)) ?_ | refine Q0 hB rfl ?_ | refine Q1 hB (by decide) ?_ | refine Q2 hB (by decide) ?_ | refine Q3 hB (by decide) ?_ | refine Q4 hB (by decide) ?_ | refine Q5 hB (by decide) ?_ | refine Q6 hB (by decide) ?_ | refine Q7 hB (by omega) (by omega) ?_ | refine Q8 hB ?_ | refine Q9 hB ?_ | refine Qa hB ?_ | refine Qb hB (fun _ => ?_) (fun _ => ?_) | refine Qc hB ?_ | refine Qd hB ?_ | refine Qe hB ?_ | refine Qf hB ?_ | refine Qg hB ?_ | refine Qh hB ?_ | refine Qi hB ?_ | refine Qj hB rfl ?_ | refine Qk hB rfl ?_ | refine Ql hB (by first | omega | decide) ?_ | refine Qm hB rfl ?_ | refine Qn hB ?_ | refine Qo hB rfl ?_ | refine Qo hB (Qp rfl) ?_ | refine Qq hB rfl ?_ | refine Qr hB ?_ | refine Qs hB ?_ | refine Qt hB ?_ | refine Qu hB ?_ | refine Qv hB rfl ?_) <;> conv => lhs; whnf)
      have hi : i0 = d.ps.length := by omega
      subst hi
      rw [whichFrom_end (Nat.le_refl _), List.append_nil] at k1
      rw [clamp_tk (by omega)]
      exact k1 _
set_option maxHeartbeats 4000000 in
theorem Which_os {n : Nat} (hn : 1000000000000400 ≤ n) (d : Desk) (hd : d.ok) (ht : d.tb = .any) (z : Int) (s : St) {D : Nat} (hD : D = s.length) {l i : Nat} (hl : l < s.length) (hg : getObj s l i = some (.cells (bflat d.bs))) (kont : AV → St → Ans) :
    (evKR Bk Gx fsT n).1 D 22 [.agg (dcB d (.os l i 0 d.bs.length 5)), .int .i64 z] s kont = kont (.tup [.sl (rowsI (whichL d z)) (wtok (whichL d z)), .int .i64 (whichE d z)]) s := by
  refine call_open (show fsT.find 22 = some a22 from rfl) (by omega) fun n' B cl rd hn' hB hcl hrd => ?_
  obtain ⟨n2, rfl⟩ : ∃ n2, n' = n2 + 1 := ⟨n' - 1, by omega⟩
  have hl1 : ∀ (g : Fr), D + 1 = (g :: s : St).length := fun _ => by simp [hD]
  obtain ⟨F, hF⟩ : ∃ F : Fr, F = ⟨[.cells (dcB d (.os l i 0 d.bs.length 5)), .cells [.int .i64 z]], []⟩ := ⟨_, rfl⟩
  have H63 : ∀ kont : AV → St → Ans, (evKR Bk Gx fsT (n2 + 1)).1 (D + 1) 63 [.agg (dcB d (.os l i 0 d.bs.length 5)), .fn 70 [] [.ptr D 1 0]] (F :: s) kont = kont (.tup [askO d (within z 0 ((d.bs.length : Int) - 1)) (.os l i 0 d.bs.length 5), .int .i64 (whichE d z)]) (F :: s) := fun kont => by
    have := asked_os (n := n2) (by omega) d hd ht 70 [.ptr D 1 0] (F :: s) (D := D + 1) (hl1 _) (l := l) (i := i) (by simp; omega) ((getObj_sub hl).trans hg) (within z 0 ((d.bs.length : Int) - 1)) (fun fr kont => by
      rw [hF]
      exact box1_os (by omega) d hd ht s hD hl hg _ [] [] z fr kont) kont
    exact this
  rw [hF, ← hcl] at H63
  by_cases he : whichE d z = 0
  · have hck : d.check = true := (which_ok' he)
    have hf := check_fine hck
    have hnp := hf.np
    have H71 := fun k => can_ev (n := n2 + 1) (by omega) d hd hck z k
    rw [← hcl] at H71
    have hL : whichL d z = whichFrom d z 0 := by simp [whichL, he]
    rw [show askO d (within z 0 ((d.bs.length : Int) - 1)) (.os l i 0 d.bs.length 5) = .agg (dcB d (.os l i 0 d.bs.length 5)) from if_pos he, he] at H63
    rw [hL, he]
    conv => lhs; whnf
    repeat' ((first | refine Qw hB ?_ | refine Qv hB hd.tp ?_ | refine (H63 _).trans ?_ | refine a22_L1_os hB d hd ht hnp z s hD hl hg _ H71 _ _ _ _ 0 [] (by omega) (by omega) (by simp) (fun x => ?_) | refine Qm hB (slice_tk _) ?_ | refine Qv hB (wtok_pur _) ?_ | refine Qf hB ?_ | refine Qz hB (hl1 _) ((getObj_top hD).trans rfl) ?_ | refine QA hB (hl1 _) (setTop2 hD) ?_ | refine fbool_same hB (by omega) ?_ | refine Qo hB (Nat.ble_eq_true_of_le (Nat.le_refl _)) ?_ | refine Q0 hB rfl ?_ | refine Q1 hB (by decide) ?_ | refine Q2 hB (by decide) ?_ | refine Q3 hB (by decide) ?_ | refine Q4 hB (by decide) ?_ | refine Q5 hB (by decide) ?_ | refine Q6 hB (by decide) ?_ | refine Q7 hB (by omega) (by omega) ?_ | refine Q8 hB ?_ | refine Q9 hB ?_ | refine Qa hB ?_ | refine Qb hB (fun _ => ?_) (fun _ => ?_) | refine Qc hB ?_ | refine Qd hB ?_ | refine Qe hB ?_ | refine Qf hB ?_ | refine Qg hB ?_ | refine Qh hB ?_ | refine Qi hB ?_ | refine Qj hB rfl ?_ | refine Qk hB rfl ?_ | refine Ql hB (by first | omega | decide) ?_ | refine Qm hB rfl ?_ | refine Qn hB ?_ | refine Qo hB rfl ?_ | refine Qo hB (Qp rfl) ?_ | refine Qq hB rfl ?_ | refine Qr hB ?_ | refine Qs hB ?_ | refine Qt hB ?_ | refine Qu hB ?_ | refine Qv hB rfl ?_) <;> conv => lhs; whnf)
    all_goals rfl
  · rw [show whichL d z = [] by simp [whichL, he]]
    rw [show askO d (within z 0 ((d.bs.length : Int) - 1)) (.os l i 0 d.bs.length 5) = zeroD.v from if_neg he] at H63
    conv => lhs; whnf
    repeat' ((first | refine Qw hB ?_ | refine Qv hB hd.tp ?_ | refine (H63 _).trans ?_ | refine Q6 hB he ?_ | refine Qz hB (hl1 _) ((getObj_top hD).trans rfl) ?_ | refine QA hB (hl1 _) (setTop2 hD) ?_ | refine fbool_same hB (by omega) ?_ | refine Qo hB (Nat.ble_eq_true_of_le (Nat.le_refl _)) ?_ | refine Q0 hB rfl ?_ | refine Q1 hB (by decide) ?_ | refine Q2 hB (by decide) ?_ | refine Q3 hB (by decide) ?_ | refine Q4 hB (by decide) ?_ | refine Q5 hB (by decide) ?_ | refine Q6 hB (by decide) ?_ | refine Q7 hB (by omega) (by omega) ?_ | refine Q8 hB ?_ | refine Q9 hB ?_ | refine Qa hB ?_ | refine Qb hB (fun _ => ?_) (fun _ => ?_) | refine Qc hB ?_ | refine Qd hB ?_ | refine Qe hB ?_ | refine Qf hB ?_ | refine Qg hB ?_ | refine Qh hB ?_ | refine Qi hB ?_ | refine Qj hB rfl ?_ | refine Qk hB rfl ?_ | refine Ql hB (by first | omega | decide) ?_ | refine Qm hB rfl ?_ | refine Qn hB ?_ | refine Qo hB rfl ?_ | refine Qo hB (Qp rfl) ?_ | refine Qq hB rfl ?_ | refine Qr hB ?_ | refine Qs hB ?_ | refine Qt hB ?_ | refine Qu hB ?_ | refine Qv hB rfl ?_) <;> conv => lhs; whnf)
    all_goals rfl
end Go.Ab.Cl
