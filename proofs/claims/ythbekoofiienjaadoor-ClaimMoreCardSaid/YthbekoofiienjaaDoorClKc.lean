/-
  The claims: Match, With and Of; sets of small numbers.
-/
import Derived.Test.YthbekoofiienjaaDoorClFb
import Derived.Test.YthbekoofiienjaaDoorClZ
import Derived.Test.YthbekoofiienjaaDoorClG
import Derived.Test.YthbekoofiienjaaDoorClKa
namespace Go.Ab.Cl
open Go.Ab

def nats (l : List Nat) : List Int := l.map fun x : Nat => (x : Int)
theorem tokE_step {B : Bnd} (hB : B = Bk) {t : Tok} {k : Tok → Ans} {r : Ans} (h : k (eraseTok t) = r) : B.tok t k = r := by subst hB; show tokK t k = r; rw [tokK_eq]; exact h
/-! ### Match -/
theorem row_get {l : List Int} {i : Nat} (h : i < l.length) : (rowsI l)[i]? = some [.int .i64 l[i]] := by simp [rowsI, h]
theorem a24_L1_step {B : Bnd} (hB : B = Bk) {cl : CallK} {rd : RoundK} (l m : List Int) (hl : l.length ≤ 1000000000000000) {t t' : Tok} (ht : purTok t = true) (ht' : purTok t' = true) (n : Nat) (k : Ex → Env → St → Ans) (r : Ans) :
    ∀ (j i : Nat) (ok : Bool), l.length < i + j → i ≤ l.length → (ok = true → l.length = m.length) →
    (∀ x : Int, k (.exit 0) [(0, .sl (rowsI l) t), (1, .sl (rowsI m) t'), (5, .bool (ok && decide (l.drop i = m.drop i))), (6, .int .i64 x)] [⟨[], []⟩] = r) →
    B.loop (evCK B a24_L1) [0, 1, 5, 6] n j cl rd Gx 0 1 [(0, .sl (rowsI l) t), (1, .sl (rowsI m) t'), (5, .bool ok), (6, .int .i64 (.ofNat i))] [⟨[], []⟩] k = r := by
  intro j
  induction j with
  | zero => intro i ok h1 h2; omega
  | succ j ih =>
    intro i ok h1 h2 h3 k1
    refine loop_succ hB ?_
    cases ok
    · conv => lhs; whnf
      repeat' ((first | refine Q0 hB rfl ?_ | refine Q1 hB (by decide) ?_ | refine Q2 hB (by decide) ?_ | refine Q3 hB (by decide) ?_ | refine Q4 hB (by decide) ?_ | refine Q5 hB (by decide) ?_ | refine Q6 hB (by decide) ?_ | refine Q7 hB (by omega) (by omega) ?_ | refine Q8 hB ?_ | refine Q9 hB ?_ | refine Qa hB ?_ | refine Qb hB (fun _ => ?_) (fun _ => ?_) | refine Qc hB ?_ | refine Qd hB ?_ | refine Qe hB ?_ | refine Qf hB ?_ | refine Qg hB ?_ | refine Qh hB ?_ | refine Qi hB ?_ | refine Qj hB rfl ?_ | refine Qk hB rfl ?_ | refine Ql hB (by first | omega | decide) ?_ | refine Qm hB rfl ?_ | refine Qn hB ?_ | refine Qo hB rfl ?_ | refine Qo hB (Qp rfl) ?_ | refine Qq hB rfl ?_ | refine Qr hB ?_ | refine Qs hB ?_ | refine Qt hB ?_ | refine Qu hB ?_ | refine Qv hB rfl ?_) <;> conv => lhs; whnf)
      rw [clampTok_pur ht, clampTok_pur ht']
      exact k1 _
    · have hlm := h3 rfl
      conv => lhs; whnf
      (repeat' ((first | refine Qn hB ?_ | refine Qr hB ?_ | refine Qj hB rfl ?_ | refine Qf hB ?_) <;> conv => lhs; whnf))
      refine lt_nat hB (fun h => ?_) (fun h => ?_) <;> conv => lhs; whnf
      · have hx := row_get h
        have hy := row_get (l := m) (i := i) (by omega)
        have hdl : l.drop i = l[i] :: l.drop (i + 1) := List.drop_eq_getElem_cons h
        have hdm : m.drop i = m[i] :: m.drop (i + 1) := List.drop_eq_getElem_cons (by omega)
        rw [hdl, hdm] at k1
        generalize l[i] = a at hx k1
        generalize m[i] = b at hy k1
        repeat' ((first | refine Qw hB ?_ | refine QC hB (m := i) rfl ?_ | refine QB hB hx ?_ | refine QB hB hy ?_ | refine eq_split hB (fun heq => ?_) (fun heq => ?_) | refine Q0 hB rfl ?_ | refine Q1 hB (by decide) ?_ | refine Q2 hB (by decide) ?_ | refine Q3 hB (by decide) ?_ | refine Q4 hB (by decide) ?_ | refine Q5 hB (by decide) ?_ | refine Q6 hB (by decide) ?_ | refine Q7 hB (by omega) (by omega) ?_ | refine Q8 hB ?_ | refine Q9 hB ?_ | refine Qa hB ?_ | refine Qb hB (fun _ => ?_) (fun _ => ?_) | refine Qc hB ?_ | refine Qd hB ?_ | refine Qe hB ?_ | refine Qf hB ?_ | refine Qg hB ?_ | refine Qh hB ?_ | refine Qi hB ?_ | refine Qj hB rfl ?_ | refine Qk hB rfl ?_ | refine Ql hB (by first | omega | decide) ?_ | refine Qm hB rfl ?_ | refine Qn hB ?_ | refine Qo hB rfl ?_ | refine Qo hB (Qp rfl) ?_ | refine Qq hB rfl ?_ | refine Qr hB ?_ | refine Qs hB ?_ | refine Qt hB ?_ | refine Qu hB ?_ | refine Qv hB rfl ?_) <;> conv => lhs; whnf)
        · subst heq
          rw [clampTok_pur ht, clampTok_pur ht']
          refine ih (i + 1) true (by omega) (by omega) (fun _ => hlm) fun x => ?_
          have k1 := k1 x
          simpa using k1
        · rw [clampTok_pur ht, clampTok_pur ht']
          refine ih (i + 1) false (by omega) (by omega) (fun h => by cases h) fun x => ?_
          have k1 := k1 x
          simpa [heq] using k1
      · repeat' ((first | refine Q0 hB rfl ?_ | refine Q1 hB (by decide) ?_ | refine Q2 hB (by decide) ?_ | refine Q3 hB (by decide) ?_ | refine Q4 hB (by decide) ?_ | refine Q5 hB (by decide) ?_ | refine Q6 hB (by decide) ?_ | refine Q7 hB (by omega) (by omega) ?_ | refine Q8 hB ?_ | refine Q9 hB ?_ | refine Qa hB ?_ | refine Qb hB (fun _ => ?_) (fun _ => ?_) | refine Qc hB ?_ | refine Qd hB ?_ | refine Qe hB ?_ | refine Qf hB ?_ | refine Qg hB ?_ | refine Qh hB ?_ | refine Qi hB ?_ | refine Qj hB rfl ?_ | refine Qk hB rfl ?_ | refine Ql hB (by first | omega | decide) ?_ | refine Qm hB rfl ?_ | refine Qn hB ?_ | refine Qo hB rfl ?_ | refine Qo hB (Qp rfl) ?_ | refine Qq hB rfl ?_ | refine Qr hB ?_ | refine Qs hB ?_ | refine Qt hB ?_ | refine Qu hB ?_ | refine Qv hB rfl ?_) <;> conv => lhs; whnf)
        have hi : i = l.length := by omega
        subst hi
        rw [List.drop_length, hlm, List.drop_length] at k1
        rw [clampTok_pur ht, clampTok_pur ht']
        exact k1 _
theorem Match_ev {n : Nat} (hn : 1000000000000002 ≤ n) (l m : List Int) (hl : l.length ≤ 1000000000000000) {t t' : Tok} (ht : purTok t = true) (ht' : purTok t' = true) :
    (evKR Bk Gx fsT n).1 0 24 [.sl (rowsI l) t, .sl (rowsI m) t'] [] ansK = some (.bool (decide (l = m)), []) := by
  refine call_open (show fsT.find 24 = some a24 from rfl) (by omega) fun n' B cl rd hn' hB hcl hrd => ?_
  conv => lhs; whnf
  repeat' ((first | refine Qw hB ?_ | refine Qv hB ht ?_ | refine Qv hB ht' ?_ | refine Qf hB ?_ | refine eq_split hB (fun heq => ?_) (fun heq => ?_) | refine a24_L1_step hB l m hl (purTok_clamp ht) (purTok_clamp ht') _ _ _ _ 0 _ (by omega) (by omega) (fun h => ?_) (fun x => ?_) | refine Q0 hB rfl ?_ | refine Q1 hB (by decide) ?_ | refine Q2 hB (by decide) ?_ | refine Q3 hB (by decide) ?_ | refine Q4 hB (by decide) ?_ | refine Q5 hB (by decide) ?_ | refine Q6 hB (by decide) ?_ | refine Q7 hB (by omega) (by omega) ?_ | refine Q8 hB ?_ | refine Q9 hB ?_ | refine Qa hB ?_ | refine Qb hB (fun _ => ?_) (fun _ => ?_) | refine Qc hB ?_ | refine Qd hB ?_ | refine Qe hB ?_ | refine Qf hB ?_ | refine Qg hB ?_ | refine Qh hB ?_ | refine Qi hB ?_ | refine Qj hB rfl ?_ | refine Qk hB rfl ?_ | refine Ql hB (by first | omega | decide) ?_ | refine Qm hB rfl ?_ | refine Qn hB ?_ | refine Qo hB rfl ?_ | refine Qo hB (Qp rfl) ?_ | refine Qq hB rfl ?_ | refine Qr hB ?_ | refine Qs hB ?_ | refine Qt hB ?_ | refine Qu hB ?_ | refine Qv hB rfl ?_) <;> conv => lhs; whnf)
  · exact Int.ofNat.inj heq
  · rw [Bool.true_and, List.drop_zero, List.drop_zero]
  · cases h
  · have hne : ¬ l = m := fun h => heq (by rw [h])
    rw [Bool.false_and, decide_eq_false hne]

/-! ### With -/
theorem with1 {l : List Int} (hl : l.length ≤ 1000) {t : Tok} {f : List AObj} : appAt 0 [⟨f, []⟩] 7 1 8 (.sl [] .full) (.sl (rowsI l) t) = some (if l.isEmpty = true then (.sl [] .full, [⟨f, []⟩]) else (.sl (rowsI l) (.site 0 7 1), [⟨f, [(7, 1, l.length)]⟩])) := by
  cases l with
  | nil => rfl
  | cons a l =>
    have h1 : ((l.length + 1) * 8 ≤ 140737488355328) := by simp at hl; omega
    simp [appAt, rowsAt, rowsI, headFit, purs, pur, getTok, setTok, modFr, getFr, tokGet, tokSet, h1]
theorem with2 {l : List Int} (hl : l.length ≤ 1000) {f : List AObj} (z : Int) (hne : l ≠ []) : appAt 0 [⟨f, [(7, 1, l.length)]⟩] 10 1 8 (.sl (rowsI l) (.site 0 7 1)) (.sl [[.int .i64 z]] .full) = some (.sl (rowsI (l ++ [z])) (.site 0 7 1), [⟨f, [(7, 1, l.length + 1)]⟩]) := by
  cases l with
  | nil => exact absurd rfl hne
  | cons a l =>
    have h1 : ((l.length + 1 + 1) * 8 ≤ 140737488355328) := by simp at hl; omega
    simp [appAt, rowsAt, rowsI, headFit, purs, pur, getTok, setTok, modFr, getFr, tokGet, tokSet, h1]
theorem With_ev {n : Nat} (hn : 3 ≤ n) (l : List Int) (hl : l.length ≤ 1000) {t : Tok} (ht : purTok t = true) (z : Int) :
    (evKR Bk Gx fsT n).1 0 90 [.sl (rowsI l) t, .int .i64 z] [] ansK = some (.sl (rowsI (l ++ [z])) .any, []) := by
  refine call_open (show fsT.find 90 = some a90 from rfl) (by omega) fun n' B cl rd hn' hB hcl hrd => ?_
  cases l with
  | nil =>
    conv => lhs; whnf
    repeat' ((first | refine Qw hB ?_ | refine Qv hB ht ?_ | refine tokE_step hB ?_ | refine Q0 hB rfl ?_ | refine Q1 hB (by decide) ?_ | refine Q2 hB (by decide) ?_ | refine Q3 hB (by decide) ?_ | refine Q4 hB (by decide) ?_ | refine Q5 hB (by decide) ?_ | refine Q6 hB (by decide) ?_ | refine Q7 hB (by omega) (by omega) ?_ | refine Q8 hB ?_ | refine Q9 hB ?_ | refine Qa hB ?_ | refine Qb hB (fun _ => ?_) (fun _ => ?_) | refine Qc hB ?_ | refine Qd hB ?_ | refine Qe hB ?_ | refine Qf hB ?_ | refine Qg hB ?_ | refine Qh hB ?_ | refine Qi hB ?_ | refine Qj hB rfl ?_ | refine Qk hB rfl ?_ | refine Ql hB (by first | omega | decide) ?_ | refine Qm hB rfl ?_ | refine Qn hB ?_ | refine Qo hB rfl ?_ | refine Qo hB (Qp rfl) ?_ | refine Qq hB rfl ?_ | refine Qr hB ?_ | refine Qs hB ?_ | refine Qt hB ?_ | refine Qu hB ?_ | refine Qv hB rfl ?_) <;> conv => lhs; whnf)
    all_goals rfl
  | cons a l =>
    have h1 : ∀ t : Tok, appAt 0 [⟨[], []⟩] 7 1 8 (.sl [] .full) (.sl (rowsI (a :: l)) t) = some (.sl (rowsI (a :: l)) (.site 0 7 1), [⟨[], [(7, 1, (a :: l).length)]⟩]) := fun t => with1 hl
    have h2 : appAt 0 [⟨[], [(7, 1, (a :: l).length)]⟩] 10 1 8 (.sl (rowsI (a :: l)) (.site 0 7 1)) (.sl [[.int .i64 z]] .full) = some (.sl (rowsI ((a :: l) ++ [z])) (.site 0 7 1), [⟨[], [(7, 1, (a :: l).length + 1)]⟩]) := with2 hl z (by simp)
    conv => lhs; whnf
    repeat' ((first | refine Qw hB ?_ | refine Qv hB ht ?_ | refine Q0 hB rfl ?_ | refine Q1 hB (by decide) ?_ | refine Q2 hB (by decide) ?_ | refine Q3 hB (by decide) ?_ | refine Q4 hB (by decide) ?_ | refine Q5 hB (by decide) ?_ | refine Q6 hB (by decide) ?_ | refine Q7 hB (by omega) (by omega) ?_ | refine Q8 hB ?_ | refine Q9 hB ?_ | refine Qa hB ?_ | refine Qb hB (fun _ => ?_) (fun _ => ?_) | refine Qc hB ?_ | refine Qd hB ?_ | refine Qe hB ?_ | refine Qf hB ?_ | refine Qg hB ?_ | refine Qh hB ?_ | refine Qi hB ?_ | refine Qj hB rfl ?_ | refine Qk hB rfl ?_ | refine Ql hB (by first | omega | decide) ?_ | refine Qm hB rfl ?_ | refine Qn hB ?_ | refine Qo hB rfl ?_ | refine Qo hB (Qp rfl) ?_ | refine Qq hB rfl ?_ | refine Qr hB ?_ | refine Qs hB ?_ | refine Qt hB ?_ | refine Qu hB ?_ | refine Qv hB rfl ?_) <;> conv => lhs; whnf)
    refine Qq hB (h1 t) ?_
    conv => lhs; whnf
    repeat' ((first | refine Qw hB ?_ | refine Qv hB ht ?_ | refine Q0 hB rfl ?_ | refine Q1 hB (by decide) ?_ | refine Q2 hB (by decide) ?_ | refine Q3 hB (by decide) ?_ | refine Q4 hB (by decide) ?_ | refine Q5 hB (by decide) ?_ | refine Q6 hB (by decide) ?_ | refine Q7 hB (by omega) (by omega) ?_ | refine Q8 hB ?_ | refine Q9 hB ?_ | refine Qa hB ?_ | refine Qb hB (fun _ => ?_) (fun _ => ?_) | refine Qc hB ?_ | refine Qd hB ?_ | refine Qe hB ?_ | refine Qf hB ?_ | refine Qg hB ?_ | refine Qh hB ?_ | refine Qi hB ?_ | refine Qj hB rfl ?_ | refine Qk hB rfl ?_ | refine Ql hB (by first | omega | decide) ?_ | refine Qm hB rfl ?_ | refine Qn hB ?_ | refine Qo hB rfl ?_ | refine Qo hB (Qp rfl) ?_ | refine Qq hB rfl ?_ | refine Qr hB ?_ | refine Qs hB ?_ | refine Qt hB ?_ | refine Qu hB ?_ | refine Qv hB rfl ?_) <;> conv => lhs; whnf)
    refine Qq hB h2 ?_
    conv => lhs; whnf
    repeat' ((first | refine Qw hB ?_ | refine Qv hB ht ?_ | refine tokE_step hB ?_ | refine Q0 hB rfl ?_ | refine Q1 hB (by decide) ?_ | refine Q2 hB (by decide) ?_ | refine Q3 hB (by decide) ?_ | refine Q4 hB (by decide) ?_ | refine Q5 hB (by decide) ?_ | refine Q6 hB (by decide) ?_ | refine Q7 hB (by omega) (by omega) ?_ | refine Q8 hB ?_ | refine Q9 hB ?_ | refine Qa hB ?_ | refine Qb hB (fun _ => ?_) (fun _ => ?_) | refine Qc hB ?_ | refine Qd hB ?_ | refine Qe hB ?_ | refine Qf hB ?_ | refine Qg hB ?_ | refine Qh hB ?_ | refine Qi hB ?_ | refine Qj hB rfl ?_ | refine Qk hB rfl ?_ | refine Ql hB (by first | omega | decide) ?_ | refine Qm hB rfl ?_ | refine Qn hB ?_ | refine Qo hB rfl ?_ | refine Qo hB (Qp rfl) ?_ | refine Qq hB rfl ?_ | refine Qr hB ?_ | refine Qs hB ?_ | refine Qt hB ?_ | refine Qu hB ?_ | refine Qv hB rfl ?_) <;> conv => lhs; whnf)
    all_goals rfl

/-! ### Of -/
def ofFrom (t P j : Nat) : List Int := List.map (fun k : Nat => (k : Int)) ((List.range' j (P - j)).filter fun k => t.testBit k)
theorem ofFrom_end {t P j : Nat} (h : P ≤ j) : ofFrom t P j = [] := by
  unfold ofFrom
  rw [Nat.sub_eq_zero_of_le h]; rfl
theorem ofFrom_yes {t P j : Nat} (h : j < P) (hf : t.testBit j = true) : ofFrom t P j = (j : Int) :: ofFrom t P (j + 1) := by
  unfold ofFrom
  rw [show P - j = (P - (j + 1)) + 1 by omega, List.range'_succ, List.filter_cons_of_pos (p := fun k : Nat => t.testBit k) hf]; rfl
theorem ofFrom_no {t P j : Nat} (h : j < P) (hf : t.testBit j = false) : ofFrom t P j = ofFrom t P (j + 1) := by
  unfold ofFrom
  rw [show P - j = (P - (j + 1)) + 1 by omega, List.range'_succ, List.filter_cons_of_neg (p := fun k : Nat => t.testBit k) (by rw [hf]; exact Bool.false_ne_true)]
theorem a72_L1_step {B : Bnd} (hB : B = Bk) {cl : CallK} {rd : RoundK} (t P : Nat) (hP : P ≤ 8) {zt zP : Int} (hzP : zP = (P : Int)) (H40 : ∀ k : Nat, k < 9 → cl 0 40 [.int .i64 zt, .int .i64 (k : Int)] [] ansK = some (.bool (t.testBit k), []))
    (n : Nat) (k : Ex → Env → St → Ans) (r : Ans) :
    ∀ (j i0 : Nat) (acc : List Int), P < i0 + j → i0 ≤ P → acc.length ≤ i0 →
    (∀ x : Int, k (.exit 0) [(0, .int .i64 zt), (1, .int .i64 zP), (5, .sl (rowsI (acc ++ ofFrom t P i0)) (tk 0 18 (acc ++ ofFrom t P i0))), (6, .int .i64 x)] [⟨[], tks 18 (acc ++ ofFrom t P i0)⟩] = r) →
    B.loop (evCK B a72_L1) [0, 1, 5, 6] n j cl rd Gx 0 1 [(0, .int .i64 zt), (1, .int .i64 zP), (5, .sl (rowsI acc) (tk 0 18 acc)), (6, .int .i64 (.ofNat i0))] [⟨[], tks 18 acc⟩] k = r := by
  intro j
  induction j with
  | zero => intro i0 acc h1 h2; omega
  | succ j ih =>
    intro i0 acc h1 h2 h3 k1
    refine loop_succ hB ?_
    subst hzP
    conv => lhs; whnf
    refine lt_nat hB (fun h => ?_) (fun h => ?_) <;> conv => lhs; whnf
    · repeat' ((first | refine Qw hB ?_ | refine Qy hB (H40 i0 (by omega)) (fun hc => ?_) (fun hc => ?_) | refine Qq hB (app_tk acc (i0 : Int) (by omega) _) ?_ | refine Q0 hB rfl ?_ | refine Q1 hB (by decide) ?_ | refine Q2 hB (by decide) ?_ | refine Q3 hB (by decide) ?_ | refine Q4 hB (by decide) ?_ | refine Q5 hB (by decide) ?_ | refine Q6 hB (by decide) ?_ | refine Q7 hB (by omega) (by omega) ?_ | refine Q8 hB ?_ | refine Q9 hB ?_ | refine Qa hB ?_ | refine Qb hB (fun _ => ?_) (fun _ => ?_) | refine Qc hB ?_ | refine Qd hB ?_ | refine Qe hB ?_ | refine Qf hB ?_ | refine Qg hB ?_ | refine Qh hB ?_ | refine Qi hB ?_ | refine Qj hB rfl ?_ | refine Qk hB rfl ?_ | refine Ql hB (by first | omega | decide) ?_ | refine Qm hB rfl ?_ | refine Qn hB ?_ | refine Qo hB rfl ?_ | refine Qo hB (Qp rfl) ?_ | refine Qq hB rfl ?_ | refine Qr hB ?_ | refine Qs hB ?_ | refine Qt hB ?_ | refine Qu hB ?_ | refine Qv hB rfl ?_) <;> conv => lhs; whnf)
      · rw [ofFrom_yes h hc] at k1
        rw [clamp_tk (by omega)]
        refine ih (i0 + 1) (acc ++ [(i0 : Int)]) (by omega) (by omega) (by simp; omega) ?_
        rw [List.append_assoc]; exact k1
      · rw [ofFrom_no h hc] at k1
        rw [clamp_tk (by omega)]
        exact ih (i0 + 1) acc (by omega) (by omega) (by omega) k1
    · repeat' ((first | refine Q0 hB rfl ?_ | refine Q1 hB (by decide) ?_ | refine Q2 hB (by decide) ?_ | refine Q3 hB (by decide) ?_ | refine Q4 hB (by decide) ?_ | refine Q5 hB (by decide) ?_ | refine Q6 hB (by decide) ?_ | refine Q7 hB (by omega) (by omega) ?_ | refine Q8 hB ?_ | refine Q9 hB ?_ | refine Qa hB ?_ | refine Qb hB (fun _ => ?_) (fun _ => ?_) | refine Qc hB ?_ | refine Qd hB ?_ | refine Qe hB ?_ | refine Qf hB ?_ | refine Qg hB ?_ | refine Qh hB ?_ | refine Qi hB ?_ | refine Qj hB rfl ?_ | refine Qk hB rfl ?_ | refine Ql hB (by first | omega | decide) ?_ | refine Qm hB rfl ?_ | refine Qn hB ?_ | refine Qo hB rfl ?_ | refine Qo hB (Qp rfl) ?_ | refine Qq hB rfl ?_ | refine Qr hB ?_ | refine Qs hB ?_ | refine Qt hB ?_ | refine Qu hB ?_ | refine Qv hB rfl ?_) <;> conv => lhs; whnf)
      have hi : i0 = P := by omega
      subst hi
      rw [ofFrom_end (Nat.le_refl _), List.append_nil] at k1
      rw [clamp_tk (by omega)]
      exact k1 _
theorem Of_ev {n : Nat} (hn : 1000000000000002 ≤ n) (t P : Nat) (ht : t < 512) (hP : P ≤ 8) {zt zP : Int} (hzt : zt = (t : Int)) (hzP : zP = (P : Int)) :
    (evKR Bk Gx fsT n).1 0 72 [.int .i64 zt, .int .i64 zP] [] ansK = some (.sl (rowsI (ofFrom t P 0)) (if (ofFrom t P 0).isEmpty = true then .nil else .any), []) := by
  refine call_open (show fsT.find 72 = some a72 from rfl) (by omega) fun n' B cl rd hn' hB hcl hrd => ?_
  have H40 : ∀ k : Nat, k < 9 → (evKR Bk Gx fsT n').1 0 40 [.int .i64 zt, .int .i64 (k : Int)] [] ansK = some (.bool (t.testBit k), []) := fun k hk => In_ev (n := n') (by omega) t k (by omega) hk hzt rfl
  rw [← hcl] at H40
  conv => lhs; whnf
  repeat' ((first | refine Qw hB ?_ | refine a72_L1_step hB t P hP hzP H40 _ _ _ _ 0 [] (by omega) (by omega) (by simp) (fun x => ?_) | refine tokE_step hB ?_ | refine Q0 hB rfl ?_ | refine Q1 hB (by decide) ?_ | refine Q2 hB (by decide) ?_ | refine Q3 hB (by decide) ?_ | refine Q4 hB (by decide) ?_ | refine Q5 hB (by decide) ?_ | refine Q6 hB (by decide) ?_ | refine Q7 hB (by omega) (by omega) ?_ | refine Q8 hB ?_ | refine Q9 hB ?_ | refine Qa hB ?_ | refine Qb hB (fun _ => ?_) (fun _ => ?_) | refine Qc hB ?_ | refine Qd hB ?_ | refine Qe hB ?_ | refine Qf hB ?_ | refine Qg hB ?_ | refine Qh hB ?_ | refine Qi hB ?_ | refine Qj hB rfl ?_ | refine Qk hB rfl ?_ | refine Ql hB (by first | omega | decide) ?_ | refine Qm hB rfl ?_ | refine Qn hB ?_ | refine Qo hB rfl ?_ | refine Qo hB (Qp rfl) ?_ | refine Qq hB rfl ?_ | refine Qr hB ?_ | refine Qs hB ?_ | refine Qt hB ?_ | refine Qu hB ?_ | refine Qv hB rfl ?_) <;> conv => lhs; whnf)
  rw [List.nil_append]
  unfold tk
  split <;> rfl

/-! ### sets -/
theorem bv_nat {a : Nat} (ha : a < 512) : (BitVec.ofInt 64 (a : Int)).toNat = a := by
  rw [BitVec.ofInt_natCast, BitVec.toNat_ofNat]
  omega
theorem and_gen {a b : Nat} (ha : a < 512) (hb : b < 512) : binAV .and (.int .i64 (a : Int)) (.int .i64 (b : Int)) = some (.int .i64 ((a &&& b : Nat) : Int)) := by
  have h : a &&& b < 512 := Nat.and_lt_two_pow (n := 9) a hb
  show (if IntKind.i64 = IntKind.i64 then intBin .and .i64 (a : Int) (b : Int) else none) = _
  rw [if_pos rfl]
  show some (AV.int .i64 (wrp .i64 (BitVec.ofInt 64 (a : Int) &&& BitVec.ofInt 64 (b : Int)).toNat)) = _
  rw [BitVec.toNat_and, bv_nat ha, bv_nat hb, wrp_i64 (by omega) (by omega)]
theorem or_gen {a b : Nat} (ha : a < 512) (hb : b < 512) : binAV .or (.int .i64 (a : Int)) (.int .i64 (b : Int)) = some (.int .i64 ((a ||| b : Nat) : Int)) := by
  have h : a ||| b < 512 := Nat.or_lt_two_pow (n := 9) ha hb
  show (if IntKind.i64 = IntKind.i64 then intBin .or .i64 (a : Int) (b : Int) else none) = _
  rw [if_pos rfl]
  show some (AV.int .i64 (wrp .i64 (BitVec.ofInt 64 (a : Int) ||| BitVec.ofInt 64 (b : Int)).toNat)) = _
  rw [BitVec.toNat_or, bv_nat ha, bv_nat hb, wrp_i64 (by omega) (by omega)]
theorem shl_all9 : ∀ k : Fin 9, isI (binAV .shl (.int .i64 1) (.int .i64 (k.val : Int))) ((1 <<< k.val : Nat) : Int) = true := by decide +kernel
theorem shl_gen {k : Nat} {b : Int} (hb : b = (k : Int)) (hk : k < 9) : binAV .shl (.int .i64 1) (.int .i64 b) = some (.int .i64 ((1 <<< k : Nat) : Int)) := by subst hb; exact isI_ok (shl_all9 ⟨k, hk⟩)
end Go.Ab.Cl

namespace Go.Ab
theorem getTok_sub {f : Fr} {s : St} {l p : Nat} (h : l < s.length) : getTok (f :: s) l p = getTok s l p := by
  unfold getTok
  show (match (if l = s.length then some f else getFr s l) with | some f => tokGet f.toks p | none => (0, 0)) = _
  rw [if_neg (by omega)]
  rfl
theorem setTok_sub {f : Fr} {s : St} {l p : Nat} {x : Nat × Nat} (h : l < s.length) : setTok (f :: s) l p x = f :: setTok s l p x := by
  show (if l = s.length then _ else f :: modFr _ s l) = _
  rw [if_neg (by omega)]; rfl
theorem getTok_over {fr : List Fr} {s : St} {l p : Nat} (h : l < s.length) : getTok (fr ++ s) l p = getTok s l p := by
  induction fr with
  | nil => rfl
  | cons f fr ih => rw [List.cons_append, getTok_sub (by simp; omega), ih]
theorem setTok_over {fr : List Fr} {s : St} {l p : Nat} {x : Nat × Nat} (h : l < s.length) : setTok (fr ++ s) l p x = fr ++ setTok s l p x := by
  induction fr with
  | nil => rfl
  | cons f fr ih => rw [List.cons_append, setTok_sub (by simp; omega), ih]; rfl
end Go.Ab
namespace Go.Ab.Cl
open Go.Ab

def setI : List (Int × Int) → Int → Int → List (Int × Int)
  | [], i, k => [(i, k)]
  | (a, b) :: l, i, k => if a = i then (i, k) :: l else (a, b) :: setI l i k
theorem setI_ok (ge : List (Int × Int)) (i k : Int) : setE (.s .int) (.int .i64 i) (.int .i64 k) (intsE ge) = some (intsE (setI ge i k)) := by
  induction ge with
  | nil => rfl
  | cons p ge ih =>
    obtain ⟨a, b⟩ := p
    show (eqK (.s .int) (.int .i64 i) (.int .i64 a)).bind _ = _
    have e : eqK (.s .int) (.int .i64 i) (.int .i64 a) = some (i == a) := by simp [eqK, eqS]
    rw [e]
    simp only [Option.bind_some, setI]
    by_cases h : a = i
    · subst h; simp [intsE]
    · have h2 : (i == a) = false := by simpa using fun e => h e.symm
      rw [h2, if_neg h]
      simp only [Bool.false_eq_true, if_false]
      rw [show setE (.s .int) (.int .i64 i) (.int .i64 k) (ge.map fun p => (.int .i64 p.1, .int .i64 p.2)) = _ from ih]
      rfl
theorem look_set (ge : List (Int × Int)) (i k j : Int) : look (setI ge i k) j = if j = i then some k else look ge j := by
  induction ge with
  | nil =>
    unfold look setI
    by_cases h : j = i
    · subst h; simp
    · have h2 : (i == j) = false := by simpa using fun e => h e.symm
      simp [List.find?, h2, h]
  | cons p ge ih =>
    obtain ⟨a, b⟩ := p
    unfold setI
    by_cases h : a = i
    · subst h
      rw [if_pos rfl]
      unfold look
      by_cases h : j = a
      · subst h; simp
      · have h2 : (a == j) = false := by simpa using fun e => h e.symm
        simp [List.find?, h2, h]
    · rw [if_neg h]
      by_cases h3 : a = j
      · subst h3
        rw [if_neg h]
        simp [look]
      · have h2 : (a == j) = false := by simpa using h3
        have e1 : look ((a, b) :: setI ge i k) j = look (setI ge i k) j := by simp [look, List.find?, h2]
        have e2 : look ((a, b) :: ge) j = look ge j := by simp [look, List.find?, h2]
        rw [e1, e2, ih]

def tkf (l : List Int) : Tok := if l.isEmpty = true then .full else .site 0 44 1
theorem clamp_tkf (lv : Nat) (l : List Int) : clampTok lv (tkf l) = tkf l := by
  unfold tkf; split
  · rfl
  · simp [clampTok]
/-- The frames of Truth's rounds. -/
def TS (d : Desk) (zi : Int) (lo : AObj) (ge : List (Int × Int)) (out tout : List Int) : St :=
  [⟨[.cells [.int .i64 zi], lo], []⟩, ⟨[.cells d.c, .cells d.c, .cells [.sl (rowsI out) (tkf out)], .map (intsE ge), .cells [.mp 0 3]], tks 44 tout⟩]
section
variable {d : Desk} {zi : Int} {lo : AObj} {ge : List (Int × Int)} {out tout : List Int} {fr : List Fr}
theorem TS_len : 2 + fr.length = (fr ++ TS d zi lo ge out tout).length := by simp [TS]; omega
theorem TS_get1 : getObj (fr ++ TS d zi lo ge out tout) 0 1 = some (.cells d.c) := (getObj_over (by simp [TS])).trans rfl
theorem TS_get2 : getObj (fr ++ TS d zi lo ge out tout) 0 2 = some (.cells [.sl (rowsI out) (tkf out)]) := (getObj_over (by simp [TS])).trans rfl
theorem TS_get3 : getObj (fr ++ TS d zi lo ge out tout) 0 3 = some (.map (intsE ge)) := (getObj_over (by simp [TS])).trans rfl
theorem TS_get4 : getObj (fr ++ TS d zi lo ge out tout) 0 4 = some (.cells [.mp 0 3]) := (getObj_over (by simp [TS])).trans rfl
theorem TS_geti : getObj (fr ++ TS d zi lo ge out tout) 1 0 = some (.cells [.int .i64 zi]) := (getObj_over (by simp [TS])).trans rfl
theorem TS_getl : getObj (fr ++ TS d zi lo ge out tout) 1 1 = some lo := (getObj_over (by simp [TS])).trans rfl
theorem TS_set3 {ge' : List (Int × Int)} : setObj (fr ++ TS d zi lo ge out tout) 0 3 (.map (intsE ge')) = fr ++ TS d zi lo ge' out tout := (setObj_over (by simp [TS])).trans (congrArg (fr ++ ·) (by simp [TS, setObj, modFr, setO]))
theorem TS_set2 {out' : List Int} : setObj (fr ++ TS d zi lo ge out tout) 0 2 (.cells [.sl (rowsI out') (tkf out')]) = fr ++ TS d zi lo ge out' tout := (setObj_over (by simp [TS])).trans (congrArg (fr ++ ·) (by simp [TS, setObj, modFr, setO]))
theorem TS_setl {lo' : AObj} : setObj (fr ++ TS d zi lo ge out tout) 1 1 lo' = fr ++ TS d zi lo' ge out tout := (setObj_over (by simp [TS])).trans (congrArg (fr ++ ·) (by simp [TS, setObj, modFr, setO]))
theorem TS_app {f : Fr} (hl : out.length ≤ 1000) (z : Int) : appAt 0 (f :: (fr ++ TS d zi lo ge out out)) 44 1 8 (.sl (rowsI out) (tkf out)) (.sl [[.int .i64 z]] .full) = some (.sl (rowsI (out ++ [z])) (tkf (out ++ [z])), f :: (fr ++ TS d zi lo ge out (out ++ [z]))) := by
  have hlen : 0 < (fr ++ TS d zi lo ge out out).length := by simp [TS]
  have hlen2 : 0 < (TS d zi lo ge out out).length := by simp [TS]
  have hg : getTok (f :: (fr ++ TS d zi lo ge out out)) 0 44 = tokGet (tks 44 out) 44 := by
    rw [getTok_sub hlen, getTok_over hlen2]; rfl
  have hs : ∀ x, setTok (f :: (fr ++ TS d zi lo ge out out)) 0 44 x = f :: (fr ++ [⟨[.cells [.int .i64 zi], lo], []⟩, ⟨[.cells d.c, .cells d.c, .cells [.sl (rowsI out) (tkf out)], .map (intsE ge), .cells [.mp 0 3]], tokSet (tks 44 out) 44 x⟩]) := fun x => by
    rw [setTok_sub hlen, setTok_over hlen2]; rfl
  generalize f :: (fr ++ TS d zi lo ge out out) = s at hg hs ⊢
  cases out with
  | nil =>
    simp only [tks, List.isEmpty_nil, if_true] at hg
    simp [appAt, rowsAt, rowsI, tkf, headFit, purs, pur, hg, hs, tokGet, tks, tokSet, TS]
  | cons a out =>
    have h1 : ((out.length + 1 + 1) * 8 ≤ 140737488355328) := by simp at hl; omega
    simp only [tks, List.isEmpty_cons, Bool.false_eq_true, if_false] at hg
    simp [appAt, rowsAt, rowsI, tkf, headFit, purs, pur, hg, hs, tokGet, tks, tokSet, TS, h1]
end
end Go.Ab.Cl

namespace Go.Ab.Cl
open Go.Ab

def wtk : List Nat → Tok
  | [] => .nil
  | _ :: _ => .any
theorem wtk_pur (l : List Nat) : purTok (wtk l) = true := by cases l <;> rfl
def ftok : Tok → Tok
  | .nil => .nil
  | _ => .full
theorem ftok_or (t : Tok) : ftok t = .nil ∨ ftok t = .full := by cases t <;> simp [ftok]
theorem slice_pur {t : Tok} (l : List Int) : sliceAV 1 (.sl (rowsI l) t) none (some (.int .i64 (.ofNat l.length))) (some (.int .i64 (.ofNat l.length))) = some (.sl (rowsI l) (ftok t)) := by
  have h1 : headFit 1 (rowsI l) = true := by cases l <;> rfl
  have h : (0 : Int) ≤ (l.length : Int) := by omega
  have h3 : (rowsI l).length = l.length := by simp [rowsI]
  have h4 : List.take l.length (rowsI l) = rowsI l := List.take_of_length_le (by omega)
  cases t <;> simp [sliceAV, h1, bound, optBound, h, h3, h4, ftok]
theorem app_up {F : Fr} {os : List AObj} {T : List (Nat × Nat × Nat)} {s : St} {D p : Nat} (hD : D = s.length) {l : List Int} {t : Tok} (ht : t = .nil ∨ t = .full) (z : Int) (hl : l.length ≤ 1000) :
    appAt D (F :: ⟨os, T⟩ :: s) p 1 8 (.sl (rowsI l) t) (.sl [[.int .i64 z]] .full) = some (.sl (rowsI (l ++ [z])) (.site D p ((tokGet T p).1 + 1)), F :: ⟨os, tokSet T p ((tokGet T p).1 + 1, l.length + 1)⟩ :: s) := by
  have h1 : headFit 1 (rowsI l) = true := by cases l <;> rfl
  have h2 : (rowsI l).length = l.length := by simp [rowsI]
  have h3 : (l.length + 1) * 8 ≤ 140737488355328 := by omega
  have h4 : getTok (F :: ⟨os, T⟩ :: s) D p = tokGet T p := by
    rw [getTok_sub (by simp [hD])]
    simp [getTok, getFr, hD]
  have h5 : ∀ x, setTok (F :: ⟨os, T⟩ :: s) D p x = F :: ⟨os, tokSet T p x⟩ :: s := fun x => by
    rw [setTok_sub (by simp [hD])]
    simp [setTok, modFr, hD]
  have h6 : rowsI (l ++ [z]) = rowsI l ++ [[.int .i64 z]] := by simp [rowsI]
  have h7 : headFit 1 [[AV.int .i64 z]] = true := rfl
  rcases ht with rfl | rfl <;> simp [appAt, rowsAt, h1, h2, h3, h4, h5, h6, h7, purs, pur]

/-! ### boxes, of a frame below or none -/
def bflat (bs : List Box) : List AV := (bs.map Box.c).flatten
theorem bflat_len (bs : List Box) : (bflat bs).length = bs.length * 5 := by
  unfold bflat
  rw [flat_len5 (e := 5) _ box_len, List.length_map]
def IsBx (s : St) (v : AV) (bs : List Box) : Prop := (∃ t, purTok t = true ∧ v = .sl (bs.map Box.c) t) ∨ ∃ l i, v = .os l i 0 bs.length 5 ∧ l < s.length ∧ getObj s l i = some (.cells (bflat bs))
theorem IsBx.up {s : St} {v : AV} {bs : List Box} (h : IsBx s v bs) (f : Fr) : IsBx (f :: s) v bs := by
  rcases h with h | ⟨l, i, h1, h2, h3⟩
  · exact .inl h
  · exact .inr ⟨l, i, h1, by simp; omega, (getObj_sub h2).trans h3⟩
theorem rowsAt_bx {s : St} {v : AV} {bs : List Box} (hv : IsBx s v bs) : rowsAt s 5 v = some (bs.map Box.c) := by
  rcases hv with ⟨t, ht, rfl⟩ | ⟨l, i, rfl, h1, h2⟩
  · rfl
  · have h3 : bs.length * 5 ≤ (bflat bs).length := by rw [bflat_len]; exact Nat.le_refl _
    have h4 : purs ((bflat bs).take (bs.length * 5)) = true := by
      rw [List.take_of_length_le (by rw [bflat_len]; omega)]
      exact purs_flatten _ fun r hr => (box_pur r hr).2
    have h5 : rowsOf 5 bs.length (bflat bs) = bs.map Box.c := by
      have := rowsOf_flat (e := 5) (bs.map Box.c) box_len
      rwa [List.length_map] at this
    simp [rowsAt, h2, h3, h4, h5]
theorem appo_bx {s : St} {D : Nat} (hD : D = s.length) {f : Fr} {v : AV} {bs : List Box} (hv : IsBx (f :: s) v bs) (hne : bs ≠ []) (hl : bs.length ≤ 1000) : appoAt (f :: s) 5 48 (.sl [] .nil) v = some (.os D f.objs.length 0 bs.length 5, ⟨f.objs ++ [.cells (bflat bs)], f.toks⟩ :: s) := by
  subst hD
  obtain ⟨os, tk⟩ := f
  have h2 : bs.length * 48 ≤ 140737488355328 := by omega
  have h1 : headFit 5 (bs.map Box.c) = true := by cases bs <;> rfl
  simp [appoAt, rowsAt_bx hv, newObj, h1, h2, hne, show headFit 5 [] = true from rfl, bflat]
theorem bflat_drop {bs : List Box} {k : Nat} {b : Box} (hb : bs[k]? = some b) : (bflat bs).drop (Nat.add (Nat.add 0 (Nat.mul k 5)) 4) = .bool b.stamp :: (bflat bs).drop (k * 5 + 5) := by
  have hk : k < bs.length := (List.getElem?_eq_some_iff.1 hb).1
  have key : ∀ (bs : List Box) (k : Nat) (b : Box), bs[k]? = some b → (bflat bs)[k * 5 + 4]? = some (.bool b.stamp) := by
    intro bs
    induction bs with
    | nil => intro k b h; simp at h
    | cons c bs ih =>
      intro k b h
      have e : bflat (c :: bs) = Box.c c ++ bflat bs := rfl
      cases k with
      | zero =>
        have h : c = b := by simpa using h
        subst h; rfl
      | succ k =>
        have := ih k b (by simpa using h)
        rw [e, List.getElem?_append_right (by show 5 ≤ _; omega), show (k + 1) * 5 + 4 - (Box.c c).length = k * 5 + 4 by show (k + 1) * 5 + 4 - 5 = _; omega]
        exact this
  have h4 := key bs k b hb
  have hlt : k * 5 + 4 < (bflat bs).length := by rw [bflat_len]; omega
  rw [List.getElem?_eq_getElem hlt] at h4
  have e : Nat.add (Nat.add 0 (Nat.mul k 5)) 4 = k * 5 + 4 := by show 0 + k * 5 + 4 = _; omega
  rw [e, List.drop_eq_getElem_cons hlt, Option.some.inj h4]
theorem bflat_put {bs : List Box} {k : Nat} {b : Box} (hb : bs[k]? = some b) (c : Bool) : putAt (bflat bs) (Nat.add (Nat.add 0 (Nat.mul k 5)) 4) [.bool c] = bflat (bs.set k { b with stamp := c }) := by
  have e : Nat.add (Nat.add 0 (Nat.mul k 5)) 4 = k * 5 + 4 := by show 0 + k * 5 + 4 = _; omega
  unfold bflat
  rw [e, put_flat (by omega) _ _ k b.c box_len (by simp [hb]), List.map_set]
  rfl
theorem bflat_room {bs : List Box} {k : Nat} (hk : k < bs.length) : Nat.ble (Nat.add (Nat.add (Nat.add 0 (Nat.mul k 5)) 4) 1) (lenK (bflat bs)) = true := by
  rw [lenK_eq, bflat_len]
  exact Nat.ble_eq_true_of_le (by show 0 + k * 5 + 4 + 1 ≤ _; omega)
theorem uns_set {bs : List Box} {l : List Nat} {k : Nat} {b : Box} (hb : (unsB bs (inL l))[k]? = some b) : (unsB bs (inL l)).set k { b with stamp := false } = unsB bs (inL (l ++ [k])) := by
  refine List.ext_getElem? fun i => ?_
  rw [List.getElem?_set, unsB_get, unsB_get]
  rw [unsB_get] at hb
  by_cases hk : k = i
  · subst hk
    rw [if_pos rfl]
    obtain ⟨b0, h1, rfl⟩ := Option.map_eq_some_iff.1 hb
    have hlt : k < (unsB bs (inL l)).length := by rw [unsB_len]; exact (List.getElem?_eq_some_iff.1 h1).1
    rw [if_pos hlt, h1]
    simp [Box.uns, inL]
  · rw [if_neg hk]
    have : inL (l ++ [k]) i = inL l i := by
      unfold inL
      rw [decide_eq_decide, List.mem_append, List.mem_singleton]
      exact ⟨fun h => h.elim id fun h => absurd h.symm hk, .inl⟩
    rw [this]

def dcB (d : Desk) (v : AV) : List AV := [.int .i64 d.lo, .int .i64 d.hi, .int .i64 d.wear, .int .i64 d.strange, .sl (d.ps.map Parcel.c) d.tp, v]
def chooseFrom (d : Desk) (m j : Nat) (l : List Nat) : Option (List Nat) := (List.range' j (d.bs.length - j)).findSome? fun k => if stampB d k = true then chooseV d m (k + 1) (l ++ [k]) else none
theorem cf_end {d : Desk} {m j : Nat} {l : List Nat} (h : d.bs.length ≤ j) : chooseFrom d m j l = none := by
  unfold chooseFrom
  rw [Nat.sub_eq_zero_of_le h]; rfl
theorem cf_skip {d : Desk} {m j : Nat} {l : List Nat} (h : j < d.bs.length) (hs : stampB d j = false) : chooseFrom d m j l = chooseFrom d m (j + 1) l := by
  unfold chooseFrom
  rw [show d.bs.length - j = (d.bs.length - (j + 1)) + 1 by omega, List.range'_succ, List.findSome?_cons]
  simp [hs]
theorem cf_none {d : Desk} {m j : Nat} {l : List Nat} (h : j < d.bs.length) (hs : stampB d j = true) (hn : chooseV d m (j + 1) (l ++ [j]) = none) : chooseFrom d m j l = chooseFrom d m (j + 1) l := by
  unfold chooseFrom
  rw [show d.bs.length - j = (d.bs.length - (j + 1)) + 1 by omega, List.range'_succ, List.findSome?_cons]
  simp [hs, hn]
theorem cf_some {d : Desk} {m j : Nat} {l x : List Nat} (h : j < d.bs.length) (hs : stampB d j = true) (hn : chooseV d m (j + 1) (l ++ [j]) = some x) : chooseFrom d m j l = some x := by
  unfold chooseFrom
  rw [show d.bs.length - j = (d.bs.length - (j + 1)) + 1 by omega, List.range'_succ, List.findSome?_cons]
  simp [hs, hn]

set_option maxHeartbeats 4000000 in
theorem a78_L1_step {B : Bnd} (hB : B = Bk) {cl : CallK} {rd : RoundK} (d : Desk) (hd : d.ok) (hc : d.check = true) (m : Nat) (l : List Nat) (hlm : l.length + m ≤ 100) {tk : Tok} (htk : purTok tk = true) {zm : Int} (s : St) {D : Nat} (hD : D = s.length) (h0 : 0 < s.length)
    (hS : getObj s 0 1 = some (.cells [.fn 78 [] [.ptr 0 1 0]])) {v : AV} (hv : IsBx s v (unsB d.bs (inL l)))
    (HC : ∀ (k : Nat) (f f' : Fr) (v : AV) (kont : AV → St → Ans) (r : Ans), k < d.bs.length → (∀ x ∈ l, x < k) → IsBx (f :: f' :: s) v (unsB d.bs (inL (l ++ [k]))) →
      (∀ x, chooseV d m (k + 1) (l ++ [k]) = some x → kont (.tup [.sl (rowsI (nats x)) (wtk x), .bool true]) (f :: f' :: s) = r) →
      (chooseV d m (k + 1) (l ++ [k]) = none → ∀ x t, purTok t = true → kont (.tup [.sl (rowsI x) t, .bool false]) (f :: f' :: s) = r) →
      cl (D + 1 + 1) 78 [.agg (dcB d v), .int .i64 ((k : Int) + 1), .int .i64 zm, .sl (rowsI (nats l ++ [(k : Int)])) .any, .ptr 0 1 0] (f :: f' :: s) kont = r)
    (n : Nat) (k : Ex → Env → St → Ans) (r : Ans) :
    ∀ (j i0 : Nat) (T : List (Nat × Nat × Nat)), d.bs.length < i0 + j → i0 ≤ d.bs.length → (∀ x ∈ l, x < i0) →
    (chooseFrom d m i0 l = none → ∀ x T', k (.exit 0) [(2, .int .i64 zm), (3, .sl (rowsI (nats l)) tk), (4, .ptr 0 1 0), (5, .ptr D 0 0), (9, .sl [] .nil), (10, .bool false), (11, .int .i64 x)] (⟨[.cells (dcB d v)], T'⟩ :: s) = r) →
    (∀ x, chooseFrom d m i0 l = some x → ∀ e T', k .ret ((2, .int .i64 zm) :: (3, .sl (rowsI (nats l)) tk) :: (4, .ptr 0 1 0) :: (5, .ptr D 0 0) :: (9, .sl (rowsI (nats x)) (wtk x)) :: (10, .bool true) :: e) (⟨[.cells (dcB d v)], T'⟩ :: s) = r) →
    B.loop (evCK B a78_L1) [2, 3, 4, 5, 9, 10, 11] n j cl rd Gx D (D + 1) [(2, .int .i64 zm), (3, .sl (rowsI (nats l)) tk), (4, .ptr 0 1 0), (5, .ptr D 0 0), (9, .sl [] .nil), (10, .bool false), (11, .int .i64 (.ofNat i0))] (⟨[.cells (dcB d v)], T⟩ :: s) k = r := by
  intro j
  induction j with
  | zero => intro i0 T h1 h2; omega
  | succ j ih =>
    intro i0 T h1 h2 hlt k1 k2
    have hnb := (check_fine hc).nb
    have hl2 : ∀ (g g' : Fr), D + 1 + 1 = (g :: g' :: s : St).length := fun _ _ => by simp [hD]
    have hl0 : ∀ (g : Fr), D < (g :: s : St).length := fun _ => by simp [hD]
    have hl1 : ∀ (g : Fr), D + 1 = (g :: s : St).length := fun _ => by simp [hD]
    refine loop_succ hB ?_
    have hne : unsB d.bs (inL l) ≠ [] ∨ d.bs.length ≤ i0 := by
      by_cases h : i0 < d.bs.length
      · exact .inl fun e => by have := congrArg List.length e; rw [unsB_len] at this; have this : d.bs.length = 0 := this; omega
      · exact .inr (by omega)
    have hbox : ∀ h : i0 < d.bs.length, ∃ b, (unsB d.bs (inL l))[i0]? = some b ∧ stampB d i0 = b.stamp := fun h => by
      refine ⟨d.bs[i0], ?_, ?_⟩
      · rw [unsB_get, List.getElem?_eq_getElem h]
        have : inL l i0 = false := by
          unfold inL
          rw [decide_eq_false_iff_not]
          intro hm
          have := hlt i0 hm
          omega
        rw [this]
        simp [uns_same]
      · unfold stampB
        rw [List.getElem?_eq_getElem h]
    have hub : (unsB d.bs (inL l)).length ≤ 1000 := by rw [unsB_len]; omega
    have hv0 := hv
    rcases hv with ⟨tv, htv, rfl⟩ | ⟨lv, iv, rfl, hlv, hgv⟩
    · conv => lhs; whnf
      repeat' ((first | refine Qw hB ?_ | refine Qv hB htk ?_ | refine Qv hB hd.tp ?_ | refine Qv hB htv ?_ | refine Qf hB ?_ | refine Qz hB (hl2 _ _) ((getObj_sub (hl0 _)).trans ((getObj_top hD).trans rfl)) ?_ | refine Qz hB (hl2 _ _) ((getObj_top (hl1 _)).trans rfl) ?_ | refine QA hB (hl2 _ _) (setTop0 (hl1 _)) ?_ | refine QC hB (m := i0) rfl ?_ | refine fbool_same hB (by omega) ?_ | refine fbool_other hB (by omega) ?_ | refine Qo hB (Nat.ble_eq_true_of_le (by omega)) ?_ | refine Q0 hB rfl ?_ | refine Q1 hB (by decide) ?_ | refine Q2 hB (by decide) ?_ | refine Q3 hB (by decide) ?_ | refine Q4 hB (by decide) ?_ | refine Q5 hB (by decide) ?_ | refine Q6 hB (by decide) ?_ | refine Q7 hB (by omega) (by omega) ?_ | refine Q8 hB ?_ | refine Q9 hB ?_ | refine Qa hB ?_ | refine Qb hB (fun _ => ?_) (fun _ => ?_) | refine Qc hB ?_ | refine Qd hB ?_ | refine Qe hB ?_ | refine Qf hB ?_ | refine Qg hB ?_ | refine Qh hB ?_ | refine Qi hB ?_ | refine Qj hB rfl ?_ | refine Qk hB rfl ?_ | refine Ql hB (by first | omega | decide) ?_ | refine Qm hB rfl ?_ | refine Qn hB ?_ | refine Qo hB rfl ?_ | refine Qo hB (Qp rfl) ?_ | refine Qq hB rfl ?_ | refine Qr hB ?_ | refine Qs hB ?_ | refine Qt hB ?_ | refine Qu hB ?_ | refine Qv hB rfl ?_) <;> conv => lhs; whnf)
      refine lt_nat hB (fun h => ?_) (fun h => ?_) <;> rw [unsB_len] at h <;> conv => lhs; whnf
      · obtain ⟨b, hb, hsb⟩ := hbox h
        have hxb : ((unsB d.bs (inL l)).map Box.c)[i0]? = some b.c := by simp [hb]
        have hne := hne.resolve_right (by omega)
        have hroom : i0 + 1 ≤ (unsB d.bs (inL l)).length := by rw [unsB_len]; exact h
        rcases b with ⟨b1, b2, b3, b4, b5⟩
        cases b5
        · repeat' ((first | refine Qw hB ?_ | refine Qv hB htk ?_ | refine Qv hB hd.tp ?_ | refine Qv hB htv ?_ | refine QB hB hxb ?_ | refine Qf hB ?_ | refine Qo hB (Nat.ble_eq_true_of_le hroom) ?_ | refine Qz hB (hl2 _ _) ((getObj_sub (hl0 _)).trans ((getObj_top hD).trans rfl)) ?_ | refine Qz hB (hl2 _ _) ((getObj_top (hl1 _)).trans rfl) ?_ | refine QA hB (hl2 _ _) (setTop0 (hl1 _)) ?_ | refine QC hB (m := i0) rfl ?_ | refine fbool_same hB (by omega) ?_ | refine fbool_other hB (by omega) ?_ | refine Qo hB (Nat.ble_eq_true_of_le (by omega)) ?_ | refine Q0 hB rfl ?_ | refine Q1 hB (by decide) ?_ | refine Q2 hB (by decide) ?_ | refine Q3 hB (by decide) ?_ | refine Q4 hB (by decide) ?_ | refine Q5 hB (by decide) ?_ | refine Q6 hB (by decide) ?_ | refine Q7 hB (by omega) (by omega) ?_ | refine Q8 hB ?_ | refine Q9 hB ?_ | refine Qa hB ?_ | refine Qb hB (fun _ => ?_) (fun _ => ?_) | refine Qc hB ?_ | refine Qd hB ?_ | refine Qe hB ?_ | refine Qf hB ?_ | refine Qg hB ?_ | refine Qh hB ?_ | refine Qi hB ?_ | refine Qj hB rfl ?_ | refine Qk hB rfl ?_ | refine Ql hB (by first | omega | decide) ?_ | refine Qm hB rfl ?_ | refine Qn hB ?_ | refine Qo hB rfl ?_ | refine Qo hB (Qp rfl) ?_ | refine Qq hB rfl ?_ | refine Qr hB ?_ | refine Qs hB ?_ | refine Qt hB ?_ | refine Qu hB ?_ | refine Qv hB rfl ?_) <;> conv => lhs; whnf)
          rw [cf_skip h hsb] at k1
          simp only [cf_skip h hsb] at k2
          rw [clampTok_pur htk]
          exact ih (i0 + 1) T (by omega) (by omega) (fun x hx => by have := hlt x hx; omega) k1 k2
        · have hz1 : ∀ {g : Fr}, 0 < (g :: s : St).length := fun {_} => by simp
          have hnl : (nats l).length ≤ 1000 := by unfold nats; rw [List.length_map]; omega
          have hlen : AV.os (D + 1) 1 0 (unsB d.bs (inL l)).length 5 = AV.os (D + 1) 1 0 (unsB d.bs (inL (l ++ [i0]))).length 5 := by rw [unsB_len, unsB_len]
          have hlt2 : ∀ (g g' : Fr), D + 1 < (g :: g' :: s : St).length := fun _ _ => by simp [hD]
          repeat' ((first | refine Qw hB ?_ | refine Qv hB htk ?_ | refine Qv hB hd.tp ?_ | refine Qv hB htv ?_ | refine QB hB hxb ?_ | refine Qf hB ?_ | refine Qo hB (Nat.ble_eq_true_of_le hroom) ?_ | refine Qz hB (hl2 _ _) ((getObj_sub (hl0 _)).trans ((getObj_top hD).trans rfl)) ?_ | refine Qz hB (hl2 _ _) ((getObj_top (hl1 _)).trans rfl) ?_ | refine QA hB (hl2 _ _) (setTop0 (hl1 _)) ?_ | refine QC hB (m := i0) rfl ?_ | refine fbool_same hB (by omega) ?_ | refine fbool_other hB (by omega) ?_ | refine Qo hB (Nat.ble_eq_true_of_le (by omega)) ?_ | refine appo_step hB (appo_bx (hl1 _) ((hv0.up _).up _) hne hub) ?_ | refine Qo hB (bflat_room hroom) ?_ | refine Qk hB ((bflat_put hb false).trans (congrArg bflat (uns_set hb))) ?_ | refine QA hB (hl2 _ _) (setTop1 (hl1 _)) ?_ | refine Qz hB (hl2 _ _) ((getObj_sub hz1).trans ((getObj_sub h0).trans hS)) ?_ | refine add_step hB (by simp only [Int.ofNat_eq_natCast]; omega) (by simp only [Int.ofNat_eq_natCast]; omega) ?_ | refine Qm hB (slice_pur (nats l)) ?_ | refine Qq hB (app_up hD (ftok_or tk) (i0 : Int) hnl) ?_ | refine fst_step hB rfl ?_ | refine Qv hB (wtk_pur _) ?_ | refine tokE_step hB ?_ | refine HC i0 _ _ _ _ _ h hlt (.inr ⟨D + 1, 1, hlen, hlt2 _ _, (getObj_top (hl1 _)).trans rfl⟩) (fun x e => ?_) (fun e x t ht => ?_) | refine Q0 hB rfl ?_ | refine Q1 hB (by decide) ?_ | refine Q2 hB (by decide) ?_ | refine Q3 hB (by decide) ?_ | refine Q4 hB (by decide) ?_ | refine Q5 hB (by decide) ?_ | refine Q6 hB (by decide) ?_ | refine Q7 hB (by omega) (by omega) ?_ | refine Q8 hB ?_ | refine Q9 hB ?_ | refine Qa hB ?_ | refine Qb hB (fun _ => ?_) (fun _ => ?_) | refine Qc hB ?_ | refine Qd hB ?_ | refine Qe hB ?_ | refine Qf hB ?_ | refine Qg hB ?_ | refine Qh hB ?_ | refine Qi hB ?_ | refine Qj hB rfl ?_ | refine Qk hB rfl ?_ | refine Ql hB (by first | omega | decide) ?_ | refine Qm hB rfl ?_ | refine Qn hB ?_ | refine Qo hB rfl ?_ | refine Qo hB (Qp rfl) ?_ | refine Qq hB rfl ?_ | refine Qr hB ?_ | refine Qs hB ?_ | refine Qt hB ?_ | refine Qu hB ?_ | refine Qv hB rfl ?_) <;> conv => lhs; whnf)
          · rw [clampTok_pur htk, clampTok_pur (wtk_pur x)]
            exact k2 x (cf_some h hsb e) _ _
          · rw [cf_none h hsb e] at k1
            simp only [cf_none h hsb e] at k2
            rw [clampTok_pur htk]
            exact ih (i0 + 1) _ (by omega) (by omega) (fun x hx => by have := hlt x hx; omega) k1 k2
      · repeat' ((first | refine Qw hB ?_ | refine Qv hB htk ?_ | refine Qv hB hd.tp ?_ | refine Qv hB htv ?_ | refine Qf hB ?_ | refine Qz hB (hl2 _ _) ((getObj_sub (hl0 _)).trans ((getObj_top hD).trans rfl)) ?_ | refine Qz hB (hl2 _ _) ((getObj_top (hl1 _)).trans rfl) ?_ | refine QA hB (hl2 _ _) (setTop0 (hl1 _)) ?_ | refine QC hB (m := i0) rfl ?_ | refine fbool_same hB (by omega) ?_ | refine fbool_other hB (by omega) ?_ | refine Qo hB (Nat.ble_eq_true_of_le (by omega)) ?_ | refine Q0 hB rfl ?_ | refine Q1 hB (by decide) ?_ | refine Q2 hB (by decide) ?_ | refine Q3 hB (by decide) ?_ | refine Q4 hB (by decide) ?_ | refine Q5 hB (by decide) ?_ | refine Q6 hB (by decide) ?_ | refine Q7 hB (by omega) (by omega) ?_ | refine Q8 hB ?_ | refine Q9 hB ?_ | refine Qa hB ?_ | refine Qb hB (fun _ => ?_) (fun _ => ?_) | refine Qc hB ?_ | refine Qd hB ?_ | refine Qe hB ?_ | refine Qf hB ?_ | refine Qg hB ?_ | refine Qh hB ?_ | refine Qi hB ?_ | refine Qj hB rfl ?_ | refine Qk hB rfl ?_ | refine Ql hB (by first | omega | decide) ?_ | refine Qm hB rfl ?_ | refine Qn hB ?_ | refine Qo hB rfl ?_ | refine Qo hB (Qp rfl) ?_ | refine Qq hB rfl ?_ | refine Qr hB ?_ | refine Qs hB ?_ | refine Qt hB ?_ | refine Qu hB ?_ | refine Qv hB rfl ?_) <;> conv => lhs; whnf)
        rw [clampTok_pur htk]
        exact k1 (cf_end (by omega)) _ _
    · have hlv1 : ∀ (g : Fr), lv < (g :: s : St).length := fun _ => by simp; omega
      conv => lhs; whnf
      repeat' ((first | refine Qw hB ?_ | refine Qv hB htk ?_ | refine Qv hB hd.tp ?_ | refine Qn hB ?_ | refine Qz hB (hl2 _ _) ((getObj_sub (hl0 _)).trans ((getObj_top hD).trans rfl)) ?_ | refine Qz hB (hl2 _ _) ((getObj_top (hl1 _)).trans rfl) ?_ | refine QA hB (hl2 _ _) (setTop0 (hl1 _)) ?_ | refine QC hB (m := i0) rfl ?_ | refine fbool_same hB (by omega) ?_ | refine fbool_other hB (by omega) ?_ | refine Qo hB (Nat.ble_eq_true_of_le (by omega)) ?_ | refine Q0 hB rfl ?_ | refine Q1 hB (by decide) ?_ | refine Q2 hB (by decide) ?_ | refine Q3 hB (by decide) ?_ | refine Q4 hB (by decide) ?_ | refine Q5 hB (by decide) ?_ | refine Q6 hB (by decide) ?_ | refine Q7 hB (by omega) (by omega) ?_ | refine Q8 hB ?_ | refine Q9 hB ?_ | refine Qa hB ?_ | refine Qb hB (fun _ => ?_) (fun _ => ?_) | refine Qc hB ?_ | refine Qd hB ?_ | refine Qe hB ?_ | refine Qf hB ?_ | refine Qg hB ?_ | refine Qh hB ?_ | refine Qi hB ?_ | refine Qj hB rfl ?_ | refine Qk hB rfl ?_ | refine Ql hB (by first | omega | decide) ?_ | refine Qm hB rfl ?_ | refine Qn hB ?_ | refine Qo hB rfl ?_ | refine Qo hB (Qp rfl) ?_ | refine Qq hB rfl ?_ | refine Qr hB ?_ | refine Qs hB ?_ | refine Qt hB ?_ | refine Qu hB ?_ | refine Qv hB rfl ?_) <;> conv => lhs; whnf)
      refine lt_nat hB (fun h => ?_) (fun h => ?_) <;> rw [unsB_len] at h <;> conv => lhs; whnf
      · obtain ⟨b, hb, hsb⟩ := hbox h
        have hxb : ((unsB d.bs (inL l)).map Box.c)[i0]? = some b.c := by simp [hb]
        have hne := hne.resolve_right (by omega)
        have hroom : i0 + 1 ≤ (unsB d.bs (inL l)).length := by rw [unsB_len]; exact h
        rcases b with ⟨b1, b2, b3, b4, b5⟩
        cases b5
        · repeat' ((first | refine Qw hB ?_ | refine Qv hB htk ?_ | refine Qv hB hd.tp ?_ | refine Qz hB (hl2 _ _) ((getObj_sub (hlv1 _)).trans ((getObj_sub hlv).trans hgv)) ?_ | refine Qj hB (bflat_drop hb) ?_ | refine Qo hB (Nat.ble_eq_true_of_le hroom) ?_ | refine Qz hB (hl2 _ _) ((getObj_sub (hl0 _)).trans ((getObj_top hD).trans rfl)) ?_ | refine Qz hB (hl2 _ _) ((getObj_top (hl1 _)).trans rfl) ?_ | refine QA hB (hl2 _ _) (setTop0 (hl1 _)) ?_ | refine QC hB (m := i0) rfl ?_ | refine fbool_same hB (by omega) ?_ | refine fbool_other hB (by omega) ?_ | refine Qo hB (Nat.ble_eq_true_of_le (by omega)) ?_ | refine Q0 hB rfl ?_ | refine Q1 hB (by decide) ?_ | refine Q2 hB (by decide) ?_ | refine Q3 hB (by decide) ?_ | refine Q4 hB (by decide) ?_ | refine Q5 hB (by decide) ?_ | refine Q6 hB (by decide) ?_ | refine Q7 hB (by omega) (by omega) ?_ | refine Q8 hB ?_ | refine Q9 hB ?_ | refine Qa hB ?_ | refine Qb hB (fun _ => ?_) (fun _ => ?_) | refine Qc hB ?_ | refine Qd hB ?_ | refine Qe hB ?_ | refine Qf hB ?_ | refine Qg hB ?_ | refine Qh hB ?_ | refine Qi hB ?_ | refine Qj hB rfl ?_ | refine Qk hB rfl ?_ | refine Ql hB (by first | omega | decide) ?_ | refine Qm hB rfl ?_ | refine Qn hB ?_ | refine Qo hB rfl ?_ | refine Qo hB (Qp rfl) ?_ | refine Qq hB rfl ?_ | refine Qr hB ?_ | refine Qs hB ?_ | refine Qt hB ?_ | refine Qu hB ?_ | refine Qv hB rfl ?_) <;> conv => lhs; whnf)
          rw [cf_skip h hsb] at k1
          simp only [cf_skip h hsb] at k2
          rw [clampTok_pur htk]
          exact ih (i0 + 1) T (by omega) (by omega) (fun x hx => by have := hlt x hx; omega) k1 k2
        · have hz1 : ∀ {g : Fr}, 0 < (g :: s : St).length := fun {_} => by simp
          have hnl : (nats l).length ≤ 1000 := by unfold nats; rw [List.length_map]; omega
          have hlen : AV.os (D + 1) 1 0 (unsB d.bs (inL l)).length 5 = AV.os (D + 1) 1 0 (unsB d.bs (inL (l ++ [i0]))).length 5 := by rw [unsB_len, unsB_len]
          have hlt2 : ∀ (g g' : Fr), D + 1 < (g :: g' :: s : St).length := fun _ _ => by simp [hD]
          repeat' ((first | refine Qw hB ?_ | refine Qv hB htk ?_ | refine Qv hB hd.tp ?_ | refine Qz hB (hl2 _ _) ((getObj_sub (hlv1 _)).trans ((getObj_sub hlv).trans hgv)) ?_ | refine Qj hB (bflat_drop hb) ?_ | refine Qo hB (Nat.ble_eq_true_of_le hroom) ?_ | refine Qz hB (hl2 _ _) ((getObj_sub (hl0 _)).trans ((getObj_top hD).trans rfl)) ?_ | refine Qz hB (hl2 _ _) ((getObj_top (hl1 _)).trans rfl) ?_ | refine QA hB (hl2 _ _) (setTop0 (hl1 _)) ?_ | refine QC hB (m := i0) rfl ?_ | refine fbool_same hB (by omega) ?_ | refine fbool_other hB (by omega) ?_ | refine Qo hB (Nat.ble_eq_true_of_le (by omega)) ?_ | refine appo_step hB (appo_bx (hl1 _) ((hv0.up _).up _) hne hub) ?_ | refine Qo hB (bflat_room hroom) ?_ | refine Qk hB ((bflat_put hb false).trans (congrArg bflat (uns_set hb))) ?_ | refine QA hB (hl2 _ _) (setTop1 (hl1 _)) ?_ | refine Qz hB (hl2 _ _) ((getObj_sub hz1).trans ((getObj_sub h0).trans hS)) ?_ | refine add_step hB (by simp only [Int.ofNat_eq_natCast]; omega) (by simp only [Int.ofNat_eq_natCast]; omega) ?_ | refine Qm hB (slice_pur (nats l)) ?_ | refine Qq hB (app_up hD (ftok_or tk) (i0 : Int) hnl) ?_ | refine fst_step hB rfl ?_ | refine Qv hB (wtk_pur _) ?_ | refine tokE_step hB ?_ | refine HC i0 _ _ _ _ _ h hlt (.inr ⟨D + 1, 1, hlen, hlt2 _ _, (getObj_top (hl1 _)).trans rfl⟩) (fun x e => ?_) (fun e x t ht => ?_) | refine Q0 hB rfl ?_ | refine Q1 hB (by decide) ?_ | refine Q2 hB (by decide) ?_ | refine Q3 hB (by decide) ?_ | refine Q4 hB (by decide) ?_ | refine Q5 hB (by decide) ?_ | refine Q6 hB (by decide) ?_ | refine Q7 hB (by omega) (by omega) ?_ | refine Q8 hB ?_ | refine Q9 hB ?_ | refine Qa hB ?_ | refine Qb hB (fun _ => ?_) (fun _ => ?_) | refine Qc hB ?_ | refine Qd hB ?_ | refine Qe hB ?_ | refine Qf hB ?_ | refine Qg hB ?_ | refine Qh hB ?_ | refine Qi hB ?_ | refine Qj hB rfl ?_ | refine Qk hB rfl ?_ | refine Ql hB (by first | omega | decide) ?_ | refine Qm hB rfl ?_ | refine Qn hB ?_ | refine Qo hB rfl ?_ | refine Qo hB (Qp rfl) ?_ | refine Qq hB rfl ?_ | refine Qr hB ?_ | refine Qs hB ?_ | refine Qt hB ?_ | refine Qu hB ?_ | refine Qv hB rfl ?_) <;> conv => lhs; whnf)
          · rw [clampTok_pur htk, clampTok_pur (wtk_pur x)]
            exact k2 x (cf_some h hsb e) _ _
          · rw [cf_none h hsb e] at k1
            simp only [cf_none h hsb e] at k2
            rw [clampTok_pur htk]
            exact ih (i0 + 1) _ (by omega) (by omega) (fun x hx => by have := hlt x hx; omega) k1 k2
      · repeat' ((first | refine Qw hB ?_ | refine Qv hB htk ?_ | refine Qv hB hd.tp ?_ | refine Qn hB ?_ | refine Qz hB (hl2 _ _) ((getObj_sub (hl0 _)).trans ((getObj_top hD).trans rfl)) ?_ | refine Qz hB (hl2 _ _) ((getObj_top (hl1 _)).trans rfl) ?_ | refine QA hB (hl2 _ _) (setTop0 (hl1 _)) ?_ | refine QC hB (m := i0) rfl ?_ | refine fbool_same hB (by omega) ?_ | refine fbool_other hB (by omega) ?_ | refine Qo hB (Nat.ble_eq_true_of_le (by omega)) ?_ | refine Q0 hB rfl ?_ | refine Q1 hB (by decide) ?_ | refine Q2 hB (by decide) ?_ | refine Q3 hB (by decide) ?_ | refine Q4 hB (by decide) ?_ | refine Q5 hB (by decide) ?_ | refine Q6 hB (by decide) ?_ | refine Q7 hB (by omega) (by omega) ?_ | refine Q8 hB ?_ | refine Q9 hB ?_ | refine Qa hB ?_ | refine Qb hB (fun _ => ?_) (fun _ => ?_) | refine Qc hB ?_ | refine Qd hB ?_ | refine Qe hB ?_ | refine Qf hB ?_ | refine Qg hB ?_ | refine Qh hB ?_ | refine Qi hB ?_ | refine Qj hB rfl ?_ | refine Qk hB rfl ?_ | refine Ql hB (by first | omega | decide) ?_ | refine Qm hB rfl ?_ | refine Qn hB ?_ | refine Qo hB rfl ?_ | refine Qo hB (Qp rfl) ?_ | refine Qq hB rfl ?_ | refine Qr hB ?_ | refine Qs hB ?_ | refine Qt hB ?_ | refine Qu hB ?_ | refine Qv hB rfl ?_) <;> conv => lhs; whnf)
        rw [clampTok_pur htk]
        exact k1 (cf_end (by omega)) _ _
end Go.Ab.Cl
