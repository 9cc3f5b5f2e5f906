/-
  The claims: Climbs.
-/
import Derived.Test.YthbekoofiienjaaDoorClTa
import Derived.Test.YthbekoofiienjaaDoorClKc
import Derived.Test.YthbekoofiienjaaDoorClZ
namespace Go.Ab.Cl
open Go.Ab

def climbsZ : Int → List Int → Int → Bool
  | _, [], _ => true
  | b, x :: l, P => decide (b < x) && decide (x < P) && climbsZ x l P
theorem a37_L1_step {B : Bnd} (hB : B = Bk) {cl : CallK} {rd : RoundK} (l : List Int) (hl : l.length ≤ 1000000000000000) (P : Int) {t : Tok} (ht : purTok t = true) (n : Nat) (k : Ex → Env → St → Ans) (r : Ans) :
    ∀ (j i : Nat) (b : Int), l.length < i + j → i ≤ l.length →
    (climbsZ b (l.drop i) P = true → ∀ e, k (.exit 0) e [⟨[], []⟩] = r) →
    (climbsZ b (l.drop i) P = false → ∀ x y e, k .ret ((0, x) :: (1, y) :: (4, .bool false) :: e) [⟨[], []⟩] = r) →
    B.loop (evCK B a37_L1) [0, 1, 4, 5, 6] n j cl rd Gx 0 1 [(0, .sl (rowsI l) t), (1, .int .i64 P), (4, .bool false), (5, .int .i64 b), (6, .int .i64 (.ofNat i))] [⟨[], []⟩] k = r := by
  intro j
  induction j with
  | zero => intro i b h1 h2; omega
  | succ j ih =>
    intro i b h1 h2 k1 k2
    refine loop_succ hB ?_
    conv => lhs; whnf
    (repeat' ((first | refine Qn hB ?_ | refine Qr hB ?_ | refine Qj hB rfl ?_ | refine Qf hB ?_) <;> conv => lhs; whnf))
    refine lt_nat hB (fun h => ?_) (fun h => ?_) <;> conv => lhs; whnf
    · have hx := row_get h
      have hdl : l.drop i = l[i] :: l.drop (i + 1) := List.drop_eq_getElem_cons h
      rw [hdl] at k1 k2
      generalize l[i] = x at hx k1 k2
      have e : climbsZ b (x :: l.drop (i + 1)) P = (decide (b < x) && decide (x < P) && climbsZ x (l.drop (i + 1)) P) := rfl
      rw [e] at k1 k2
      by_cases h3 : x ≤ b
      · rw [decide_eq_false (by omega)] at k2
        repeat' ((first | refine Qw hB ?_ | refine Qv hB ht ?_ | refine QC hB (m := i) rfl ?_ | refine QB hB hx ?_ | refine Q3 hB h3 ?_ | refine Q0 hB rfl ?_ | refine Q1 hB (by decide) ?_ | refine Q2 hB (by decide) ?_ | refine Q3 hB (by decide) ?_ | refine Q4 hB (by decide) ?_ | refine Q5 hB (by decide) ?_ | refine Q6 hB (by decide) ?_ | refine Q7 hB (by omega) (by omega) ?_ | refine Q8 hB ?_ | refine Q9 hB ?_ | refine Qa hB ?_ | refine Qb hB (fun _ => ?_) (fun _ => ?_) | refine Qc hB ?_ | refine Qd hB ?_ | refine Qe hB ?_ | refine Qf hB ?_ | refine Qg hB ?_ | refine Qh hB ?_ | refine Qi hB ?_ | refine Qj hB rfl ?_ | refine Qk hB rfl ?_ | refine Ql hB (by first | omega | decide) ?_ | refine Qm hB rfl ?_ | refine Qn hB ?_ | refine Qo hB rfl ?_ | refine Qo hB (Qp rfl) ?_ | refine Qq hB rfl ?_ | refine Qr hB ?_ | refine Qs hB ?_ | refine Qt hB ?_ | refine Qu hB ?_ | refine Qv hB rfl ?_) <;> conv => lhs; whnf)
        exact k2 rfl _ _ _
      · by_cases h4 : P ≤ x
        · rw [decide_eq_false (p := x < P) (by omega), Bool.and_false] at k2
          repeat' ((first | refine Qw hB ?_ | refine Qv hB ht ?_ | refine QC hB (m := i) rfl ?_ | refine QB hB hx ?_ | refine Q4 hB h3 ?_ | refine Q3 hB h4 ?_ | refine Q0 hB rfl ?_ | refine Q1 hB (by decide) ?_ | refine Q2 hB (by decide) ?_ | refine Q3 hB (by decide) ?_ | refine Q4 hB (by decide) ?_ | refine Q5 hB (by decide) ?_ | refine Q6 hB (by decide) ?_ | refine Q7 hB (by omega) (by omega) ?_ | refine Q8 hB ?_ | refine Q9 hB ?_ | refine Qa hB ?_ | refine Qb hB (fun _ => ?_) (fun _ => ?_) | refine Qc hB ?_ | refine Qd hB ?_ | refine Qe hB ?_ | refine Qf hB ?_ | refine Qg hB ?_ | refine Qh hB ?_ | refine Qi hB ?_ | refine Qj hB rfl ?_ | refine Qk hB rfl ?_ | refine Ql hB (by first | omega | decide) ?_ | refine Qm hB rfl ?_ | refine Qn hB ?_ | refine Qo hB rfl ?_ | refine Qo hB (Qp rfl) ?_ | refine Qq hB rfl ?_ | refine Qr hB ?_ | refine Qs hB ?_ | refine Qt hB ?_ | refine Qu hB ?_ | refine Qv hB rfl ?_) <;> conv => lhs; whnf)
          exact k2 rfl _ _ _
        · rw [decide_eq_true (p := b < x) (by omega), decide_eq_true (p := x < P) (by omega)] at k1 k2
          repeat' ((first | refine Qw hB ?_ | refine Qv hB ht ?_ | refine QC hB (m := i) rfl ?_ | refine QB hB hx ?_ | refine Q4 hB h3 ?_ | refine Q4 hB h4 ?_ | refine Q0 hB rfl ?_ | refine Q1 hB (by decide) ?_ | refine Q2 hB (by decide) ?_ | refine Q3 hB (by decide) ?_ | refine Q4 hB (by decide) ?_ | refine Q5 hB (by decide) ?_ | refine Q6 hB (by decide) ?_ | refine Q7 hB (by omega) (by omega) ?_ | refine Q8 hB ?_ | refine Q9 hB ?_ | refine Qa hB ?_ | refine Qb hB (fun _ => ?_) (fun _ => ?_) | refine Qc hB ?_ | refine Qd hB ?_ | refine Qe hB ?_ | refine Qf hB ?_ | refine Qg hB ?_ | refine Qh hB ?_ | refine Qi hB ?_ | refine Qj hB rfl ?_ | refine Qk hB rfl ?_ | refine Ql hB (by first | omega | decide) ?_ | refine Qm hB rfl ?_ | refine Qn hB ?_ | refine Qo hB rfl ?_ | refine Qo hB (Qp rfl) ?_ | refine Qq hB rfl ?_ | refine Qr hB ?_ | refine Qs hB ?_ | refine Qt hB ?_ | refine Qu hB ?_ | refine Qv hB rfl ?_) <;> conv => lhs; whnf)
          rw [clampTok_pur ht]
          exact ih (i + 1) x (by omega) (by omega) k1 k2
    · repeat' ((first | refine Qw hB ?_ | refine Qv hB ht ?_ | refine Q0 hB rfl ?_ | refine Q1 hB (by decide) ?_ | refine Q2 hB (by decide) ?_ | refine Q3 hB (by decide) ?_ | refine Q4 hB (by decide) ?_ | refine Q5 hB (by decide) ?_ | refine Q6 hB (by decide) ?_ | refine Q7 hB (by omega) (by omega) ?_ | refine Q8 hB ?_ | refine Q9 hB ?_ | refine Qa hB ?_ | refine Qb hB (fun _ => ?_) (fun _ => ?_) | refine Qc hB ?_ | refine Qd hB ?_ | refine Qe hB ?_ | refine Qf hB ?_ | refine Qg hB ?_ | refine Qh hB ?_ | refine Qi hB ?_ | refine Qj hB rfl ?_ | refine Qk hB rfl ?_ | refine Ql hB (by first | omega | decide) ?_ | refine Qm hB rfl ?_ | refine Qn hB ?_ | refine Qo hB rfl ?_ | refine Qo hB (Qp rfl) ?_ | refine Qq hB rfl ?_ | refine Qr hB ?_ | refine Qs hB ?_ | refine Qt hB ?_ | refine Qu hB ?_ | refine Qv hB rfl ?_) <;> conv => lhs; whnf)
      rw [List.drop_of_length_le (by omega)] at k1
      exact k1 rfl _
theorem Climbs_ev {n : Nat} (hn : 1000000000000002 ≤ n) (l : List Int) (hl : l.length ≤ 1000000000000000) (P : Int) {t : Tok} (ht : purTok t = true) :
    (evKR Bk Gx fsT n).1 0 37 [.sl (rowsI l) t, .int .i64 P] [] ansK = some (.bool (climbsZ (-1) l P), []) := by
  refine call_open (show fsT.find 37 = some a37 from rfl) (by omega) fun n' B cl rd hn' hB hcl hrd => ?_
  conv => lhs; whnf
  repeat' ((first | refine Qw hB ?_ | refine Qv hB ht ?_ | refine a37_L1_step hB l hl P (purTok_clamp ht) _ _ _ _ 0 (-1) (by omega) (by omega) (fun e en => ?_) (fun e x y en => ?_) | refine Q0 hB rfl ?_ | refine Q1 hB (by decide) ?_ | refine Q2 hB (by decide) ?_ | refine Q3 hB (by decide) ?_ | refine Q4 hB (by decide) ?_ | refine Q5 hB (by decide) ?_ | refine Q6 hB (by decide) ?_ | refine Q7 hB (by omega) (by omega) ?_ | refine Q8 hB ?_ | refine Q9 hB ?_ | refine Qa hB ?_ | refine Qb hB (fun _ => ?_) (fun _ => ?_) | refine Qc hB ?_ | refine Qd hB ?_ | refine Qe hB ?_ | refine Qf hB ?_ | refine Qg hB ?_ | refine Qh hB ?_ | refine Qi hB ?_ | refine Qj hB rfl ?_ | refine Qk hB rfl ?_ | refine Ql hB (by first | omega | decide) ?_ | refine Qm hB rfl ?_ | refine Qn hB ?_ | refine Qo hB rfl ?_ | refine Qo hB (Qp rfl) ?_ | refine Qq hB rfl ?_ | refine Qr hB ?_ | refine Qs hB ?_ | refine Qt hB ?_ | refine Qu hB ?_ | refine Qv hB rfl ?_) <;> conv => lhs; whnf)
  · rw [List.drop_zero] at e
    rw [e]
  · rw [List.drop_zero] at e
    rw [e]
end Go.Ab.Cl

namespace Go.Ab.Cl
open Go.Ab

def ofN (t n : Nat) : List Nat := (List.range' 0 n).filter fun k => t.testBit k
def betterO (l : List Nat) : Option (List Nat) → Bool
  | none => true
  | some x => lessL l x
def goodS (d : Desk) (t : Nat) : Bool := (ofN t d.bs.length).all (stampB d) && tW d fun i => t.testBit i
def refStep (d : Desk) (b : Option (List Nat)) (t : Nat) : Option (List Nat) := if (goodS d t && betterO (ofN t d.bs.length) b) = true then some (ofN t d.bs.length) else b
def refW (d : Desk) : Option (List Nat) := (List.range' 0 (2 ^ d.bs.length)).foldl (refStep d) none

theorem asc_filter {d : Desk} {f : Nat → Bool} (hs : ∀ k, k < d.bs.length → f k = true → stampB d k = true) : ∀ (c j : Nat), j + c = d.bs.length → Asc d j ((List.range' j c).filter f)
  | 0, _, _ => trivial
  | c + 1, j, h => by
    have ih := asc_filter hs c (j + 1) (by omega)
    rw [List.range'_succ]
    by_cases hf : f j = true
    · rw [List.filter_cons_of_pos hf]
      exact ⟨Nat.le_refl _, by omega, hs j (by omega) hf, ih⟩
    · rw [List.filter_cons_of_neg hf]
      exact ih.weaken (by omega)
theorem mem_ofN {t n k : Nat} : k ∈ ofN t n ↔ k < n ∧ t.testBit k = true := by
  unfold ofN
  simp only [List.mem_filter, List.mem_range']
  constructor
  · rintro ⟨⟨m, h1, rfl⟩, h2⟩; exact ⟨by omega, h2⟩
  · rintro ⟨h1, h2⟩; exact ⟨⟨k, h1, by omega⟩, h2⟩
theorem good_cand {d : Desk} {t : Nat} (h : goodS d t = true) : Cand d (ofN t d.bs.length) := by
  unfold goodS at h
  rw [Bool.and_eq_true, List.all_eq_true] at h
  refine ⟨asc_filter (fun k hk hf => h.1 k (mem_ofN.2 ⟨hk, hf⟩)) _ 0 (by omega), ?_⟩
  rw [← h.2]
  refine tW_congr fun i hi => ?_
  unfold inL
  rw [Bool.eq_iff_iff, decide_eq_true_eq, mem_ofN]
  exact ⟨fun h => h.2, fun h => ⟨hi, h⟩⟩
theorem filter_asc {d : Desk} : ∀ (c j : Nat) {l : List Nat}, j + c = d.bs.length → Asc d j l → (List.range' j c).filter (fun k => decide (k ∈ l)) = l
  | 0, j, l, h, ha => by
    cases l with
    | nil => rfl
    | cons k l => have := ha.1; have := ha.2.1; omega
  | c + 1, j, l, h, ha => by
    rw [List.range'_succ]
    by_cases hj : j ∈ l
    · cases l with
      | nil => cases hj
      | cons k l =>
        obtain ⟨a1, a2, a3, a4⟩ := ha
        have hk : k = j := by
          rcases List.mem_cons.1 hj with h | h
          · exact h.symm
          · have := (Asc.mem a4 j h).1; omega
        subst hk
        rw [List.filter_cons_of_pos (by simp)]
        congr 1
        rw [← filter_asc c (k + 1) (by omega) a4]
        refine List.filter_congr fun x hx => ?_
        simp only [List.mem_range'] at hx
        obtain ⟨m, h1, rfl⟩ := hx
        rw [filter_asc c (k + 1) (by omega) a4, decide_eq_decide, List.mem_cons]
        constructor
        · rintro (h | h)
          · omega
          · exact h
        · exact .inr
    · rw [List.filter_cons_of_neg (by simpa using hj)]
      refine filter_asc (d := d) c (j + 1) (by omega) ?_
      cases l with
      | nil => trivial
      | cons k l =>
        obtain ⟨a1, a2⟩ := ha
        refine ⟨?_, a2⟩
        have : k ≠ j := fun e => hj (by rw [e]; exact List.mem_cons_self ..)
        omega
/-- The set of a list. -/
def setOf (l : List Nat) : Nat := l.foldl (fun t k => t ||| 1 <<< k) 0
theorem setOf_from (l : List Nat) : ∀ (t n : Nat), (l.foldl (fun t k => t ||| 1 <<< k) t).testBit n = (t.testBit n || decide (n ∈ l)) := by
  induction l with
  | nil => intro t n; simp
  | cons k l ih =>
    intro t n
    rw [List.foldl_cons, ih, bit_or, Bool.or_assoc]
    congr 1
    rw [Bool.eq_iff_iff]
    simp
theorem setOf_bit (l : List Nat) (n : Nat) : (setOf l).testBit n = decide (n ∈ l) := by
  unfold setOf
  rw [setOf_from]; simp
theorem cand_good {d : Desk} {l : List Nat} (h : Cand d l) : ∃ t, t < 2 ^ d.bs.length ∧ ofN t d.bs.length = l ∧ goodS d t = true := by
  have hof : ofN (setOf l) d.bs.length = l := by
    have := filter_asc (d := d) d.bs.length 0 (by omega) h.1
    unfold ofN
    simp only [setOf_bit]
    exact this
  refine ⟨setOf l, Nat.lt_pow_two_of_testBit _ fun i hi => ?_, hof, ?_⟩
  · rw [setOf_bit, decide_eq_false_iff_not]
    intro hm
    have := (h.1.mem i hm).2.1
    omega
  · unfold goodS
    rw [Bool.and_eq_true, List.all_eq_true, hof]
    refine ⟨fun x hx => (h.1.mem x hx).2.2, ?_⟩
    rw [← h.2]
    exact tW_congr fun i _ => setOf_bit l i

theorem ref_least (d : Desk) : Least d (refW d) := by
  have key : ∀ (ts : List Nat) (b : Option (List Nat)) (S : List Nat → Prop), ((b = none ∧ ∀ l, ¬ S l) ∨ ∃ l, b = some l ∧ S l ∧ ∀ l', S l' → l = l' ∨ lessL l l' = true) →
      (ts.foldl (refStep d) b = none ∧ ∀ l, ¬ (S l ∨ ∃ t, t ∈ ts ∧ goodS d t = true ∧ ofN t d.bs.length = l)) ∨ ∃ l, ts.foldl (refStep d) b = some l ∧ (S l ∨ ∃ t, t ∈ ts ∧ goodS d t = true ∧ ofN t d.bs.length = l) ∧ ∀ l', (S l' ∨ ∃ t, t ∈ ts ∧ goodS d t = true ∧ ofN t d.bs.length = l') → l = l' ∨ lessL l l' = true := by
    intro ts
    induction ts with
    | nil =>
      intro b S h
      simpa using h
    | cons t ts ih =>
      intro b S h
      have hstep : (refStep d b t = none ∧ ∀ l, ¬ (S l ∨ (goodS d t = true ∧ ofN t d.bs.length = l))) ∨ ∃ l, refStep d b t = some l ∧ (S l ∨ (goodS d t = true ∧ ofN t d.bs.length = l)) ∧ ∀ l', (S l' ∨ (goodS d t = true ∧ ofN t d.bs.length = l')) → l = l' ∨ lessL l l' = true := by
        unfold refStep
        by_cases hg : goodS d t = true
        · rcases h with ⟨rfl, h⟩ | ⟨x, rfl, h1, h2⟩
          · simp only [hg, betterO, Bool.and_true, if_true]
            exact .inr ⟨_, rfl, .inr ⟨trivial, rfl⟩, fun l' hl => hl.elim (fun h' => absurd h' (h l')) fun h' => .inl h'.2⟩
          · simp only [hg, betterO, Bool.true_and]
            by_cases hl : lessL (ofN t d.bs.length) x = true
            · rw [if_pos hl]
              refine .inr ⟨_, rfl, .inr ⟨trivial, rfl⟩, fun l' h' => ?_⟩
              rcases h' with h' | ⟨_, rfl⟩
              · rcases h2 l' h' with rfl | h3
                · exact .inr hl
                · exact .inr (less_trans hl h3)
              · exact .inl rfl
            · rw [if_neg hl]
              refine .inr ⟨_, rfl, .inl h1, fun l' h' => ?_⟩
              rcases h' with h' | ⟨_, rfl⟩
              · exact h2 l' h'
              · rcases less_total x (ofN t d.bs.length) with h3 | h3 | h3
                · exact .inr h3
                · exact .inl h3
                · exact absurd h3 hl
        · have : goodS d t = false := by simpa using hg
          simp only [this, Bool.false_and, Bool.false_eq_true, if_false, false_and, or_false]
          exact h
      rw [List.foldl_cons]
      have := ih (refStep d b t) _ hstep
      have e : ∀ l, ((S l ∨ (goodS d t = true ∧ ofN t d.bs.length = l)) ∨ ∃ t', t' ∈ ts ∧ goodS d t' = true ∧ ofN t' d.bs.length = l) ↔ (S l ∨ ∃ t', t' ∈ t :: ts ∧ goodS d t' = true ∧ ofN t' d.bs.length = l) := by
        intro l
        constructor
        · rintro ((h | h) | ⟨t', h1, h2⟩)
          · exact .inl h
          · exact .inr ⟨t, List.mem_cons_self .., h⟩
          · exact .inr ⟨t', List.mem_cons_of_mem _ h1, h2⟩
        · rintro (h | ⟨t', h1, h2⟩)
          · exact .inl (.inl h)
          · rcases List.mem_cons.1 h1 with rfl | h1
            · exact .inl (.inr h2)
            · exact .inr ⟨t', h1, h2⟩
      simp only [e] at this
      exact this
  have h := key (List.range' 0 (2 ^ d.bs.length)) none (fun _ => False) (.inl ⟨rfl, fun _ h => h⟩)
  have e : ∀ l, (False ∨ ∃ t, t ∈ List.range' 0 (2 ^ d.bs.length) ∧ goodS d t = true ∧ ofN t d.bs.length = l) ↔ Cand d l := by
    intro l
    rw [false_or]
    constructor
    · rintro ⟨t, _, h1, rfl⟩; exact good_cand h1
    · intro hc
      obtain ⟨t, h1, h2, h3⟩ := cand_good hc
      exact ⟨t, by simp only [List.mem_range']; exact ⟨t, h1, by omega⟩, h3, h2⟩
  simp only [e] at h
  exact h
/-- Both say the same. -/
theorem wrong_same (d : Desk) : refW d = wrongV d := least_one (ref_least d) (wrong_least d)
end Go.Ab.Cl

namespace Go.Ab.Cl
open Go.Ab

set_option maxHeartbeats 4000000 in
theorem choose_ev {d : Desk} (hd : d.ok) (hc : d.check = true) : ∀ (m : Nat) {n : Nat}, 1000000000000400 + 4 * m ≤ n → ∀ (j : Nat) (l : List Nat), (∀ x ∈ l, x < j) → l.length + m ≤ 100 → j ≤ d.bs.length →
    ∀ (s : St) {D : Nat} (_ : D = s.length) (_ : 0 < s.length) (_ : getObj s 0 1 = some (.cells [.fn 78 [] [.ptr 0 1 0]])) {v : AV} (_ : IsBx s v (unsB d.bs (inL l))) {tk : Tok} (_ : tk = wtk l) {zj zm : Int} (_ : zj = (j : Int)) (_ : zm = ((l.length + m : Nat) : Int)) (kont : AV → St → Ans) (r : Ans)
    (_ : ∀ x, chooseV d m j l = some x → kont (.tup [.sl (rowsI (nats x)) (wtk x), .bool true]) s = r)
    (_ : chooseV d m j l = none → ∀ x t, purTok t = true → kont (.tup [.sl (rowsI x) t, .bool false]) s = r),
    (evKR Bk Gx fsT n).1 D 78 [.agg (dcB d v), .int .i64 zj, .int .i64 zm, .sl (rowsI (nats l)) tk, .ptr 0 1 0] s kont = r := by
  intro m
  induction m with
  | zero =>
    intro n hn j l hlj hl100 hj s D hD h0 hS v hv tk htk0 zj zm hzj hzm kont r K K0
    have htk : purTok tk = true := by rw [htk0]; exact wtk_pur l
    refine call_open (show fsT.find 78 = some a78 from rfl) (by omega) fun n' B cl rd hn' hB hcl hrd => ?_
    have hl1 : ∀ (g : Fr), D + 1 = (g :: s : St).length := fun _ => by simp [hD]
    have H75 : ∀ tb, purTok tb = true → (evKR Bk Gx fsT n').1 0 75 [(unS d (inL l) tb).v] [] ansK = some (.bool (tW d (inL l)), []) := fun tb htb => by
      rw [← tW_tok hc (inL l) tb]
      exact true_ev (n := n') (by omega) (unS d (inL l) tb) (unS_ok hd htb) (by rw [unS_check]; exact hc)
    rw [← hcl] at H75
    have heq : (Int.ofNat (nats l).length) = zm := by
      rw [hzm]; unfold nats; rw [List.length_map]; rfl
    have e0 : chooseV d 0 j l = if tW d (inL l) = true then some l else none := rfl
    rw [e0] at K K0
    have hv0 := hv
    have hbl : (unsB d.bs (inL l)).length = ((unsB d.bs (inL l)).map Box.c).length := by simp
    rcases hv with ⟨tv, htv, rfl⟩ | ⟨lv, iv, rfl, hlv, hgv⟩
    · conv => lhs; whnf
      repeat' ((first | refine Qw hB ?_ | refine Qv hB htk ?_ | refine Qv hB hd.tp ?_ | refine Qv hB htv ?_ | refine Qz hB (hl1 _) ((getObj_top hD).trans rfl) ?_ | refine Qf hB ?_ | refine Q5 hB heq ?_ | refine Q0 hB (by simp [purs, pur, hd.tp, htv]) ?_ | refine Qx hB (H75 tv htv) ?_ | refine Q0 hB rfl ?_ | refine Q1 hB (by decide) ?_ | refine Q2 hB (by decide) ?_ | refine Q3 hB (by decide) ?_ | refine Q4 hB (by decide) ?_ | refine Q5 hB (by decide) ?_ | refine Q6 hB (by decide) ?_ | refine Q7 hB (by omega) (by omega) ?_ | refine Q8 hB ?_ | refine Q9 hB ?_ | refine Qa hB ?_ | refine Qb hB (fun _ => ?_) (fun _ => ?_) | refine Qc hB ?_ | refine Qd hB ?_ | refine Qe hB ?_ | refine Qf hB ?_ | refine Qg hB ?_ | refine Qh hB ?_ | refine Qi hB ?_ | refine Qj hB rfl ?_ | refine Qk hB rfl ?_ | refine Ql hB (by first | omega | decide) ?_ | refine Qm hB rfl ?_ | refine Qn hB ?_ | refine Qo hB rfl ?_ | refine Qo hB (Qp rfl) ?_ | refine Qq hB rfl ?_ | refine Qr hB ?_ | refine Qs hB ?_ | refine Qt hB ?_ | refine Qu hB ?_ | refine Qv hB rfl ?_) <;> conv => lhs; whnf)
      all_goals
        cases ht : tW d (inL l)
        · rw [ht, if_neg (by decide)] at K0
          exact K0 rfl (nats l) tk htk
        · rw [ht, if_pos rfl] at K
          rw [htk0]
          exact K l rfl
    · conv => lhs; whnf
      repeat' ((first | refine Qw hB ?_ | refine Qv hB htk ?_ | refine Qv hB hd.tp ?_ | refine osh_step hB (hand_os_ok (rows := (unsB d.bs (inL l)).map Box.c) hbl ((getObj_sub hlv).trans hgv) (by omega) box_pur) ?_ | refine Qz hB (hl1 _) ((getObj_top hD).trans rfl) ?_ | refine Qf hB ?_ | refine Q5 hB heq ?_ | refine Q0 hB (by simp [purs, pur, hd.tp, show purTok .any = true from rfl]) ?_ | refine Qx hB (H75 .any rfl) ?_ | refine Q0 hB rfl ?_ | refine Q1 hB (by decide) ?_ | refine Q2 hB (by decide) ?_ | refine Q3 hB (by decide) ?_ | refine Q4 hB (by decide) ?_ | refine Q5 hB (by decide) ?_ | refine Q6 hB (by decide) ?_ | refine Q7 hB (by omega) (by omega) ?_ | refine Q8 hB ?_ | refine Q9 hB ?_ | refine Qa hB ?_ | refine Qb hB (fun _ => ?_) (fun _ => ?_) | refine Qc hB ?_ | refine Qd hB ?_ | refine Qe hB ?_ | refine Qf hB ?_ | refine Qg hB ?_ | refine Qh hB ?_ | refine Qi hB ?_ | refine Qj hB rfl ?_ | refine Qk hB rfl ?_ | refine Ql hB (by first | omega | decide) ?_ | refine Qm hB rfl ?_ | refine Qn hB ?_ | refine Qo hB rfl ?_ | refine Qo hB (Qp rfl) ?_ | refine Qq hB rfl ?_ | refine Qr hB ?_ | refine Qs hB ?_ | refine Qt hB ?_ | refine Qu hB ?_ | refine Qv hB rfl ?_) <;> conv => lhs; whnf)
      all_goals
        cases ht : tW d (inL l)
        · rw [ht, if_neg (by decide)] at K0
          exact K0 rfl (nats l) tk htk
        · rw [ht, if_pos rfl] at K
          rw [htk0]
          exact K l rfl
  | succ m ih =>
    intro n hn j l hlj hl100 hj s D hD h0 hS v hv tk htk0 zj zm hzj hzm kont r K K0
    have htk : purTok tk = true := by rw [htk0]; exact wtk_pur l
    refine call_open (show fsT.find 78 = some a78 from rfl) (by omega) fun n' B cl rd hn' hB hcl hrd => ?_
    have hl1 : ∀ (g : Fr), D + 1 = (g :: s : St).length := fun _ => by simp [hD]
    have hnb := (check_fine hc).nb
    have hne : ¬ (Int.ofNat (nats l).length) = zm := by
      rw [hzm]; unfold nats; rw [List.length_map]
      simp only [Int.ofNat_eq_natCast]; omega
    have HC : ∀ (k : Nat) (f f' : Fr) (v : AV) (kont : AV → St → Ans) (r : Ans), k < d.bs.length → (∀ x ∈ l, x < k) → IsBx (f :: f' :: s) v (unsB d.bs (inL (l ++ [k]))) →
        (∀ x, chooseV d m (k + 1) (l ++ [k]) = some x → kont (.tup [.sl (rowsI (nats x)) (wtk x), .bool true]) (f :: f' :: s) = r) →
        (chooseV d m (k + 1) (l ++ [k]) = none → ∀ x t, purTok t = true → kont (.tup [.sl (rowsI x) t, .bool false]) (f :: f' :: s) = r) →
        (evKR Bk Gx fsT n').1 (D + 1 + 1) 78 [.agg (dcB d v), .int .i64 ((k : Int) + 1), .int .i64 zm, .sl (rowsI (nats l ++ [(k : Int)])) .any, .ptr 0 1 0] (f :: f' :: s) kont = r := by
      intro k f f' v kont r hk hlk hv K K0
      have e : nats l ++ [(k : Int)] = nats (l ++ [k]) := by simp [nats]
      rw [e]
      refine ih (by omega) (k + 1) (l ++ [k]) (fun x hx => ?_) (by simp; omega) (by omega) (f :: f' :: s) (by simp [hD]) (by simp) ((getObj_sub (by simp)).trans ((getObj_sub h0).trans hS)) hv (tk := .any) (by cases l <;> rfl) (by simp) (by rw [hzm]; simp; omega) kont r K K0
      rcases List.mem_append.1 hx with hx | hx
      · have := hlk x hx; omega
      · simp at hx; omega
    rw [← hcl] at HC
    have e0 : chooseV d (m + 1) j l = chooseFrom d m j l := rfl
    rw [e0] at K K0
    subst hzj
    have hv0 := hv
    rcases hv with ⟨tv, htv, rfl⟩ | ⟨lv, iv, rfl, hlv, hgv⟩
    · conv => lhs; whnf
      repeat' ((first | refine Qw hB ?_ | refine Qv hB htk ?_ | refine Qv hB hd.tp ?_ | refine Qv hB htv ?_ | refine Qz hB (hl1 _) ((getObj_top hD).trans rfl) ?_ | refine Qf hB ?_ | refine Q6 hB hne ?_ | refine Qo hB (Nat.ble_eq_true_of_le (Nat.le_refl _)) ?_ | refine a78_L1_step hB d hd hc m l (by omega) (purTok_clamp htk) s hD h0 hS hv0 HC _ _ _ _ j _ (by omega) hj hlj (fun e x T => ?_) (fun x e en T => ?_) | refine Q0 hB rfl ?_ | refine Q1 hB (by decide) ?_ | refine Q2 hB (by decide) ?_ | refine Q3 hB (by decide) ?_ | refine Q4 hB (by decide) ?_ | refine Q5 hB (by decide) ?_ | refine Q6 hB (by decide) ?_ | refine Q7 hB (by omega) (by omega) ?_ | refine Q8 hB ?_ | refine Q9 hB ?_ | refine Qa hB ?_ | refine Qb hB (fun _ => ?_) (fun _ => ?_) | refine Qc hB ?_ | refine Qd hB ?_ | refine Qe hB ?_ | refine Qf hB ?_ | refine Qg hB ?_ | refine Qh hB ?_ | refine Qi hB ?_ | refine Qj hB rfl ?_ | refine Qk hB rfl ?_ | refine Ql hB (by first | omega | decide) ?_ | refine Qm hB rfl ?_ | refine Qn hB ?_ | refine Qo hB rfl ?_ | refine Qo hB (Qp rfl) ?_ | refine Qq hB rfl ?_ | refine Qr hB ?_ | refine Qs hB ?_ | refine Qt hB ?_ | refine Qu hB ?_ | refine Qv hB rfl ?_) <;> conv => lhs; whnf)
      · exact K0 e [] .nil rfl
      · conv => lhs; whnf
        repeat' ((first | refine Qv hB (wtk_pur x) ?_ | refine Q0 hB rfl ?_ | refine Q1 hB (by decide) ?_ | refine Q2 hB (by decide) ?_ | refine Q3 hB (by decide) ?_ | refine Q4 hB (by decide) ?_ | refine Q5 hB (by decide) ?_ | refine Q6 hB (by decide) ?_ | refine Q7 hB (by omega) (by omega) ?_ | refine Q8 hB ?_ | refine Q9 hB ?_ | refine Qa hB ?_ | refine Qb hB (fun _ => ?_) (fun _ => ?_) | refine Qc hB ?_ | refine Qd hB ?_ | refine Qe hB ?_ | refine Qf hB ?_ | refine Qg hB ?_ | refine Qh hB ?_ | refine Qi hB ?_ | refine Qj hB rfl ?_ | refine Qk hB rfl ?_ | refine Ql hB (by first | omega | decide) ?_ | refine Qm hB rfl ?_ | refine Qn hB ?_ | refine Qo hB rfl ?_ | refine Qo hB (Qp rfl) ?_ | refine Qq hB rfl ?_ | refine Qr hB ?_ | refine Qs hB ?_ | refine Qt hB ?_ | refine Qu hB ?_ | refine Qv hB rfl ?_) <;> conv => lhs; whnf)
        exact K x e
    · conv => lhs; whnf
      repeat' ((first | refine Qw hB ?_ | refine Qv hB htk ?_ | refine Qv hB hd.tp ?_ | refine Qn hB ?_ | refine Qz hB (hl1 _) ((getObj_top hD).trans rfl) ?_ | refine Qf hB ?_ | refine Q6 hB hne ?_ | refine Qo hB (Nat.ble_eq_true_of_le (Nat.le_refl _)) ?_ | refine a78_L1_step hB d hd hc m l (by omega) (purTok_clamp htk) s hD h0 hS hv0 HC _ _ _ _ j _ (by omega) hj hlj (fun e x T => ?_) (fun x e en T => ?_) | refine Q0 hB rfl ?_ | refine Q1 hB (by decide) ?_ | refine Q2 hB (by decide) ?_ | refine Q3 hB (by decide) ?_ | refine Q4 hB (by decide) ?_ | refine Q5 hB (by decide) ?_ | refine Q6 hB (by decide) ?_ | refine Q7 hB (by omega) (by omega) ?_ | refine Q8 hB ?_ | refine Q9 hB ?_ | refine Qa hB ?_ | refine Qb hB (fun _ => ?_) (fun _ => ?_) | refine Qc hB ?_ | refine Qd hB ?_ | refine Qe hB ?_ | refine Qf hB ?_ | refine Qg hB ?_ | refine Qh hB ?_ | refine Qi hB ?_ | refine Qj hB rfl ?_ | refine Qk hB rfl ?_ | refine Ql hB (by first | omega | decide) ?_ | refine Qm hB rfl ?_ | refine Qn hB ?_ | refine Qo hB rfl ?_ | refine Qo hB (Qp rfl) ?_ | refine Qq hB rfl ?_ | refine Qr hB ?_ | refine Qs hB ?_ | refine Qt hB ?_ | refine Qu hB ?_ | refine Qv hB rfl ?_) <;> conv => lhs; whnf)
      · exact K0 e [] .nil rfl
      · conv => lhs; whnf
        repeat' ((first | refine Qv hB (wtk_pur x) ?_ | refine Q0 hB rfl ?_ | refine Q1 hB (by decide) ?_ | refine Q2 hB (by decide) ?_ | refine Q3 hB (by decide) ?_ | refine Q4 hB (by decide) ?_ | refine Q5 hB (by decide) ?_ | refine Q6 hB (by decide) ?_ | refine Q7 hB (by omega) (by omega) ?_ | refine Q8 hB ?_ | refine Q9 hB ?_ | refine Qa hB ?_ | refine Qb hB (fun _ => ?_) (fun _ => ?_) | refine Qc hB ?_ | refine Qd hB ?_ | refine Qe hB ?_ | refine Qf hB ?_ | refine Qg hB ?_ | refine Qh hB ?_ | refine Qi hB ?_ | refine Qj hB rfl ?_ | refine Qk hB rfl ?_ | refine Ql hB (by first | omega | decide) ?_ | refine Qm hB rfl ?_ | refine Qn hB ?_ | refine Qo hB rfl ?_ | refine Qo hB (Qp rfl) ?_ | refine Qq hB rfl ?_ | refine Qr hB ?_ | refine Qs hB ?_ | refine Qt hB ?_ | refine Qu hB ?_ | refine Qv hB rfl ?_) <;> conv => lhs; whnf)
        exact K x e

theorem ftok_pur (t : Tok) : purTok (ftok t) = true := by cases t <;> rfl
def wrongFrom (d : Desk) (j : Nat) : Option (List Nat) := (List.range' j (d.bs.length + 1 - j)).findSome? fun m => chooseV d m 0 []
theorem wf_end {d : Desk} {j : Nat} (h : d.bs.length + 1 ≤ j) : wrongFrom d j = none := by
  unfold wrongFrom
  rw [Nat.sub_eq_zero_of_le h]; rfl
theorem wf_none {d : Desk} {j : Nat} (h : j < d.bs.length + 1) (hn : chooseV d j 0 [] = none) : wrongFrom d j = wrongFrom d (j + 1) := by
  unfold wrongFrom
  rw [show d.bs.length + 1 - j = (d.bs.length + 1 - (j + 1)) + 1 by omega, List.range'_succ, List.findSome?_cons, hn]
theorem wf_some {d : Desk} {j : Nat} {x : List Nat} (h : j < d.bs.length + 1) (hn : chooseV d j 0 [] = some x) : wrongFrom d j = some x := by
  unfold wrongFrom
  rw [show d.bs.length + 1 - j = (d.bs.length + 1 - (j + 1)) + 1 by omega, List.range'_succ, List.findSome?_cons, hn]

theorem a33_L1_step {B : Bnd} (hB : B = Bk) {cl : CallK} {rd : RoundK} (d : Desk) (hd : d.ok) (hc : d.check = true)
    (HC : ∀ (m : Nat) (kont : AV → St → Ans) (r : Ans), m ≤ d.bs.length → (∀ x, chooseV d m 0 [] = some x → kont (.tup [.sl (rowsI (nats x)) (wtk x), .bool true]) [⟨[], []⟩, ⟨[.cells d.c, .cells [.fn 78 [] [.ptr 0 1 0]]], []⟩] = r) →
      (chooseV d m 0 [] = none → ∀ x t, purTok t = true → kont (.tup [.sl (rowsI x) t, .bool false]) [⟨[], []⟩, ⟨[.cells d.c, .cells [.fn 78 [] [.ptr 0 1 0]]], []⟩] = r) →
      cl 2 78 [d.v, .int .i64 0, .int .i64 (.ofNat m), .sl [] .nil, .ptr 0 1 0] [⟨[], []⟩, ⟨[.cells d.c, .cells [.fn 78 [] [.ptr 0 1 0]]], []⟩] kont = r)
    (n : Nat) (k : Ex → Env → St → Ans) (r : Ans) :
    ∀ (j i0 : Nat), d.bs.length + 1 < i0 + j → i0 ≤ d.bs.length + 1 →
    (wrongFrom d i0 = none → ∀ x, k (.exit 0) [(1, .ptr 0 0 0), (2, .sl [] .nil), (3, .int .i64 0), (5, .ptr 0 1 0), (18, .int .i64 (.ofNat (d.bs.length + 1))), (19, .int .i64 x)] [⟨[.cells d.c, .cells [.fn 78 [] [.ptr 0 1 0]]], []⟩] = r) →
    (∀ x, wrongFrom d i0 = some x → ∀ e, k .ret ((1, .ptr 0 0 0) :: (2, .sl (rowsI (nats x)) (ftok (wtk x))) :: (3, .int .i64 0) :: e) [⟨[.cells d.c, .cells [.fn 78 [] [.ptr 0 1 0]]], []⟩] = r) →
    B.loop (evCK B a33_L1) [1, 2, 3, 5, 18, 19] n j cl rd Gx 0 1 [(1, .ptr 0 0 0), (2, .sl [] .nil), (3, .int .i64 0), (5, .ptr 0 1 0), (18, .int .i64 (.ofNat (d.bs.length + 1))), (19, .int .i64 (.ofNat i0))] [⟨[.cells d.c, .cells [.fn 78 [] [.ptr 0 1 0]]], []⟩] k = r := by
  intro j
  induction j with
  | zero => intro i0 h1 h2; omega
  | succ j ih =>
    intro i0 h1 h2 k1 k2
    have hnb := (check_fine hc).nb
    refine loop_succ hB ?_
    conv => lhs; whnf
    refine lt_nat hB (fun h => ?_) (fun h => ?_) <;> conv => lhs; whnf
    · repeat' ((first | refine Qw hB ?_ | refine Qv hB hd.tp ?_ | refine Qv hB hd.tb ?_ | refine HC i0 _ _ (by omega) (fun x e => ?_) (fun e x t ht => ?_) | refine Qv hB (wtk_pur _) ?_ | refine Qf hB ?_ | refine Qm hB (slice_pur _) ?_ | refine Q0 hB rfl ?_ | refine Q1 hB (by decide) ?_ | refine Q2 hB (by decide) ?_ | refine Q3 hB (by decide) ?_ | refine Q4 hB (by decide) ?_ | refine Q5 hB (by decide) ?_ | refine Q6 hB (by decide) ?_ | refine Q7 hB (by omega) (by omega) ?_ | refine Q8 hB ?_ | refine Q9 hB ?_ | refine Qa hB ?_ | refine Qb hB (fun _ => ?_) (fun _ => ?_) | refine Qc hB ?_ | refine Qd hB ?_ | refine Qe hB ?_ | refine Qf hB ?_ | refine Qg hB ?_ | refine Qh hB ?_ | refine Qi hB ?_ | refine Qj hB rfl ?_ | refine Qk hB rfl ?_ | refine Ql hB (by first | omega | decide) ?_ | refine Qm hB rfl ?_ | refine Qn hB ?_ | refine Qo hB rfl ?_ | refine Qo hB (Qp rfl) ?_ | refine Qq hB rfl ?_ | refine Qr hB ?_ | refine Qs hB ?_ | refine Qt hB ?_ | refine Qu hB ?_ | refine Qv hB rfl ?_) <;> conv => lhs; whnf)
      · rw [clampTok_pur (ftok_pur (wtk x))]
        exact k2 x (wf_some h e) _
      · rw [wf_none h e] at k1
        simp only [wf_none h e] at k2
        exact ih (i0 + 1) (by omega) (by omega) k1 k2
    · repeat' ((first | refine Q0 hB rfl ?_ | refine Q1 hB (by decide) ?_ | refine Q2 hB (by decide) ?_ | refine Q3 hB (by decide) ?_ | refine Q4 hB (by decide) ?_ | refine Q5 hB (by decide) ?_ | refine Q6 hB (by decide) ?_ | refine Q7 hB (by omega) (by omega) ?_ | refine Q8 hB ?_ | refine Q9 hB ?_ | refine Qa hB ?_ | refine Qb hB (fun _ => ?_) (fun _ => ?_) | refine Qc hB ?_ | refine Qd hB ?_ | refine Qe hB ?_ | refine Qf hB ?_ | refine Qg hB ?_ | refine Qh hB ?_ | refine Qi hB ?_ | refine Qj hB rfl ?_ | refine Qk hB rfl ?_ | refine Ql hB (by first | omega | decide) ?_ | refine Qm hB rfl ?_ | refine Qn hB ?_ | refine Qo hB rfl ?_ | refine Qo hB (Qp rfl) ?_ | refine Qq hB rfl ?_ | refine Qr hB ?_ | refine Qs hB ?_ | refine Qt hB ?_ | refine Qu hB ?_ | refine Qv hB rfl ?_) <;> conv => lhs; whnf)
      exact k1 (wf_end (by omega)) _

def wrongL (d : Desk) : List Nat := if d.check = true then (wrongV d).getD [] else []
def wrongE (d : Desk) : Int := if d.check = true then (if (wrongV d).isSome = true then 0 else 4) else 90
theorem wf_all (d : Desk) : wrongFrom d 0 = wrongV d := rfl
theorem Wrong_ev {n : Nat} (hn : 1000000000000600 ≤ n) (d : Desk) (hd : d.ok) : (evKR Bk Gx fsT n).1 0 33 [d.v] [] ansK = some (.tup [.sl (rowsI (nats (wrongL d))) (ftok (wtk (wrongL d))), .int .i64 (wrongE d)], []) := by
  refine call_open (show fsT.find 33 = some a33 from rfl) (by omega) fun n' B cl rd hn' hB hcl hrd => ?_
  have H15 := Check_ev (G := Gx) (n := n') d hd (by omega)
  unfold wrongL wrongE
  by_cases hc : d.check = true
  · rw [if_pos hc] at H15
    rw [if_pos hc, if_pos hc]
    have hnb := (check_fine hc).nb
    have h0 : unsB d.bs (inL []) = d.bs := unsB_none _ fun i _ => rfl
    have HC : ∀ (m : Nat) (kont : AV → St → Ans) (r : Ans), m ≤ d.bs.length → (∀ x, chooseV d m 0 [] = some x → kont (.tup [.sl (rowsI (nats x)) (wtk x), .bool true]) [⟨[], []⟩, ⟨[.cells d.c, .cells [.fn 78 [] [.ptr 0 1 0]]], []⟩] = r) →
        (chooseV d m 0 [] = none → ∀ x t, purTok t = true → kont (.tup [.sl (rowsI x) t, .bool false]) [⟨[], []⟩, ⟨[.cells d.c, .cells [.fn 78 [] [.ptr 0 1 0]]], []⟩] = r) →
        (evKR Bk Gx fsT n').1 2 78 [d.v, .int .i64 0, .int .i64 (.ofNat m), .sl [] .nil, .ptr 0 1 0] [⟨[], []⟩, ⟨[.cells d.c, .cells [.fn 78 [] [.ptr 0 1 0]]], []⟩] kont = r := by
      intro m kont r hm K K0
      refine choose_ev hd hc m (n := n') (by omega) 0 [] (fun x hx => by cases hx) (by simp; omega) (by omega) _ rfl (by simp) rfl (v := .sl (d.bs.map Box.c) d.tb) (.inl ⟨d.tb, hd.tb, by rw [h0]⟩) (tk := .nil) rfl rfl (by simp) kont r K K0
    rw [← hcl] at H15 HC
    have HL := a33_L1_step hB (rd := rd) d hd hc HC
    cases hw : wrongV d with
    | none =>
      rw [← wf_all] at hw
      conv => lhs; whnf
      repeat' ((first | refine Qw hB ?_ | refine Qv hB hd.tp ?_ | refine Qv hB hd.tb ?_ | refine Q0 hB (by simp [purs, pur, hd.tp, hd.tb]) ?_ | refine Qx hB H15 ?_ | refine Qf hB ?_ | refine Ql hB (by omega) ?_ | refine HL _ _ _ _ 0 (by omega) (by omega) (fun e x => ?_) (fun x e en => ?_) | refine Q0 hB rfl ?_ | refine Q1 hB (by decide) ?_ | refine Q2 hB (by decide) ?_ | refine Q3 hB (by decide) ?_ | refine Q4 hB (by decide) ?_ | refine Q5 hB (by decide) ?_ | refine Q6 hB (by decide) ?_ | refine Q7 hB (by omega) (by omega) ?_ | refine Q8 hB ?_ | refine Q9 hB ?_ | refine Qa hB ?_ | refine Qb hB (fun _ => ?_) (fun _ => ?_) | refine Qc hB ?_ | refine Qd hB ?_ | refine Qe hB ?_ | refine Qf hB ?_ | refine Qg hB ?_ | refine Qh hB ?_ | refine Qi hB ?_ | refine Qj hB rfl ?_ | refine Qk hB rfl ?_ | refine Ql hB (by first | omega | decide) ?_ | refine Qm hB rfl ?_ | refine Qn hB ?_ | refine Qo hB rfl ?_ | refine Qo hB (Qp rfl) ?_ | refine Qq hB rfl ?_ | refine Qr hB ?_ | refine Qs hB ?_ | refine Qt hB ?_ | refine Qu hB ?_ | refine Qv hB rfl ?_) <;> conv => lhs; whnf)
      · rfl
      · rw [hw] at e
        cases e
    | some l =>
      rw [← wf_all] at hw
      conv => lhs; whnf
      repeat' ((first | refine Qw hB ?_ | refine Qv hB hd.tp ?_ | refine Qv hB hd.tb ?_ | refine Q0 hB (by simp [purs, pur, hd.tp, hd.tb]) ?_ | refine Qx hB H15 ?_ | refine Qf hB ?_ | refine Ql hB (by omega) ?_ | refine HL _ _ _ _ 0 (by omega) (by omega) (fun e x => ?_) (fun x e en => ?_) | refine Q0 hB rfl ?_ | refine Q1 hB (by decide) ?_ | refine Q2 hB (by decide) ?_ | refine Q3 hB (by decide) ?_ | refine Q4 hB (by decide) ?_ | refine Q5 hB (by decide) ?_ | refine Q6 hB (by decide) ?_ | refine Q7 hB (by omega) (by omega) ?_ | refine Q8 hB ?_ | refine Q9 hB ?_ | refine Qa hB ?_ | refine Qb hB (fun _ => ?_) (fun _ => ?_) | refine Qc hB ?_ | refine Qd hB ?_ | refine Qe hB ?_ | refine Qf hB ?_ | refine Qg hB ?_ | refine Qh hB ?_ | refine Qi hB ?_ | refine Qj hB rfl ?_ | refine Qk hB rfl ?_ | refine Ql hB (by first | omega | decide) ?_ | refine Qm hB rfl ?_ | refine Qn hB ?_ | refine Qo hB rfl ?_ | refine Qo hB (Qp rfl) ?_ | refine Qq hB rfl ?_ | refine Qr hB ?_ | refine Qs hB ?_ | refine Qt hB ?_ | refine Qu hB ?_ | refine Qv hB rfl ?_) <;> conv => lhs; whnf)
      · rw [hw] at e
        cases e
      · rw [hw] at e
        cases e
        conv => lhs; whnf
        repeat' ((first | refine Qv hB (ftok_pur _) ?_ | refine Q0 hB rfl ?_ | refine Q1 hB (by decide) ?_ | refine Q2 hB (by decide) ?_ | refine Q3 hB (by decide) ?_ | refine Q4 hB (by decide) ?_ | refine Q5 hB (by decide) ?_ | refine Q6 hB (by decide) ?_ | refine Q7 hB (by omega) (by omega) ?_ | refine Q8 hB ?_ | refine Q9 hB ?_ | refine Qa hB ?_ | refine Qb hB (fun _ => ?_) (fun _ => ?_) | refine Qc hB ?_ | refine Qd hB ?_ | refine Qe hB ?_ | refine Qf hB ?_ | refine Qg hB ?_ | refine Qh hB ?_ | refine Qi hB ?_ | refine Qj hB rfl ?_ | refine Qk hB rfl ?_ | refine Ql hB (by first | omega | decide) ?_ | refine Qm hB rfl ?_ | refine Qn hB ?_ | refine Qo hB rfl ?_ | refine Qo hB (Qp rfl) ?_ | refine Qq hB rfl ?_ | refine Qr hB ?_ | refine Qs hB ?_ | refine Qt hB ?_ | refine Qu hB ?_ | refine Qv hB rfl ?_) <;> conv => lhs; whnf)
        rfl
  · rw [if_neg hc] at H15
    rw [if_neg hc, if_neg hc]
    rw [← hcl] at H15
    conv => lhs; whnf
    repeat' ((first | refine Qw hB ?_ | refine Qv hB hd.tp ?_ | refine Qv hB hd.tb ?_ | refine Q0 hB (by simp [purs, pur, hd.tp, hd.tb]) ?_ | refine Qx hB H15 ?_ | refine Q0 hB rfl ?_ | refine Q1 hB (by decide) ?_ | refine Q2 hB (by decide) ?_ | refine Q3 hB (by decide) ?_ | refine Q4 hB (by decide) ?_ | refine Q5 hB (by decide) ?_ | refine Q6 hB (by decide) ?_ | refine Q7 hB (by omega) (by omega) ?_ | refine Q8 hB ?_ | refine Q9 hB ?_ | refine Qa hB ?_ | refine Qb hB (fun _ => ?_) (fun _ => ?_) | refine Qc hB ?_ | refine Qd hB ?_ | refine Qe hB ?_ | refine Qf hB ?_ | refine Qg hB ?_ | refine Qh hB ?_ | refine Qi hB ?_ | refine Qj hB rfl ?_ | refine Qk hB rfl ?_ | refine Ql hB (by first | omega | decide) ?_ | refine Qm hB rfl ?_ | refine Qn hB ?_ | refine Qo hB rfl ?_ | refine Qo hB (Qp rfl) ?_ | refine Qq hB rfl ?_ | refine Qr hB ?_ | refine Qs hB ?_ | refine Qt hB ?_ | refine Qu hB ?_ | refine Qv hB rfl ?_) <;> conv => lhs; whnf)
    all_goals rfl
end Go.Ab.Cl

namespace Go.Ab.Cl
open Go.Ab

theorem ask_t {d : Desk} (hc : d.check = true) (ht : trueB d = true) : askE d true = 0 := by simp [askE, hc, ht]
theorem ask_f {d : Desk} (hc : d.check = true) (ht : trueB d = false) : askE d true = 92 := by simp [askE, hc, ht]
theorem tW_nil {d : Desk} (hc : d.check = true) : tW d (inL []) = trueB d := by
  rw [← tW_tok hc (inL []) d.tb]
  have : unS d (inL []) d.tb = d := by
    unfold unS
    rw [unsB_none d.bs (f := inL []) fun i _ => rfl]
  rw [this]
theorem wrong_t {d : Desk} (hc : d.check = true) (ht : trueB d = true) : wrongV d = some [] := by
  have hcand : Cand d [] := ⟨trivial, by rw [tW_nil hc, ht]⟩
  rcases wrong_least d with ⟨_, h⟩ | ⟨l, h, h1, h2⟩
  · exact absurd hcand (h [])
  · rcases h2 [] hcand with rfl | h3
    · exact h
    · rw [less_iff] at h3
      rcases h3 with h3 | ⟨h3, h4⟩
      · simp at h3
      · obtain rfl := List.length_eq_zero_iff.1 h3
        exact h
theorem wrong_f {d : Desk} (hc : d.check = true) (ht : trueB d = false) : wrongV d ≠ some [] := fun h => by
  rcases wrong_least d with ⟨h1, _⟩ | ⟨l, h1, h2, _⟩
  · rw [h1] at h; cases h
  · rw [h1] at h
    cases h
    have := h2.2
    rw [tW_nil hc, ht] at this
    cases this
theorem wrong_cand {d : Desk} {l : List Nat} (h : wrongV d = some l) : Cand d l ∧ ∀ l', Cand d l' → l = l' ∨ lessL l l' = true := by
  rcases wrong_least d with ⟨h1, _⟩ | ⟨l2, h1, h2, h3⟩
  · rw [h1] at h; cases h
  · rw [h1] at h
    cases h
    exact ⟨h2, h3⟩
theorem wrong_no {d : Desk} (h : wrongV d = none) (l : List Nat) : ¬ Cand d l := by
  rcases wrong_least d with ⟨_, h2⟩ | ⟨l2, h1, _⟩
  · exact h2 l
  · rw [h1] at h; cases h

theorem dS_mono {d : Desk} (hc : d.check = true) {s s' : Int} (h0 : 0 ≤ s) (hs : s ≤ s') (h6 : s' ≤ 6) (h : trueB (dS d s) = true) : trueB (dS d s') = true := by
  obtain ⟨l, hl⟩ := (true_iff (dS_check hc h0 (by omega))).1 h
  refine (true_iff (dS_check hc (by omega) h6)).2 ⟨l, hl.len, hl.ok, hl.inj, ?_⟩
  have := hl.few
  show _ ≤ s'
  have this : ((l.count (-1) : Nat) : Int) ≤ s := this
  omega
theorem few_spec {d : Desk} (hc : d.check = true) : (∃ n : Nat, n ≤ 6 ∧ fewR d = ((n : Int), 0) ∧ trueB (dS d (n : Int)) = true ∧ ∀ m : Nat, m < n → trueB (dS d (m : Int)) = false) ∨ (fewR d = (0, 4) ∧ ∀ m : Nat, m ≤ 6 → trueB (dS d (m : Int)) = false) := by
  unfold fewR
  rw [if_pos hc]
  cases h : (List.range 7).find? (fun n : Nat => trueB (dS d (n : Int))) with
  | none =>
    refine .inr ⟨rfl, fun m hm => ?_⟩
    have := List.find?_eq_none.1 h m (by simp; omega)
    simpa using this
  | some n =>
    refine .inl ⟨n, ?_, rfl, ?_, fun m hm => ?_⟩
    · have := List.mem_of_find?_eq_some h
      simp at this; omega
    · have := List.find?_some (p := fun n : Nat => trueB (dS d (n : Int))) h
      exact this
    · rw [List.find?_range_eq_some] at h
      have := h.2.2 m hm
      simpa using this
theorem dS_self (d : Desk) : dS d d.strange = d := rfl
theorem few_true {d : Desk} (hc : d.check = true) {n : Nat} (hn : n ≤ 6) (h1 : trueB (dS d (n : Int)) = true) (h2 : ∀ m : Nat, m < n → trueB (dS d (m : Int)) = false) : trueB d = true ↔ (n : Int) ≤ d.strange := by
  have hs := check_strange hc
  constructor
  · intro h
    refine Decidable.byContradiction fun hlt => ?_
    have := h2 d.strange.toNat (by omega)
    rw [show ((d.strange.toNat : Nat) : Int) = d.strange by omega, dS_self, h] at this
    cases this
  · intro h
    have := dS_mono hc (s := (n : Int)) (s' := d.strange) (by omega) h (by omega) h1
    rwa [dS_self] at this
theorem few_none {d : Desk} (hc : d.check = true) (h : ∀ m : Nat, m ≤ 6 → trueB (dS d (m : Int)) = false) : trueB d = false := by
  have hs := check_strange hc
  have := h d.strange.toNat (by omega)
  rwa [show ((d.strange.toNat : Nat) : Int) = d.strange by omega, dS_self] at this

/-- Those that are chosen. -/
def sel (d : Desk) (f : Nat → Bool) (j : Nat) : List Nat := (List.range' j (d.bs.length - j)).filter f
theorem sel_end {d : Desk} {f : Nat → Bool} {j : Nat} (h : d.bs.length ≤ j) : sel d f j = [] := by
  unfold sel
  rw [Nat.sub_eq_zero_of_le h]; rfl
theorem sel_yes {d : Desk} {f : Nat → Bool} {j : Nat} (h : j < d.bs.length) (hf : f j = true) : sel d f j = j :: sel d f (j + 1) := by
  unfold sel
  rw [show d.bs.length - j = (d.bs.length - (j + 1)) + 1 by omega, List.range'_succ, List.filter_cons_of_pos hf]
theorem sel_no {d : Desk} {f : Nat → Bool} {j : Nat} (h : j < d.bs.length) (hf : f j = false) : sel d f j = sel d f (j + 1) := by
  unfold sel
  rw [show d.bs.length - j = (d.bs.length - (j + 1)) + 1 by omega, List.range'_succ, List.filter_cons_of_neg (by rw [hf]; exact Bool.false_ne_true)]
theorem sel_asc {d : Desk} {f : Nat → Bool} (h : ∀ k, k < d.bs.length → f k = true → stampB d k = true) : Asc d 0 (sel d f 0) := asc_filter h _ 0 (by omega)
theorem sel_mem {d : Desk} {f : Nat → Bool} {x : Nat} (h : x ∈ sel d f 0) : x < d.bs.length := by
  unfold sel at h
  simp only [List.mem_filter, List.mem_range'] at h
  obtain ⟨⟨m, h1, rfl⟩, _⟩ := h
  omega
theorem sel_len {d : Desk} (hnb : d.bs.length ≤ 6) (f : Nat → Bool) (j : Nat) : (sel d f j).length ≤ 100 := by
  unfold sel
  refine Nat.le_trans (List.length_filter_le _ _) ?_
  simp; omega
end Go.Ab.Cl
