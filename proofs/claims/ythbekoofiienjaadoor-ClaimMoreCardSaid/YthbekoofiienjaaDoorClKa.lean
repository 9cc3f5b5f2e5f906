/-
  The claims: ClaimCould, on the abstract machine.
-/
import Derived.Test.YthbekoofiienjaaDoorClG
import Derived.Test.YthbekoofiienjaaDoorWk
import Derived.Test.YthbekoofiienjaaDoorClQ
namespace Go.Ab.Cl
open Go.Ab

theorem a9_L1_two {G : Nat → List AV} {B : Bnd} (hB : B = Bk) {cl : CallK} {rd : RoundK} (d : Desk) (b : Box) (p : Parcel) (n0 n1 v5 v6 : AV) (own : List UInt8) (hl : b.mark.length ≤ own.length) (hl2 : own.length ≤ 100) (x5 x6 x10 m0 m1 : Int) (is : Bool) (n : Nat) (k : Ex → Env → St → Ans) (r : Ans) :
    ∀ (j i : Nat) (ok : Bool), b.mark.length < i + j → i ≤ b.mark.length →
    ((ok && agree (b.mark.drop i) (own.drop i)) = true → k (.exit 0) [(2, .ptr 0 0 0), (3, .ptr 0 1 0), (5, .int .i64 x5), (6, .int .i64 x6), (7, .ptr 0 2 0), (9, .bool is), (10, .int .i64 x10), (11, .bool true), (12, .str own), (13, .int .i64 (.ofNat b.mark.length))] [⟨[.cells d.c, .cells [.int .i64 m0, .int .i64 m1], .cells b.c, .cells p.c], []⟩] = r) →
    ((ok && agree (b.mark.drop i) (own.drop i)) = false → k (.exit 0) [(2, .ptr 0 0 0), (3, .ptr 0 1 0), (5, .int .i64 x5), (6, .int .i64 x6), (7, .ptr 0 2 0), (9, .bool is), (10, .int .i64 x10), (11, .bool false), (12, .str own), (13, .int .i64 (.ofNat b.mark.length))] [⟨[.cells d.c, .cells [.int .i64 m0, .int .i64 m1], .cells b.c, .cells p.c], []⟩] = r) →
    B.loop (evCK B a9_L1) [2, 3, 5, 6, 7, 9, 10, 11, 12, 13] n j cl rd G 0 1 [(2, .ptr 0 0 0), (3, .ptr 0 1 0), (5, .int .i64 x5), (6, .int .i64 x6), (7, .ptr 0 2 0), (9, .bool is), (10, .int .i64 x10), (11, .bool ok), (12, .str own), (13, .int .i64 (.ofNat i))] [⟨[.cells d.c, .cells [.int .i64 m0, .int .i64 m1], .cells b.c, .cells p.c], []⟩] k = r := by
  intro j
  induction j with
  | zero => intro i ok h1 h2; omega
  | succ j ih =>
    intro i ok h1 h2 k1 k2
    refine loop_succ hB ?_
    conv => lhs; whnf
    repeat' ((first | refine Q0 hB rfl ?_ | refine Q1 hB (by decide) ?_ | refine Q2 hB (by decide) ?_ | refine Q3 hB (by decide) ?_ | refine Q4 hB (by decide) ?_ | refine Q5 hB (by decide) ?_ | refine Q6 hB (by decide) ?_ | refine Q7 hB (by omega) (by omega) ?_ | refine Q8 hB ?_ | refine Q9 hB ?_ | refine Qa hB ?_ | refine Qb hB (fun _ => ?_) (fun _ => ?_) | refine Qc hB ?_ | refine Qd hB ?_ | refine Qe hB ?_ | refine Qf hB ?_ | refine Qg hB ?_ | refine Qh hB ?_ | refine Qi hB ?_ | refine Qj hB rfl ?_ | refine Qk hB rfl ?_ | refine Ql hB (by first | omega | decide) ?_ | refine Qm hB rfl ?_ | refine Qn hB ?_ | refine Qo hB rfl ?_ | refine Qo hB (Qp rfl) ?_ | refine Qq hB rfl ?_ | refine Qr hB ?_ | refine Qs hB ?_ | refine Qt hB ?_ | refine Qu hB ?_ | refine Qv hB rfl ?_) <;> conv => lhs; whnf)
    refine lt_nat hB (fun h => ?_) (fun h => ?_) <;> conv => lhs; whnf
    · have hx : b.mark[i]? = some b.mark[i] := by simp [h]
      have hy : own[i]? = some (own[i]'(by omega)) := by simp
      have hd : b.mark.drop i = b.mark[i] :: b.mark.drop (i + 1) := List.drop_eq_getElem_cons h
      have hd2 : own.drop i = (own[i]'(by omega)) :: own.drop (i + 1) := List.drop_eq_getElem_cons (by omega)
      rw [hd, hd2] at k1 k2
      generalize b.mark[i] = c at hx k1 k2
      generalize (own[i]'(by omega)) = o at hy k1 k2
      cases ok
      · repeat' ((first | refine QC hB (m := i) rfl ?_ | refine nthb_step hB hx ?_ | refine Q0 hB rfl ?_ | refine Q1 hB (by decide) ?_ | refine Q2 hB (by decide) ?_ | refine Q3 hB (by decide) ?_ | refine Q4 hB (by decide) ?_ | refine Q5 hB (by decide) ?_ | refine Q6 hB (by decide) ?_ | refine Q7 hB (by omega) (by omega) ?_ | refine Q8 hB ?_ | refine Q9 hB ?_ | refine Qa hB ?_ | refine Qb hB (fun _ => ?_) (fun _ => ?_) | refine Qc hB ?_ | refine Qd hB ?_ | refine Qe hB ?_ | refine Qf hB ?_ | refine Qg hB ?_ | refine Qh hB ?_ | refine Qi hB ?_ | refine Qj hB rfl ?_ | refine Qk hB rfl ?_ | refine Ql hB (by first | omega | decide) ?_ | refine Qm hB rfl ?_ | refine Qn hB ?_ | refine Qo hB rfl ?_ | refine Qo hB (Qp rfl) ?_ | refine Qq hB rfl ?_ | refine Qr hB ?_ | refine Qs hB ?_ | refine Qt hB ?_ | refine Qu hB ?_ | refine Qv hB rfl ?_) <;> conv => lhs; whnf)
        refine ih (i + 1) false (by omega) (by omega) (fun h => k1 ?_) (fun h => k2 ?_)
        · simp at h
        · simp
      · repeat' ((first | refine QC hB (m := i) rfl ?_ | refine nthb_step hB hx ?_ | refine nthb_step hB hy ?_ | refine eq_split hB (fun _ => ?_) (fun _ => ?_) | refine Q0 hB rfl ?_ | refine Q1 hB (by decide) ?_ | refine Q2 hB (by decide) ?_ | refine Q3 hB (by decide) ?_ | refine Q4 hB (by decide) ?_ | refine Q5 hB (by decide) ?_ | refine Q6 hB (by decide) ?_ | refine Q7 hB (by omega) (by omega) ?_ | refine Q8 hB ?_ | refine Q9 hB ?_ | refine Qa hB ?_ | refine Qb hB (fun _ => ?_) (fun _ => ?_) | refine Qc hB ?_ | refine Qd hB ?_ | refine Qe hB ?_ | refine Qf hB ?_ | refine Qg hB ?_ | refine Qh hB ?_ | refine Qi hB ?_ | refine Qj hB rfl ?_ | refine Qk hB rfl ?_ | refine Ql hB (by first | omega | decide) ?_ | refine Qm hB rfl ?_ | refine Qn hB ?_ | refine Qo hB rfl ?_ | refine Qo hB (Qp rfl) ?_ | refine Qq hB rfl ?_ | refine Qr hB ?_ | refine Qs hB ?_ | refine Qt hB ?_ | refine Qu hB ?_ | refine Qv hB rfl ?_) <;> conv => lhs; whnf)
        · have hb : agree (c :: b.mark.drop (i + 1)) (o :: own.drop (i + 1)) = agree (b.mark.drop (i + 1)) (own.drop (i + 1)) := by clear ih k1 k2; simp_all [agree]
          rw [hb] at k1 k2
          (repeat' ((refine Qo hB rfl ?_) <;> conv => lhs; whnf))
          exact ih (i + 1) true (by omega) (by omega) k1 k2
        · have hb : agree (c :: b.mark.drop (i + 1)) (o :: own.drop (i + 1)) = agree (b.mark.drop (i + 1)) (own.drop (i + 1)) := by clear ih k1 k2; simp_all [agree]
          rw [hb] at k1 k2
          (repeat' ((refine Qo hB rfl ?_) <;> conv => lhs; whnf))
          exact ih (i + 1) true (by omega) (by omega) k1 k2
        · have hb : agree (c :: b.mark.drop (i + 1)) (o :: own.drop (i + 1)) = false := by clear ih k1 k2; simp_all [agree]
          rw [hb] at k2
          (repeat' ((refine Qo hB rfl ?_) <;> conv => lhs; whnf))
          exact ih (i + 1) false (by omega) (by omega) (fun h => by simp at h) (fun _ => k2 rfl)
    · have hi : i = b.mark.length := by omega
      have hz : b.mark.drop i = [] := by rw [hi]; simp
      rw [hz] at k1 k2
      rw [hi]
      cases ok
      · (repeat' ((refine Qo hB rfl ?_) <;> conv => lhs; whnf))
        exact k2 rfl
      · (repeat' ((refine Qo hB rfl ?_) <;> conv => lhs; whnf))
        exact k1 (by simp [agree])

theorem box_put2 {bs : List Box} {i : Nat} {b : Box} (hb : bs[i]? = some b) (m : List UInt8) : putAt (bs.map Box.c).flatten (Nat.add (Nat.add 0 (Nat.mul i 5)) 3) [.str m] = ((bs.set i { b with mark := m }).map Box.c).flatten := by
  rw [show Nat.add (Nat.add 0 (Nat.mul i 5)) 3 = i * 5 + 3 by simp]
  exact box_put hb m
theorem box_lt {bs : List Box} {i : Nat} (h : i < bs.length) : Nat.ble (Nat.succ i) (bs.map Box.c).length = true := by
  rw [Nat.ble_eq, List.length_map]; exact h
theorem box_room {bs : List Box} {i : Nat} (h : i < bs.length) : Nat.ble (Nat.add (Nat.add (Nat.add 0 (Nat.mul i 5)) 3) 1) (lenK (bs.map Box.c).flatten) = true := by
  rw [lenK_eq, flat_len5 _ box_len, List.length_map, Nat.ble_eq]
  show 0 + i * 5 + 3 + 1 ≤ bs.length * 5
  omega
end Go.Ab.Cl

namespace Go.Ab.Cl
open Go.Ab

/-- A desk of which all that was true is true. -/
structure Wider (d x : Desk) : Prop where
  len : x.bs.length = d.bs.length
  odd : ∀ i, oddB d i = true → oddB x i = true
  str : d.strange ≤ x.strange
  fit : ∀ i n, fit0 d i n = true → fit0 x i n = true
  val : ∀ n, n < d.ps.length → valueOf x n = valueOf d n
  ps : d.ps.length ≤ x.ps.length
theorem Tr_wider {d x : Desk} (hw : Wider d x) {l : List Int} (h : Tr d l) : Tr x l where
  len := by rw [hw.len]; exact h.len
  ok i k hk := by
    rcases h.ok i k hk with ⟨h1, h2⟩ | ⟨n, h1, h2⟩
    · exact .inl ⟨h1, hw.odd i h2⟩
    · exact .inr ⟨n, h1, hw.fit i n h2⟩
  inj := h.inj
  few := Int.le_trans h.few hw.str
theorem val_same {d x : Desk} (hv : ∀ n, n < d.ps.length → valueOf x n = valueOf d n) : ∀ {l : List Int}, (∀ k ∈ l, k = -1 ∨ ∃ n : Nat, k = (n : Int) ∧ n < d.ps.length) → val x l = val d l
  | [], _ => rfl
  | k :: l, h => by
    simp only [val]
    rw [val_same hv (fun k hk => h k (List.mem_cons_of_mem _ hk))]
    rcases h k (List.mem_cons_self ..) with h1 | ⟨n, h1, h2⟩
    · simp [h1]
    · subst h1
      have hn : ¬ ((n : Int) = -1) := by omega
      rw [if_neg hn, if_neg hn, Int.toNat_natCast, hv n h2]
theorem Tr_mem {d : Desk} {l : List Int} (h : Tr d l) : ∀ k ∈ l, k = -1 ∨ ∃ n : Nat, k = (n : Int) ∧ n < d.ps.length := by
  intro k hk
  obtain ⟨i, hi⟩ := List.mem_iff_getElem?.1 hk
  rcases h.ok i k hi with ⟨h1, _⟩ | ⟨n, h1, h2⟩
  · exact .inl h1
  · exact .inr ⟨n, h1, (fit_lt h2).2⟩
theorem val_wider {d x : Desk} (hw : Wider d x) {l : List Int} (h : Tr d l) : val x l = val d l := val_same hw.val (Tr_mem h)
section
variable {d x : Desk} (hw : Wider d x) (hc : d.check = true) (hx : x.check = true)
include hw hc hx
theorem wider_true (h : trueB d = true) : trueB x = true := by
  obtain ⟨l, hl⟩ := (true_iff hc).1 h
  exact (true_iff hx).2 ⟨l, Tr_wider hw hl⟩
theorem wider_can {b : Nat} (hb : b < d.bs.length) {k : Int} (h : canB d (b : Int) k = true) : canB x (b : Int) k = true := by
  obtain ⟨l, hl, h2⟩ := (can_iff hc hb).1 h
  exact (can_iff hx (by rw [hw.len]; exact hb)).2 ⟨l, Tr_wider hw hl, h2⟩
theorem wider_worth (h : trueB d = true) : innerB (worthLo d) (worthHi d) (worthLo x) (worthHi x) = true := by
  obtain ⟨⟨l1, h1, e1⟩, ⟨l2, h2, e2⟩, _⟩ := worth_spec hc h
  obtain ⟨_, _, h3⟩ := worth_spec hx (wider_true hw hc hx h)
  have k1 := h3 l1 (Tr_wider hw h1)
  have k2 := h3 l2 (Tr_wider hw h2)
  rw [val_wider hw h1] at k1
  rw [val_wider hw h2] at k2
  simp only [innerB, Bool.and_eq_true, decide_eq_true_eq]
  omega
end
theorem whichFrom_mem {d : Desk} {z k : Int} : k ∈ whichFrom d z 0 ↔ ∃ n : Nat, k = (n : Int) ∧ n < d.ps.length ∧ canB d z (n : Int) = true := by
  unfold whichFrom
  simp only [List.mem_map, List.mem_filter, List.mem_range']
  constructor
  · rintro ⟨n, ⟨⟨m, h1, h2⟩, h3⟩, rfl⟩; exact ⟨n, rfl, by omega, h3⟩
  · rintro ⟨n, rfl, h1, h2⟩; exact ⟨n, ⟨⟨n, by omega, by omega⟩, h2⟩, rfl⟩
theorem wider_which {d x : Desk} (hw : Wider d x) (hc : d.check = true) (hx : x.check = true) {b : Nat} (hb : b < d.bs.length) : ∀ k ∈ whichFrom d (b : Int) 0, k ∈ whichFrom x (b : Int) 0 := by
  intro k hk
  obtain ⟨n, h1, h2, h3⟩ := whichFrom_mem.1 hk
  exact whichFrom_mem.2 ⟨n, h1, Nat.lt_of_lt_of_le h2 hw.ps, wider_can hw hc hx hb h3⟩

/-! ### what ClaimMore makes of a desk -/
def moreX (d : Desk) (lo hi wear : Int) (ps : List Parcel) (tp : Tok) (i : Nat) (b : Box) : Desk := ⟨lo, hi, wear, d.strange, ps, d.bs.set i b, tp, .any⟩
theorem moreX_ok {d : Desk} (hd : d.ok) {lo hi wear : Int} {ps : List Parcel} {tp : Tok} (htp : purTok tp = true) {i : Nat} {b : Box} (hps : ps.length ≤ 200000000000000) (hb : b.mark.length ≤ 1000) : (moreX d lo hi wear ps tp i b).ok where
  tp := htp
  tb := rfl
  ps := hps
  bs := by simpa [moreX] using hd.bs
  str b' hb' := by
    rcases List.mem_or_eq_of_mem_set hb' with h | h
    · exact hd.str b' h
    · subst h; omega
theorem moreX_wider {d : Desk} {lo hi wear : Int} {ps q : List Parcel} (hpq : ps = d.ps ++ q) {tp : Tok} {i : Nat} {b b' : Box} (hb : d.bs[i]? = some b) (hlo : lo ≤ d.lo) (hhi : d.hi ≤ hi) (hw : d.wear ≤ wear)
    (hday : b'.day = b.day) (hlow : b'.low ≤ b.low) (hhigh : b.high ≤ b'.high) (hst : b'.stamp = b.stamp) (hseal : ∀ p ∈ d.ps, sealB b p = true → sealB b' p = true) : Wider d (moreX d lo hi wear ps tp i b') := by
  subst hpq
  have hget : ∀ j bb, d.bs[j]? = some bb → (d.bs.set i b')[j]? = some (if i = j then b' else bb) := by
    intro j bb hj
    rw [List.getElem?_set]
    by_cases h : i = j
    · subst h
      rw [if_pos rfl, if_pos (List.getElem?_eq_some_iff.1 hj).1, if_pos rfl]
    · rw [if_neg h, if_neg h, hj]
  refine ⟨by simp [moreX], fun j h => ?_, Int.le_refl _, fun j n h => ?_, fun n h => ?_, by simp [moreX]⟩
  · unfold oddB at h ⊢
    cases hj : d.bs[j]? with
    | none => rw [hj] at h; cases h
    | some bb =>
      rw [hj] at h
      show (match (d.bs.set i b')[j]? with | some b => !b.stamp | none => false) = true
      rw [hget j bb hj]
      by_cases hij : i = j
      · subst hij
        rw [hb] at hj; cases hj
        rw [if_pos rfl, ]
        simp only at h ⊢
        rw [hst]; exact h
      · rw [if_neg hij]; exact h
  · unfold fit0 at h ⊢
    cases hj : d.bs[j]? with
    | none => rw [hj] at h; cases h
    | some bb =>
      cases hn : d.ps[n]? with
      | none => rw [hj, hn] at h; cases h
      | some p =>
        rw [hj, hn] at h
        simp only at h
        show (match (d.bs.set i b')[j]?, (d.ps ++ q)[n]? with | some b, some p => couldB _ b p | _, _ => false) = true
        rw [hget j bb hj, List.getElem?_append_left (List.getElem?_eq_some_iff.1 hn).1, hn]
        simp only
        unfold couldB dayB weightB within at h ⊢
        simp only [Bool.and_eq_true, decide_eq_true_eq] at h ⊢
        show ((lo ≤ _ ∧ _ ≤ hi) ∧ (_ ≤ _ ∧ p.weight - wear ≤ _)) ∧ _
        by_cases hij : i = j
        · subst hij
          rw [hb] at hj; cases hj
          rw [if_pos rfl]
          have := hseal p (List.mem_of_getElem? hn) h.2
          exact ⟨⟨by rw [hday]; omega, by omega⟩, this⟩
        · rw [if_neg hij]
          exact ⟨⟨by omega, by omega⟩, h.2⟩
  · unfold valueOf
    show (match (d.ps ++ q)[n]? with | some p => p.value | none => 0) = _
    rw [List.getElem?_append_left h]
    rfl
theorem moreX_check {d : Desk} (hc : d.check = true) {lo hi wear : Int} {ps : List Parcel} {tp : Tok} {i : Nat} {b : Box} (hs : isSpan lo hi 0 400 = true) (hw : within wear 0 5000 = true) (hn : ps.length ≤ 8) (hps : ps.all okParcel = true) (hb : okBox b = true) : (moreX d lo hi wear ps tp i b).check = true := by
  simp only [Desk.check, Bool.and_eq_true] at hc
  simp only [Desk.check, moreX, Bool.and_eq_true, List.length_set]
  refine ⟨⟨⟨⟨⟨⟨hs, hw⟩, hc.1.1.1.1.2⟩, decide_eq_true hn⟩, hc.1.1.2⟩, hps⟩, ?_⟩
  rw [List.all_eq_true]
  intro x hx
  rcases List.mem_or_eq_of_mem_set hx with h | h
  · exact List.all_eq_true.1 hc.2 x h
  · subst h; exact hb

theorem put_row {e : Nat} : ∀ (rows : List (List AV)) (i : Nat) (row : List AV), (∀ r ∈ rows, r.length = e) → i < rows.length → row.length = e → putAt rows.flatten (i * e) row = (rows.set i row).flatten
  | [], i, row, _, h, _ => by simp at h
  | r :: rows, 0, row, hr, h, he => by
    have h1 := hr r (by simp)
    simp only [Nat.zero_mul, List.flatten_cons, List.set_cons_zero, putAt, List.take_zero, List.nil_append, Nat.zero_add]
    rw [he, ← h1, List.drop_left']
    rfl
  | r :: rows, i + 1, row, hr, h, he => by
    have h1 := hr r (by simp)
    have ih := put_row rows i row (fun q hq => hr q (by simp [hq])) (by simpa using h) he
    simp only [putAt, List.flatten_cons, List.set_cons_succ] at *
    rw [← ih]
    have e1 : (i + 1) * e = r.length + i * e := by rw [h1, Nat.succ_mul]; omega
    rw [e1, List.take_append, List.take_of_length_le (by omega), show r.length + i * e - r.length = i * e by omega, List.drop_append, List.drop_of_length_le (by omega), show r.length + i * e + row.length - r.length = i * e + row.length by omega]
    simp
theorem box_row {bs : List Box} {i : Nat} {b : Box} (h : i < bs.length) : putAt (bs.map Box.c).flatten (Nat.add 0 (Nat.mul i 5)) b.c = ((bs.set i b).map Box.c).flatten := by
  rw [show Nat.add 0 (Nat.mul i 5) = i * 5 by simp, put_row _ _ _ box_len (by simpa using h) rfl, List.map_set]
theorem box_row_room {bs : List Box} {i : Nat} (h : i < bs.length) : Nat.ble (Nat.add (Nat.add 0 (Nat.mul i 5)) 5) (lenK (bs.map Box.c).flatten) = true := by
  rw [lenK_eq, flat_len5 _ box_len, List.length_map, Nat.ble_eq]
  show 0 + i * 5 + 5 ≤ bs.length * 5
  omega

theorem a11_L1_step {B : Bnd} (hB : B = Bk) {cl : CallK} {rd : RoundK} (L M : List Int) (hL : L.length ≤ 1000000000000000) {tm : Tok} (htm : purTok tm = true) (H39 : ∀ z : Int, cl 0 39 [.sl (rowsI M) tm, .int .i64 z] [] ansK = some (.int .i64 (placeI M z 0), []))
    (n : Nat) (s : St) (k : Ex → Env → St → Ans) (r : Ans) :
    ∀ (j i0 : Nat) (t : Tok), purTok t = true → L.length < i0 + j → i0 ≤ L.length → (∀ z ∈ L.drop i0, z ∈ M) → (∀ e, k (.exit 1) e s = r) →
    B.loop (evCK B a11_L1) [6, 11, 13, 19] n j cl rd Gx 0 1 [(6, .bool false), (11, .sl (rowsI L) t), (13, .sl (rowsI M) tm), (19, .int .i64 (.ofNat i0))] s k = r := by
  intro j
  induction j with
  | zero => intro i0 t ht h1 h2; omega
  | succ j ih =>
    intro i0 t ht h1 h2 hin k1
    refine loop_succ hB ?_
    conv => lhs; whnf
    refine Qf hB ?_
    conv => lhs; whnf
    refine lt_nat hB (fun h => ?_) (fun h => ?_) <;> conv => lhs; whnf
    · have hx : (rowsI L)[i0]? = some [.int .i64 L[i0]] := by simp [rowsI, h]
      have hdr : L.drop i0 = L[i0] :: L.drop (i0 + 1) := List.drop_eq_getElem_cons h
      rw [hdr] at hin
      generalize L[i0] = y at hx hdr hin
      have hy : ¬ placeI M y 0 < 0 := fun h => (place_lt (by omega)).1 h (hin y (List.mem_cons_self ..))
      repeat' ((first | refine QC hB (m := i0) rfl ?_ | refine QB hB hx ?_ | refine Qv hB htm ?_ | refine Q0 hB (by simp [purs, pur, htm]) ?_ | refine Qx hB (H39 y) ?_ | refine Q2 hB hy ?_ | refine Q0 hB rfl ?_ | refine Q1 hB (by decide) ?_ | refine Q2 hB (by decide) ?_ | refine Q3 hB (by decide) ?_ | refine Q4 hB (by decide) ?_ | refine Q5 hB (by decide) ?_ | refine Q6 hB (by decide) ?_ | refine Q7 hB (by omega) (by omega) ?_ | refine Q8 hB ?_ | refine Q9 hB ?_ | refine Qa hB ?_ | refine Qb hB (fun _ => ?_) (fun _ => ?_) | refine Qc hB ?_ | refine Qd hB ?_ | refine Qe hB ?_ | refine Qf hB ?_ | refine Qg hB ?_ | refine Qh hB ?_ | refine Qi hB ?_ | refine Qj hB rfl ?_ | refine Qk hB rfl ?_ | refine Ql hB (by first | omega | decide) ?_ | refine Qm hB rfl ?_ | refine Qn hB ?_ | refine Qo hB rfl ?_ | refine Qo hB (Qp rfl) ?_ | refine Qq hB rfl ?_ | refine Qr hB ?_ | refine Qs hB ?_ | refine Qt hB ?_ | refine Qu hB ?_ | refine Qv hB rfl ?_) <;> conv => lhs; whnf)
      rw [clampTok_pur ht, clampTok_pur htm]
      exact ih (i0 + 1) t ht (by omega) (by omega) (fun z hz => hin z (List.mem_cons_of_mem _ hz)) k1
    · repeat' ((first | refine Q0 hB rfl ?_ | refine Q1 hB (by decide) ?_ | refine Q2 hB (by decide) ?_ | refine Q3 hB (by decide) ?_ | refine Q4 hB (by decide) ?_ | refine Q5 hB (by decide) ?_ | refine Q6 hB (by decide) ?_ | refine Q7 hB (by omega) (by omega) ?_ | refine Q8 hB ?_ | refine Q9 hB ?_ | refine Qa hB ?_ | refine Qb hB (fun _ => ?_) (fun _ => ?_) | refine Qc hB ?_ | refine Qd hB ?_ | refine Qe hB ?_ | refine Qf hB ?_ | refine Qg hB ?_ | refine Qh hB ?_ | refine Qi hB ?_ | refine Qj hB rfl ?_ | refine Qk hB rfl ?_ | refine Ql hB (by first | omega | decide) ?_ | refine Qm hB rfl ?_ | refine Qn hB ?_ | refine Qo hB rfl ?_ | refine Qo hB (Qp rfl) ?_ | refine Qq hB rfl ?_ | refine Qr hB ?_ | refine Qs hB ?_ | refine Qt hB ?_ | refine Qu hB ?_ | refine Qv hB rfl ?_) <;> conv => lhs; whnf)
      exact k1 _
end Go.Ab.Cl

namespace Go.Ab
theorem app_none {h : Nat} {s : St} {p e bytes : Nat} {r : List (List AV)} {t t2 : Tok} : appAt h s p e bytes (.sl r t) (.sl [] t2) = some (.sl r t, s) := by simp [appAt, rowsAt]
theorem app_full {h : Nat} {s : St} {p e bytes : Nat} {r ys : List (List AV)} {t2 : Tok} (hy : ys ≠ []) (hr : ∀ x ∈ r, x.length = e) (hys : ∀ x ∈ ys, x.length = e) (he : 0 < e) (hb : (r.length + ys.length) * bytes ≤ 140737488355328) (hp : ∀ x ∈ ys, purs x = true) :
    appAt h s p e bytes (.sl r .full) (.sl ys t2) = some (.sl (r ++ ys) (.site h p ((getTok s h p).1 + 1)), setTok s h p ((getTok s h p).1 + 1, r.length + ys.length)) := by
  have h1 : headFit e r = true := by cases r with | nil => rfl | cons a r => simp [headFit, hr a (by simp)]
  have h2 : headFit e ys = true := by cases ys with | nil => rfl | cons a r => simp [headFit, hys a (by simp)]
  have h3 : ys.all purs = true := List.all_eq_true.2 hp
  simp [appAt, rowsAt, hy, h1, h2, he, hb]
  intro x hx; exact hp x hx
theorem app_site {h l' p' g' : Nat} {s : St} {p e bytes : Nat} {r ys : List (List AV)} {t2 : Tok} (hg : getTok s l' p' = (g', r.length)) (hy : ys ≠ []) (hr : ∀ x ∈ r, x.length = e) (hys : ∀ x ∈ ys, x.length = e) (he : 0 < e) (hb : (r.length + ys.length) * bytes ≤ 140737488355328) (hp : ∀ x ∈ ys, purs x = true) :
    appAt h s p e bytes (.sl r (.site l' p' g')) (.sl ys t2) = some (.sl (r ++ ys) (.site l' p' g'), setTok s l' p' (g', r.length + ys.length)) := by
  have h1 : headFit e r = true := by cases r with | nil => rfl | cons a r => simp [headFit, hr a (by simp)]
  have h2 : headFit e ys = true := by cases ys with | nil => rfl | cons a r => simp [headFit, hys a (by simp)]
  simp [appAt, rowsAt, hy, h1, h2, he, hb, hg]
  intro x hx; exact hp x hx
theorem slice_to {e : Nat} {r : List (List AV)} {t : Tok} {z : Int} {m : Nat} (hz : z = (m : Int)) (hm : m ≤ r.length) (hr : ∀ x ∈ r, x.length = e) : ∃ t', sliceAV e (.sl r t) none (some (.int .i64 z)) none = some (.sl (r.take m) t') := by
  have h1 : headFit e r = true := by cases r with | nil => rfl | cons a r => simp [headFit, hr a (by simp)]
  have h0 : (0 : Int) ≤ (m : Int) := by omega
  subst hz
  simp [sliceAV, h1, optBound, bound, h0, hm]
theorem slice_from {e : Nat} {r : List (List AV)} {t : Tok} {z : Int} {m : Nat} (hz : z = (m : Int)) (hm : m ≤ r.length) (hr : ∀ x ∈ r, x.length = e) : ∃ t', sliceAV e (.sl r t) (some (.int .i64 z)) none none = some (.sl (r.drop m) t') := by
  have h1 : headFit e r = true := by cases r with | nil => rfl | cons a r => simp [headFit, hr a (by simp)]
  have h0 : (0 : Int) ≤ (m : Int) := by omega
  subst hz
  simp [sliceAV, h1, optBound, bound, h0, hm]
end Go.Ab
namespace Go.Ab.Cl
open Go.Ab
theorem parcel_len {ps : List Parcel} : ∀ r ∈ ps.map Parcel.c, r.length = 4 := by
  intro r hr
  obtain ⟨b, _, rfl⟩ := List.mem_map.1 hr
  rfl
theorem parcel_pur {ps : List Parcel} : ∀ r ∈ ps.map Parcel.c, purs r = true := by
  intro r hr
  obtain ⟨b, _, rfl⟩ := List.mem_map.1 hr
  rfl
theorem box_pur1 {bs : List Box} : ∀ r ∈ bs.map Box.c, purs r = true := fun r hr => (box_pur r hr).2

theorem tok_set {T : List (Nat × Nat × Nat)} {p : Nat} {x : Nat × Nat} (q : Nat) : tokGet (tokSet T p x) q = if p = q then x else tokGet T q := by
  induction T with
  | nil => simp [tokSet, tokGet]
  | cons y T ih =>
    obtain ⟨r, y⟩ := y
    simp only [tokSet]
    by_cases h : r = p
    · subst h
      rw [if_pos rfl]
      simp only [tokGet]
      split <;> rfl
    · rw [if_neg h]
      simp only [tokGet]
      by_cases h2 : r = q
      · subst h2
        rw [if_pos rfl, if_pos rfl, if_neg (fun e => h e.symm)]
      · rw [if_neg h2, if_neg h2, ih]
theorem get_tok {os : List AObj} {T : List (Nat × Nat × Nat)} {p : Nat} : getTok [⟨os, T⟩] 0 p = tokGet T p := rfl
theorem set_tok {os : List AObj} {T : List (Nat × Nat × Nat)} {p : Nat} {x : Nat × Nat} : setTok [⟨os, T⟩] 0 p x = [⟨os, tokSet T p x⟩] := rfl

/-- Two lists, one appended behind the other one into a new array: the rights. -/
def oneT (p : Nat) (a : List (List AV)) : Tok := if a = [] then .full else .site 0 p 1
def oneS (T : List (Nat × Nat × Nat)) (p : Nat) (a : List (List AV)) : List (Nat × Nat × Nat) := if a = [] then T else tokSet T p (1, a.length)
def twoT (p q : Nat) (a b : List (List AV)) : Tok := if b = [] then oneT p a else if a = [] then .site 0 q 1 else .site 0 p 1
def twoS (T : List (Nat × Nat × Nat)) (p q : Nat) (a b : List (List AV)) : List (Nat × Nat × Nat) := if b = [] then oneS T p a else if a = [] then tokSet T q (1, b.length) else tokSet (tokSet T p (1, a.length)) p (1, a.length + b.length)
theorem join_one {os : List AObj} {T : List (Nat × Nat × Nat)} {p e bytes : Nat} {a : List (List AV)} {t2 : Tok} (hp : tokGet T p = (0, 0)) (ha : ∀ x ∈ a, x.length = e) (he : 0 < e) (hb : a.length * bytes ≤ 140737488355328) (hu : ∀ x ∈ a, purs x = true) :
    appAt 0 [⟨os, T⟩] p e bytes (.sl [] .full) (.sl a t2) = some (.sl a (oneT p a), [⟨os, oneS T p a⟩]) := by
  unfold oneT oneS
  by_cases h : a = []
  · subst h; rw [app_none]; rfl
  · rw [app_full h (fun x hx => by cases hx) ha he (by simpa using hb) hu, get_tok, set_tok, hp, if_neg h, if_neg h]
    simp
theorem join_two {os : List AObj} {T : List (Nat × Nat × Nat)} {p q e bytes : Nat} {a b : List (List AV)} {t2 : Tok} (hq : tokGet T q = (0, 0)) (ha : ∀ x ∈ a, x.length = e) (hb : ∀ x ∈ b, x.length = e) (he : 0 < e) (hl : (a.length + b.length) * bytes ≤ 140737488355328) (hu : ∀ x ∈ b, purs x = true) :
    appAt 0 [⟨os, oneS T p a⟩] q e bytes (.sl a (oneT p a)) (.sl b t2) = some (.sl (a ++ b) (twoT p q a b), [⟨os, twoS T p q a b⟩]) := by
  unfold twoT twoS
  by_cases h : b = []
  · subst h; rw [app_none]; simp
  · rw [if_neg h, if_neg h]
    unfold oneT oneS
    by_cases h2 : a = []
    · subst h2
      simp only [if_true]
      rw [app_full h (fun x hx => by cases hx) hb he hl hu, get_tok, set_tok, hq]
      simp
    · rw [if_neg h2, if_neg h2, if_neg h2, if_neg h2]
      rw [app_site (by rw [get_tok, tok_set, if_pos rfl]) h ha hb he hl hu, set_tok]
theorem two_other {T : List (Nat × Nat × Nat)} {p q r : Nat} {a b : List (List AV)} (h1 : p ≠ r) (h2 : q ≠ r) : tokGet (twoS T p q a b) r = tokGet T r := by
  unfold twoS oneS
  split
  · split
    · rfl
    · rw [tok_set, if_neg h1]
  · split
    · rw [tok_set, if_neg h2]
    · rw [tok_set, if_neg h1, tok_set, if_neg h1]
theorem one_other {T : List (Nat × Nat × Nat)} {p r : Nat} {a : List (List AV)} (h1 : p ≠ r) : tokGet (oneS T p a) r = tokGet T r := by
  unfold oneS
  split
  · rfl
  · rw [tok_set, if_neg h1]
theorem tok_er {B : Bnd} (hB : B = Bk) {r : Ans} {t : Tok} {k : Tok → Ans} (h : k (eraseTok t) = r) : B.tok t k = r := by
  subst hB; show tokK t k = r; rw [tokK_eq]; exact h
theorem er_pur (t : Tok) : purTok (eraseTok t) = true := by cases t <;> rfl

/-- A desk without a box; and without a parcel. -/
def lessB (d : Desk) (i : Nat) (tb : Tok) : Desk := { d with bs := d.bs.take i ++ d.bs.drop (i + 1), tb := tb }
def lessP (d : Desk) (k : Nat) (tp : Tok) : Desk := { d with ps := d.ps.take k ++ d.ps.drop (k + 1), tp := tp }

theorem lessB_ok {d : Desk} (hd : d.ok) {i : Nat} {tb : Tok} (ht : purTok tb = true) : (lessB d i tb).ok where
  tp := hd.tp
  tb := ht
  ps := hd.ps
  bs := by have := hd.bs; simp [lessB]; omega
  str b hb := by
    rcases List.mem_append.1 hb with h | h
    · exact hd.str b (List.mem_of_mem_take h)
    · exact hd.str b (List.mem_of_mem_drop h)
theorem lessP_ok {d : Desk} (hd : d.ok) {k : Nat} {tp : Tok} (ht : purTok tp = true) : (lessP d k tp).ok where
  tp := ht
  tb := hd.tb
  ps := by have := hd.ps; simp [lessP]; omega
  bs := hd.bs
  str := hd.str

theorem less_ev {n : Nat} (hn : 2 ≤ n) (d : Desk) (hd : d.ok) (h6 : d.bs.length ≤ 6) (h8 : d.ps.length ≤ 8) (i : Nat) (hi : i < d.bs.length) {zi : Int} (hzi : zi = (i : Int)) :
    ∃ tb, purTok tb = true ∧ (evKR Bk Gx fsT n).1 0 44 [d.v, .int .i64 zi, .int .i64 (-1)] [] ansK = some ((lessB d i tb).v, []) := by
  obtain ⟨t1, ht1⟩ := slice_to (e := 5) (r := d.bs.map Box.c) (t := d.tb) hzi (by simp; omega) box_len
  obtain ⟨t2, ht2⟩ := slice_from (e := 5) (r := d.bs.map Box.c) (t := d.tb) (z := zi + 1) (m := i + 1) (by omega) (by simp; omega) box_len
  rw [← List.map_take] at ht1
  rw [← List.map_drop] at ht2
  refine ⟨eraseTok (twoT 14 20 ((d.bs.take i).map Box.c) ((d.bs.drop (i + 1)).map Box.c)), er_pur _, ?_⟩
  refine call_open (show fsT.find 44 = some a44 from rfl) (by omega) fun n' B cl rd hn' hB hcl hrd => ?_
  conv => lhs; whnf
  repeat' ((first | refine Qw hB ?_ | refine Qv hB hd.tp ?_ | refine Qv hB hd.tb ?_ | refine Qm hB ht1 ?_ | refine Qm hB ht2 ?_ | refine Qq hB (join_one (t2 := t1) (T := []) (p := 14) (a := (d.bs.take i).map Box.c) rfl box_len (by omega) (by simp; omega) box_pur1) ?_ | refine Qq hB (join_two (t2 := t2) (T := []) (p := 14) (q := 20) (a := (d.bs.take i).map Box.c) (b := (d.bs.drop (i + 1)).map Box.c) rfl box_len box_len (by omega) (by simp; omega) box_pur1) ?_ | refine add_step hB (by omega) (by omega) ?_ | refine Q2 hB (by omega) ?_ | refine Q4 hB (by omega) ?_ | refine tok_er hB ?_ | refine Q0 hB rfl ?_ | refine Q1 hB (by decide) ?_ | refine Q2 hB (by decide) ?_ | refine Q3 hB (by decide) ?_ | refine Q4 hB (by decide) ?_ | refine Q5 hB (by decide) ?_ | refine Q6 hB (by decide) ?_ | refine Q7 hB (by omega) (by omega) ?_ | refine Q8 hB ?_ | refine Q9 hB ?_ | refine Qa hB ?_ | refine Qb hB (fun _ => ?_) (fun _ => ?_) | refine Qc hB ?_ | refine Qd hB ?_ | refine Qe hB ?_ | refine Qf hB ?_ | refine Qg hB ?_ | refine Qh hB ?_ | refine Qi hB ?_ | refine Qj hB rfl ?_ | refine Qk hB rfl ?_ | refine Ql hB (by first | omega | decide) ?_ | refine Qm hB rfl ?_ | refine Qn hB ?_ | refine Qo hB rfl ?_ | refine Qo hB (Qp rfl) ?_ | refine Qq hB rfl ?_ | refine Qr hB ?_ | refine Qs hB ?_ | refine Qt hB ?_ | refine Qu hB ?_ | refine Qv hB rfl ?_) <;> conv => lhs; whnf)
  simp [lessB, Desk.v, Desk.c]
theorem lessk_ev {n : Nat} (hn : 2 ≤ n) (d : Desk) (hd : d.ok) (h6 : d.bs.length ≤ 6) (h8 : d.ps.length ≤ 8) (i k : Nat) (hi : i < d.bs.length) (hk : k < d.ps.length) {zi zk : Int} (hzi : zi = (i : Int)) (hzk : zk = (k : Int)) :
    ∃ tb tp, purTok tb = true ∧ purTok tp = true ∧ (evKR Bk Gx fsT n).1 0 44 [d.v, .int .i64 zi, .int .i64 zk] [] ansK = some ((lessP (lessB d i tb) k tp).v, []) := by
  obtain ⟨t1, ht1⟩ := slice_to (e := 5) (r := d.bs.map Box.c) (t := d.tb) hzi (by simp; omega) box_len
  obtain ⟨t2, ht2⟩ := slice_from (e := 5) (r := d.bs.map Box.c) (t := d.tb) (z := zi + 1) (m := i + 1) (by omega) (by simp; omega) box_len
  obtain ⟨t3, ht3⟩ := slice_to (e := 4) (r := d.ps.map Parcel.c) (t := d.tp) hzk (by simp; omega) parcel_len
  obtain ⟨t4, ht4⟩ := slice_from (e := 4) (r := d.ps.map Parcel.c) (t := d.tp) (z := zk + 1) (m := k + 1) (by omega) (by simp; omega) parcel_len
  rw [← List.map_take] at ht1 ht3
  rw [← List.map_drop] at ht2 ht4
  refine ⟨eraseTok (twoT 14 20 ((d.bs.take i).map Box.c) ((d.bs.drop (i + 1)).map Box.c)), eraseTok (twoT 29 35 ((d.ps.take k).map Parcel.c) ((d.ps.drop (k + 1)).map Parcel.c)), er_pur _, er_pur _, ?_⟩
  refine call_open (show fsT.find 44 = some a44 from rfl) (by omega) fun n' B cl rd hn' hB hcl hrd => ?_
  conv => lhs; whnf
  repeat' ((first | refine Qw hB ?_ | refine Qv hB hd.tp ?_ | refine Qv hB hd.tb ?_ | refine Qm hB ht1 ?_ | refine Qm hB ht2 ?_ | refine Qm hB ht3 ?_ | refine Qm hB ht4 ?_ | refine Qq hB (join_one (t2 := t1) (T := []) (p := 14) (a := (d.bs.take i).map Box.c) rfl box_len (by omega) (by simp; omega) box_pur1) ?_ | refine Qq hB (join_two (t2 := t2) (T := []) (p := 14) (q := 20) (a := (d.bs.take i).map Box.c) (b := (d.bs.drop (i + 1)).map Box.c) rfl box_len box_len (by omega) (by simp; omega) box_pur1) ?_ | refine Qq hB (join_one (t2 := t3) (T := twoS [] 14 20 ((d.bs.take i).map Box.c) ((d.bs.drop (i + 1)).map Box.c)) (p := 29) (a := (d.ps.take k).map Parcel.c) (by rw [two_other (by decide) (by decide)]; rfl) parcel_len (by omega) (by simp; omega) parcel_pur) ?_ | refine Qq hB (join_two (t2 := t4) (T := twoS [] 14 20 ((d.bs.take i).map Box.c) ((d.bs.drop (i + 1)).map Box.c)) (p := 29) (q := 35) (a := (d.ps.take k).map Parcel.c) (b := (d.ps.drop (k + 1)).map Parcel.c) (by rw [two_other (by decide) (by decide)]; rfl) parcel_len parcel_len (by omega) (by simp; omega) parcel_pur) ?_ | refine add_step hB (by omega) (by omega) ?_ | refine Q3 hB (by omega) ?_ | refine tok_er hB ?_ | refine Q0 hB rfl ?_ | refine Q1 hB (by decide) ?_ | refine Q2 hB (by decide) ?_ | refine Q3 hB (by decide) ?_ | refine Q4 hB (by decide) ?_ | refine Q5 hB (by decide) ?_ | refine Q6 hB (by decide) ?_ | refine Q7 hB (by omega) (by omega) ?_ | refine Q8 hB ?_ | refine Q9 hB ?_ | refine Qa hB ?_ | refine Qb hB (fun _ => ?_) (fun _ => ?_) | refine Qc hB ?_ | refine Qd hB ?_ | refine Qe hB ?_ | refine Qf hB ?_ | refine Qg hB ?_ | refine Qh hB ?_ | refine Qi hB ?_ | refine Qj hB rfl ?_ | refine Qk hB rfl ?_ | refine Ql hB (by first | omega | decide) ?_ | refine Qm hB rfl ?_ | refine Qn hB ?_ | refine Qo hB rfl ?_ | refine Qo hB (Qp rfl) ?_ | refine Qq hB rfl ?_ | refine Qr hB ?_ | refine Qs hB ?_ | refine Qt hB ?_ | refine Qu hB ?_ | refine Qv hB rfl ?_) <;> conv => lhs; whnf)
  simp [lessB, lessP, Desk.v, Desk.c]
theorem strange_ev {n : Nat} (hn : 2 ≤ n) (d : Desk) (hd : d.ok) (z : Int) : (evKR Bk Gx fsT n).1 0 45 [d.v, .int .i64 z] [] ansK = some ((dS d z).v, []) := by
  refine call_open (show fsT.find 45 = some a45 from rfl) (by omega) fun n' B cl rd hn' hB hcl hrd => ?_
  conv => lhs; whnf
  repeat' ((first | refine Qw hB ?_ | refine Qv hB hd.tp ?_ | refine Qv hB hd.tb ?_ | refine Q0 hB rfl ?_ | refine Q1 hB (by decide) ?_ | refine Q2 hB (by decide) ?_ | refine Q3 hB (by decide) ?_ | refine Q4 hB (by decide) ?_ | refine Q5 hB (by decide) ?_ | refine Q6 hB (by decide) ?_ | refine Q7 hB (by omega) (by omega) ?_ | refine Q8 hB ?_ | refine Q9 hB ?_ | refine Qa hB ?_ | refine Qb hB (fun _ => ?_) (fun _ => ?_) | refine Qc hB ?_ | refine Qd hB ?_ | refine Qe hB ?_ | refine Qf hB ?_ | refine Qg hB ?_ | refine Qh hB ?_ | refine Qi hB ?_ | refine Qj hB rfl ?_ | refine Qk hB rfl ?_ | refine Ql hB (by first | omega | decide) ?_ | refine Qm hB rfl ?_ | refine Qn hB ?_ | refine Qo hB rfl ?_ | refine Qo hB (Qp rfl) ?_ | refine Qq hB rfl ?_ | refine Qr hB ?_ | refine Qs hB ?_ | refine Qt hB ?_ | refine Qu hB ?_ | refine Qv hB rfl ?_) <;> conv => lhs; whnf)
  all_goals rfl
end Go.Ab.Cl

namespace Go.Ab.Cl
open Go.Ab

/-- Boxes without some stamps. -/
def Box.uns (b : Box) (c : Bool) : Box := { b with stamp := b.stamp && !c }
def unsB (bs : List Box) (f : Nat → Bool) : List Box := bs.mapIdx fun i b => b.uns (f i)
def unS (d : Desk) (f : Nat → Bool) (tb : Tok) : Desk := { d with bs := unsB d.bs f, tb := tb }
def tW (d : Desk) (f : Nat → Bool) : Bool := trueB (unS d f .any)
def stampB (d : Desk) (i : Nat) : Bool := match d.bs[i]? with
  | some b => b.stamp
  | none => false

theorem unsB_len (bs : List Box) (f : Nat → Bool) : (unsB bs f).length = bs.length := by simp [unsB]
theorem unsB_get (bs : List Box) (f : Nat → Bool) (i : Nat) : (unsB bs f)[i]? = (bs[i]?).map fun b => b.uns (f i) := by simp [unsB]
theorem unsB_congr {bs : List Box} {f g : Nat → Bool} (h : ∀ i, i < bs.length → f i = g i) : unsB bs f = unsB bs g := by
  refine List.ext_getElem? fun i => ?_
  rw [unsB_get, unsB_get]
  by_cases hi : i < bs.length
  · rw [h i hi]
  · rw [List.getElem?_eq_none (by omega)]; rfl
theorem uns_same (b : Box) : b.uns false = b := by simp [Box.uns]
theorem unsB_none (bs : List Box) {f : Nat → Bool} (h : ∀ i, i < bs.length → f i = false) : unsB bs f = bs := by
  refine List.ext_getElem? fun i => ?_
  rw [unsB_get]
  by_cases hi : i < bs.length
  · rw [h i hi, List.getElem?_eq_getElem hi]
    simp [uns_same]
  · rw [List.getElem?_eq_none (by omega)]; rfl
theorem tW_congr {d : Desk} {f g : Nat → Bool} (h : ∀ i, i < d.bs.length → f i = g i) : tW d f = tW d g := by
  unfold tW unS
  rw [unsB_congr h]
theorem uns_box (b : Box) (c : Bool) : okBox (b.uns c) = okBox b := rfl
theorem unS_check (d : Desk) (f : Nat → Bool) (tb : Tok) : (unS d f tb).check = d.check := by
  have e : (unS d f tb).check = (isSpan d.lo d.hi 0 400 && within d.wear 0 5000 && within d.strange 0 6 && decide (d.ps.length ≤ 8) && decide ((unsB d.bs f).length ≤ 6) && d.ps.all okParcel && (unsB d.bs f).all okBox) := rfl
  have e2 : d.check = (isSpan d.lo d.hi 0 400 && within d.wear 0 5000 && within d.strange 0 6 && decide (d.ps.length ≤ 8) && decide (d.bs.length ≤ 6) && d.ps.all okParcel && d.bs.all okBox) := rfl
  have h : (unsB d.bs f).all okBox = d.bs.all okBox := by
    rw [Bool.eq_iff_iff, List.all_eq_true, List.all_eq_true]
    constructor
    · intro h b hb
      obtain ⟨i, hi, rfl⟩ := List.mem_iff_getElem.1 hb
      have : (unsB d.bs f)[i]? = some (d.bs[i].uns (f i)) := by rw [unsB_get, List.getElem?_eq_getElem hi]; rfl
      have := h _ (List.mem_of_getElem? this)
      rwa [uns_box] at this
    · intro h b hb
      obtain ⟨i, hi, rfl⟩ := List.mem_iff_getElem.1 hb
      have hi2 : i < d.bs.length := by rw [unsB_len] at hi; exact hi
      have : (unsB d.bs f)[i]? = some (d.bs[i].uns (f i)) := by rw [unsB_get, List.getElem?_eq_getElem hi2]; rfl
      rw [List.getElem?_eq_getElem hi] at this
      rw [Option.some.inj this, uns_box]
      exact h _ (List.getElem_mem _)
  rw [e, e2, unsB_len, h]
theorem unS_ok {d : Desk} (hd : d.ok) {f : Nat → Bool} {tb : Tok} (ht : purTok tb = true) : (unS d f tb).ok where
  tp := hd.tp
  tb := ht
  ps := hd.ps
  bs := by have := hd.bs; simpa [unS, unsB_len] using this
  str b hb := by
    obtain ⟨i, hi, rfl⟩ := List.mem_iff_getElem.1 hb
    have hi : i < (unsB d.bs f).length := hi
    have hi2 : i < d.bs.length := by rw [unsB_len] at hi; exact hi
    have : (unsB d.bs f)[i]? = some (d.bs[i].uns (f i)) := by rw [unsB_get, List.getElem?_eq_getElem hi2]; rfl
    rw [List.getElem?_eq_getElem hi] at this
    show (unsB d.bs f)[i].mark.length ≤ _
    rw [Option.some.inj this]
    show (d.bs[i]).mark.length ≤ _
    exact hd.str _ (List.getElem_mem _)
theorem tW_tok {d : Desk} (hc : d.check = true) (f : Nat → Bool) (tb : Tok) : trueB (unS d f tb) = tW d f := by
  unfold tW
  rw [Bool.eq_iff_iff, true_iff (by rw [unS_check]; exact hc), true_iff (by rw [unS_check]; exact hc)]
  exact ⟨fun ⟨l, h⟩ => ⟨l, h.len, h.ok, h.inj, h.few⟩, fun ⟨l, h⟩ => ⟨l, h.len, h.ok, h.inj, h.few⟩⟩

/-! ### choices -/
def inL (l : List Nat) (i : Nat) : Bool := decide (i ∈ l)
def chooseV (d : Desk) : Nat → Nat → List Nat → Option (List Nat)
  | 0, _, l => if tW d (inL l) = true then some l else none
  | m + 1, j, l => (List.range' j (d.bs.length - j)).findSome? fun k => if stampB d k = true then chooseV d m (k + 1) (l ++ [k]) else none
def Asc (d : Desk) : Nat → List Nat → Prop
  | _, [] => True
  | j, k :: l => j ≤ k ∧ k < d.bs.length ∧ stampB d k = true ∧ Asc d (k + 1) l
def aheadN : List Nat → List Nat → Bool
  | [], [] => false
  | [], _ :: _ => true
  | _ :: _, [] => false
  | x :: a, y :: b => if x = y then aheadN a b else decide (x < y)

theorem Asc.weaken {d : Desk} : ∀ {l : List Nat} {j j' : Nat}, Asc d j l → j' ≤ j → Asc d j' l
  | [], _, _, _, _ => trivial
  | _ :: _, _, _, ⟨h1, h2⟩, h => ⟨by omega, h2⟩
theorem Asc.len {d : Desk} : ∀ {l : List Nat} {j : Nat}, Asc d j l → j ≤ d.bs.length → l.length + j ≤ d.bs.length
  | [], _, _, h => by simpa using h
  | k :: l, j, ⟨h1, h2, _, h3⟩, h => by
    have := Asc.len h3 (by omega)
    simp only [List.length_cons]; omega
theorem Asc.mem {d : Desk} : ∀ {l : List Nat} {j : Nat}, Asc d j l → ∀ x ∈ l, j ≤ x ∧ x < d.bs.length ∧ stampB d x = true
  | [], _, _, x, hx => by cases hx
  | k :: l, j, ⟨h1, h2, h3, h4⟩, x, hx => by
    rcases List.mem_cons.1 hx with rfl | hx
    · exact ⟨h1, h2, h3⟩
    · have := Asc.mem h4 x hx
      exact ⟨by omega, this.2⟩

def ChSpec (d : Desk) (m j : Nat) (l : List Nat) (o : Option (List Nat)) : Prop :=
  (o = none ∧ ∀ l2, l2.length = m → Asc d j l2 → tW d (inL (l ++ l2)) = false) ∨
  (∃ l2, o = some (l ++ l2) ∧ l2.length = m ∧ Asc d j l2 ∧ tW d (inL (l ++ l2)) = true ∧ ∀ l3, l3.length = m → Asc d j l3 → tW d (inL (l ++ l3)) = true → l2 = l3 ∨ aheadN l2 l3 = true)
theorem choose_spec (d : Desk) : ∀ (m j : Nat) (l : List Nat), ChSpec d m j l (chooseV d m j l)
  | 0, j, l => by
    unfold chooseV
    split
    · rename_i h
      exact .inr ⟨[], by simp, rfl, trivial, by simpa using h, fun l3 h3 _ _ => .inl (List.length_eq_zero_iff.1 h3).symm⟩
    · rename_i h
      refine .inl ⟨rfl, fun l2 h2 _ => ?_⟩
      obtain rfl := List.length_eq_zero_iff.1 h2
      simpa using h
  | m + 1, j, l => by
    have key : ∀ (c j : Nat), d.bs.length - j = c → ChSpec d (m + 1) j l ((List.range' j c).findSome? fun k => if stampB d k = true then chooseV d m (k + 1) (l ++ [k]) else none) := by
      intro c
      induction c with
      | zero =>
        intro j hj
        refine .inl ⟨rfl, fun l2 h2 ha => ?_⟩
        cases l2 with
        | nil => simp at h2
        | cons k l2 => have := ha.1; have := ha.2.1; omega
      | succ c ih =>
        intro j hj
        have hrest := ih (j + 1) (by omega)
        rw [List.range'_succ, List.findSome?_cons]
        have hskip : (∀ l2, l2.length = m → Asc d (j + 1) l2 → stampB d j = true → tW d (inL (l ++ j :: l2)) = false) → ChSpec d (m + 1) j l ((List.range' (j + 1) c).findSome? fun k => if stampB d k = true then chooseV d m (k + 1) (l ++ [k]) else none) := by
          intro hno
          rcases hrest with ⟨h1, h2⟩ | ⟨l2, h1, h2, h3, h4, h5⟩
          · refine .inl ⟨h1, fun l2 hl ha => ?_⟩
            cases l2 with
            | nil => simp at hl
            | cons k l2 =>
              obtain ⟨a1, a2, a3, a4⟩ := ha
              by_cases hk : k = j
              · subst hk; exact hno l2 (by simpa using hl) a4 a3
              · exact h2 (k :: l2) hl ⟨by omega, a2, a3, a4⟩
          · refine .inr ⟨l2, h1, h2, h3.weaken (by omega), h4, fun l3 hl ha ht => ?_⟩
            cases l3 with
            | nil => simp at hl
            | cons k l3 =>
              obtain ⟨a1, a2, a3, a4⟩ := ha
              by_cases hk : k = j
              · subst hk
                rw [hno l3 (by simpa using hl) a4 a3] at ht
                cases ht
              · exact h5 (k :: l3) hl ⟨by omega, a2, a3, a4⟩ ht
        by_cases hs : stampB d j = true
        · simp only [hs, if_true]
          rcases choose_spec d m (j + 1) (l ++ [j]) with ⟨h1, h2⟩ | ⟨l2, h1, h2, h3, h4, h5⟩
          · rw [h1]
            refine hskip fun l2 hl ha _ => ?_
            have := h2 l2 hl ha
            rwa [List.append_assoc] at this
          · rw [h1]
            rw [List.append_assoc] at h4
            refine .inr ⟨j :: l2, by simp, by simp [h2], ⟨Nat.le_refl _, by omega, hs, h3⟩, h4, fun l3 hl ha ht => ?_⟩
            cases l3 with
            | nil => simp at hl
            | cons k l3 =>
              obtain ⟨a1, a2, a3, a4⟩ := ha
              by_cases hk : j = k
              · subst hk
                have := h5 l3 (by simpa using hl) a4 (by rw [List.append_assoc]; exact ht)
                rcases this with rfl | h
                · exact .inl rfl
                · exact .inr (by simp [aheadN, h])
              · refine .inr ?_
                simp only [aheadN, if_neg hk, decide_eq_true_eq]; omega
        · simp only [hs]
          exact hskip fun l2 _ _ h => absurd h hs
    exact key _ j rfl

/-- A choice of stamps without which all can be true. -/
def Cand (d : Desk) (l : List Nat) : Prop := Asc d 0 l ∧ tW d (inL l) = true
def lessL (a b : List Nat) : Bool := decide (a.length < b.length) || (decide (a.length = b.length) && aheadN a b)
def Least (d : Desk) (o : Option (List Nat)) : Prop := (o = none ∧ ∀ l, ¬ Cand d l) ∨ ∃ l, o = some l ∧ Cand d l ∧ ∀ l', Cand d l' → l = l' ∨ lessL l l' = true
def wrongV (d : Desk) : Option (List Nat) := (List.range' 0 (d.bs.length + 1)).findSome? fun m => chooseV d m 0 []
theorem wrong_least (d : Desk) : Least d (wrongV d) := by
  have key : ∀ (c j : Nat), j + c = d.bs.length + 1 → (∀ l, Cand d l → j ≤ l.length) → Least d ((List.range' j c).findSome? fun m => chooseV d m 0 []) := by
    intro c
    induction c with
    | zero =>
      intro j hj hno
      refine .inl ⟨rfl, fun l hl => ?_⟩
      have h1 := hno l hl
      have := hl.1.len (by omega)
      omega
    | succ c ih =>
      intro j hj hno
      rw [List.range'_succ, List.findSome?_cons]
      rcases choose_spec d j 0 [] with ⟨h1, h2⟩ | ⟨l2, h1, h2, h3, h4, h5⟩
      · rw [h1]
        refine ih (j + 1) (by omega) fun l hl => ?_
        have := hno l hl
        rcases Nat.lt_or_ge j l.length with h | h
        · omega
        · have h := h2 l (by omega) hl.1
          rw [List.nil_append, hl.2] at h
          cases h
      · rw [h1]
        refine .inr ⟨l2, by simp, ⟨h3, by simpa using h4⟩, fun l' hl => ?_⟩
        have := hno l' hl
        rcases Nat.lt_or_ge j l'.length with h | h
        · exact .inr (by simp [lessL]; omega)
        · rcases h5 l' (by omega) hl.1 (by simpa using hl.2) with h6 | h6
          · exact .inl h6
          · exact .inr (by simp [lessL, h6]; omega)
  exact key _ 0 (by omega) fun _ _ => Nat.zero_le _

theorem ahead_irr : ∀ a : List Nat, aheadN a a = false
  | [] => rfl
  | x :: a => by simp [aheadN, ahead_irr a]
theorem ahead_asym : ∀ {a b : List Nat}, aheadN a b = true → aheadN b a = false
  | [], [], h => by cases h
  | [], _ :: _, _ => rfl
  | _ :: _, [], h => by cases h
  | x :: a, y :: b, h => by
    simp only [aheadN] at h ⊢
    split at h
    · rename_i e; rw [if_pos e.symm]; exact ahead_asym h
    · rename_i e
      rw [if_neg (fun e' => e e'.symm)]
      simp at h ⊢; omega
theorem ahead_trans : ∀ {a b c : List Nat}, aheadN a b = true → aheadN b c = true → aheadN a c = true
  | [], [], _, h, _ => by cases h
  | [], _ :: _, [], _, h => by cases h
  | [], _ :: _, _ :: _, _, _ => rfl
  | _ :: _, [], _, h, _ => by cases h
  | _ :: _, _ :: _, [], _, h => by cases h
  | x :: a, y :: b, z :: c, h, h' => by
    simp only [aheadN] at h h' ⊢
    split at h
    · rename_i e
      subst e
      split at h'
      · rename_i e; rw [if_pos e]; exact ahead_trans h h'
      · rename_i e; rw [if_neg e]; exact h'
    · rename_i e
      split at h'
      · rename_i e2; subst e2; rw [if_neg e]; exact h
      · rename_i e2
        simp at h h'
        rw [if_neg (by omega)]
        simp; omega
theorem ahead_total : ∀ (a b : List Nat), a.length = b.length → aheadN a b = true ∨ a = b ∨ aheadN b a = true
  | [], [], _ => .inr (.inl rfl)
  | x :: a, y :: b, h => by
    simp only [aheadN]
    by_cases e : x = y
    · subst e
      rw [if_pos rfl, if_pos rfl]
      rcases ahead_total a b (by simpa using h) with h | h | h
      · exact .inl h
      · exact .inr (.inl (by rw [h]))
      · exact .inr (.inr h)
    · rw [if_neg e, if_neg fun e' => e e'.symm]
      simp only [decide_eq_true_eq]
      omega
theorem less_iff {a b : List Nat} : lessL a b = true ↔ a.length < b.length ∨ (a.length = b.length ∧ aheadN a b = true) := by
  simp [lessL]
theorem less_asym {a b : List Nat} (h : lessL a b = true) : lessL b a = false := by
  rw [less_iff] at h
  rw [← Bool.not_eq_true, less_iff]
  rintro h'
  rcases h with h | ⟨h1, h2⟩
  · omega
  · rcases h' with h' | ⟨_, h'⟩
    · omega
    · rw [ahead_asym h2] at h'; cases h'
theorem less_trans {a b c : List Nat} (h : lessL a b = true) (h' : lessL b c = true) : lessL a c = true := by
  rw [less_iff] at *
  rcases h with h | ⟨h1, h2⟩
  · rcases h' with h' | ⟨h3, h4⟩
    · exact .inl (by omega)
    · exact .inl (by omega)
  · rcases h' with h' | ⟨h3, h4⟩
    · exact .inl (by omega)
    · exact .inr ⟨by omega, ahead_trans h2 h4⟩
theorem less_total (a b : List Nat) : lessL a b = true ∨ a = b ∨ lessL b a = true := by
  rcases Nat.lt_trichotomy a.length b.length with h | h | h
  · exact .inl (less_iff.2 (.inl h))
  · rcases ahead_total a b h with h1 | h1 | h1
    · exact .inl (less_iff.2 (.inr ⟨h, h1⟩))
    · exact .inr (.inl h1)
    · exact .inr (.inr (less_iff.2 (.inr ⟨h.symm, h1⟩)))
  · exact .inr (.inr (less_iff.2 (.inl h)))
theorem least_one {d : Desk} {o o' : Option (List Nat)} (h : Least d o) (h' : Least d o') : o = o' := by
  rcases h with ⟨rfl, h⟩ | ⟨l, rfl, h1, h2⟩
  · rcases h' with ⟨rfl, _⟩ | ⟨l', rfl, h3, _⟩
    · rfl
    · exact absurd h3 (h l')
  · rcases h' with ⟨rfl, h⟩ | ⟨l', rfl, h3, h4⟩
    · exact absurd h1 (h l)
    · rcases h2 l' h3 with rfl | h5
      · rfl
      · rcases h4 l h1 with rfl | h6
        · rfl
        · rw [less_asym h5] at h6; cases h6
end Go.Ab.Cl
