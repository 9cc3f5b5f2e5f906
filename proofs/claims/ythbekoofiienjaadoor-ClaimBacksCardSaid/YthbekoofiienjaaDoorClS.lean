/-
  The claims: ClaimCould, on the abstract machine.
-/
import Derived.Test.YthbekoofiienjaaDoorClG
import Derived.Test.YthbekoofiienjaaDoorWk
import Derived.Test.YthbekoofiienjaaDoorClQ
namespace Go.Ab.Cl
open Go.Ab

theorem a9_L1_two {G : Nat → List AV} {B : Bnd} (hB : B = Bk) {cl : CallK} {rd : RoundK} (d : Desk) (b : Box) (p : Parcel) (n0 n1 v5 v6 : AV) (own : List UInt8) (hl : b.mark.length ≤ own.length) (hl2 : own.length ≤ 100) (x5 x6 x10 m0 m1 : Int) (is : Bool) (n : Nat) (k : Ex → Env → St → Ans) (r : Ans) :
    ∀ (j i : Nat) (ok : Bool), b.mark.length < i + j → i ≤ b.mark.length →
    ((ok && agree (b.mark.drop i) (own.drop i)) = true → k (.exit 0) [(2, .ptr 0 0 0), (3, .ptr 0 1 0), (5, .int .i64 x5), (6, .int .i64 x6), (7, .ptr 0 2 0), (9, .bool is), (10, .int .i64 x10), (11, .bool true), (12, .str own), (13, .int .i64 (.ofNat b.mark.length))] [⟨[.cells d.c, .cells [.int .i64 m0, .int .i64 m1], .cells b.c, .cells p.c], []⟩] = r) →
    ((ok && agree (b.mark.drop i) (own.drop i)) = false → k (.exit 0) [(2, .ptr 0 0 0), (3, .ptr 0 1 0), (5, .int .i64 x5), (6, .int .i64 x6), (7, .ptr 0 2 0), (9, .bool is), (10, .int .i64 x10), (11, .bool false), (12, .str own), (13, .int .i64 (.ofNat b.mark.length))] [⟨[.cells d.c, .cells [.int .i64 m0, .int .i64 m1], .cells b.c, .cells p.c], []⟩] = r) →
    B.loop (evCK B a9_L1) [2, 3, 5, 6, 7, 9, 10, 11, 12, 13] n j cl rd G 0 1 [(2, .ptr 0 0 0), (3, .ptr 0 1 0), (5, .int .i64 x5), (6, .int .i64 x6), (7, .ptr 0 2 0), (9, .bool is), (10, .int .i64 x10), (11, .bool ok), (12, .str own), (13, .int .i64 (.ofNat i))] [⟨[.cells d.c, .cells [.int .i64 m0, .int .i64 m1], .cells b.c, .cells p.c], []⟩] k = r := by
  intro j
  induction j with
  | zero => intro i ok h1 h2; omega
  | succ j ih =>
    intro i ok h1 h2 k1 k2
    refine loop_succ hB ?_
    conv => lhs; whnf
    repeat' ((first | refine purs_step hB rfl ?_ | refine lt_tt hB (by decide) ?_ | refine lt_ff hB (by decide) ?_ | refine le_tt hB (by decide) ?_ | refine le_ff hB (by decide) ?_ | refine eq_tt hB (by decide) ?_ | refine eq_ff hB (by decide) ?_ | refine fint_wrp hB (by omega) (by omega) ?_ | refine fint_step hB ?_ | refine fbool_tt hB ?_ | refine fbool_ff hB ?_ | refine fbool_split hB (fun _ => ?_) (fun _ => ?_) | refine ftok_step hB ?_ | refine frows_step hB ?_ | refine fstr_step hB ?_ | refine len_map hB ?_ | refine len_step hB ?_ | refine lens_step hB ?_ | refine byte_step hB ?_ | refine drop_step hB rfl ?_ | refine fl_step hB rfl ?_ | refine add_one hB (by first | omega | decide) ?_ | refine opt_step hB rfl ?_ | refine fnat_step hB ?_ | refine ifk_step hB rfl ?_ | refine ifk_step hB (flat_or rfl) ?_ | refine opt2_step hB rfl ?_ | refine obj_raw hB ?_ | refine sob_raw hB ?_ | refine fst_raw hB ?_ | refine optl_raw hB ?_ | refine tok_step hB rfl ?_) <;> conv => lhs; whnf)
    refine lt_nat hB (fun h => ?_) (fun h => ?_) <;> conv => lhs; whnf
    · have hx : b.mark[i]? = some b.mark[i] := by simp [h]
      have hy : own[i]? = some (own[i]'(by omega)) := by simp
      have hd : b.mark.drop i = b.mark[i] :: b.mark.drop (i + 1) := List.drop_eq_getElem_cons h
      have hd2 : own.drop i = (own[i]'(by omega)) :: own.drop (i + 1) := List.drop_eq_getElem_cons (by omega)
      rw [hd, hd2] at k1 k2
      generalize b.mark[i] = c at hx k1 k2
      generalize (own[i]'(by omega)) = o at hy k1 k2
      cases ok
      · repeat' ((first | refine natOf_step hB (m := i) rfl ?_ | refine nthb_step hB hx ?_ | refine purs_step hB rfl ?_ | refine lt_tt hB (by decide) ?_ | refine lt_ff hB (by decide) ?_ | refine le_tt hB (by decide) ?_ | refine le_ff hB (by decide) ?_ | refine eq_tt hB (by decide) ?_ | refine eq_ff hB (by decide) ?_ | refine fint_wrp hB (by omega) (by omega) ?_ | refine fint_step hB ?_ | refine fbool_tt hB ?_ | refine fbool_ff hB ?_ | refine fbool_split hB (fun _ => ?_) (fun _ => ?_) | refine ftok_step hB ?_ | refine frows_step hB ?_ | refine fstr_step hB ?_ | refine len_map hB ?_ | refine len_step hB ?_ | refine lens_step hB ?_ | refine byte_step hB ?_ | refine drop_step hB rfl ?_ | refine fl_step hB rfl ?_ | refine add_one hB (by first | omega | decide) ?_ | refine opt_step hB rfl ?_ | refine fnat_step hB ?_ | refine ifk_step hB rfl ?_ | refine ifk_step hB (flat_or rfl) ?_ | refine opt2_step hB rfl ?_ | refine obj_raw hB ?_ | refine sob_raw hB ?_ | refine fst_raw hB ?_ | refine optl_raw hB ?_ | refine tok_step hB rfl ?_) <;> conv => lhs; whnf)
        refine ih (i + 1) false (by omega) (by omega) (fun h => k1 ?_) (fun h => k2 ?_)
        · simp at h
        · simp
      · repeat' ((first | refine natOf_step hB (m := i) rfl ?_ | refine nthb_step hB hx ?_ | refine nthb_step hB hy ?_ | refine eq_split hB (fun _ => ?_) (fun _ => ?_) | refine purs_step hB rfl ?_ | refine lt_tt hB (by decide) ?_ | refine lt_ff hB (by decide) ?_ | refine le_tt hB (by decide) ?_ | refine le_ff hB (by decide) ?_ | refine eq_tt hB (by decide) ?_ | refine eq_ff hB (by decide) ?_ | refine fint_wrp hB (by omega) (by omega) ?_ | refine fint_step hB ?_ | refine fbool_tt hB ?_ | refine fbool_ff hB ?_ | refine fbool_split hB (fun _ => ?_) (fun _ => ?_) | refine ftok_step hB ?_ | refine frows_step hB ?_ | refine fstr_step hB ?_ | refine len_map hB ?_ | refine len_step hB ?_ | refine lens_step hB ?_ | refine byte_step hB ?_ | refine drop_step hB rfl ?_ | refine fl_step hB rfl ?_ | refine add_one hB (by first | omega | decide) ?_ | refine opt_step hB rfl ?_ | refine fnat_step hB ?_ | refine ifk_step hB rfl ?_ | refine ifk_step hB (flat_or rfl) ?_ | refine opt2_step hB rfl ?_ | refine obj_raw hB ?_ | refine sob_raw hB ?_ | refine fst_raw hB ?_ | refine optl_raw hB ?_ | refine tok_step hB rfl ?_) <;> conv => lhs; whnf)
        · have hb : agree (c :: b.mark.drop (i + 1)) (o :: own.drop (i + 1)) = agree (b.mark.drop (i + 1)) (own.drop (i + 1)) := by clear ih k1 k2; simp_all [agree]
          rw [hb] at k1 k2
          (repeat' ((refine ifk_step hB rfl ?_) <;> conv => lhs; whnf))
          exact ih (i + 1) true (by omega) (by omega) k1 k2
        · have hb : agree (c :: b.mark.drop (i + 1)) (o :: own.drop (i + 1)) = agree (b.mark.drop (i + 1)) (own.drop (i + 1)) := by clear ih k1 k2; simp_all [agree]
          rw [hb] at k1 k2
          (repeat' ((refine ifk_step hB rfl ?_) <;> conv => lhs; whnf))
          exact ih (i + 1) true (by omega) (by omega) k1 k2
        · have hb : agree (c :: b.mark.drop (i + 1)) (o :: own.drop (i + 1)) = false := by clear ih k1 k2; simp_all [agree]
          rw [hb] at k2
          (repeat' ((refine ifk_step hB rfl ?_) <;> conv => lhs; whnf))
          exact ih (i + 1) false (by omega) (by omega) (fun h => by simp at h) (fun _ => k2 rfl)
    · have hi : i = b.mark.length := by omega
      have hz : b.mark.drop i = [] := by rw [hi]; simp
      rw [hz] at k1 k2
      rw [hi]
      cases ok
      · (repeat' ((refine ifk_step hB rfl ?_) <;> conv => lhs; whnf))
        exact k2 rfl
      · (repeat' ((refine ifk_step hB rfl ?_) <;> conv => lhs; whnf))
        exact k1 (by simp [agree])

theorem box_put2 {bs : List Box} {i : Nat} {b : Box} (hb : bs[i]? = some b) (m : List UInt8) : putAt (bs.map Box.c).flatten (Nat.add (Nat.add 0 (Nat.mul i 5)) 3) [.str m] = ((bs.set i { b with mark := m }).map Box.c).flatten := by
  rw [show Nat.add (Nat.add 0 (Nat.mul i 5)) 3 = i * 5 + 3 by simp]
  exact box_put hb m
theorem box_lt {bs : List Box} {i : Nat} (h : i < bs.length) : Nat.ble (Nat.succ i) (bs.map Box.c).length = true := by
  rw [Nat.ble_eq, List.length_map]; exact h
theorem box_room {bs : List Box} {i : Nat} (h : i < bs.length) : Nat.ble (Nat.add (Nat.add (Nat.add 0 (Nat.mul i 5)) 3) 1) (lenK (bs.map Box.c).flatten) = true := by
  rw [lenK_eq, flat_len5 _ box_len, List.length_map, Nat.ble_eq]
  show 0 + i * 5 + 3 + 1 ≤ bs.length * 5
  omega
end Go.Ab.Cl

namespace Go.Ab.Cl
open Go.Ab

/-- A desk of which all that was true is true. -/
structure Wider (d x : Desk) : Prop where
  len : x.bs.length = d.bs.length
  odd : ∀ i, oddB d i = true → oddB x i = true
  str : d.strange ≤ x.strange
  fit : ∀ i n, fit0 d i n = true → fit0 x i n = true
  val : ∀ n, n < d.ps.length → valueOf x n = valueOf d n
  ps : d.ps.length ≤ x.ps.length
theorem Tr_wider {d x : Desk} (hw : Wider d x) {l : List Int} (h : Tr d l) : Tr x l where
  len := by rw [hw.len]; exact h.len
  ok i k hk := by
    rcases h.ok i k hk with ⟨h1, h2⟩ | ⟨n, h1, h2⟩
    · exact .inl ⟨h1, hw.odd i h2⟩
    · exact .inr ⟨n, h1, hw.fit i n h2⟩
  inj := h.inj
  few := Int.le_trans h.few hw.str
theorem val_same {d x : Desk} (hv : ∀ n, n < d.ps.length → valueOf x n = valueOf d n) : ∀ {l : List Int}, (∀ k ∈ l, k = -1 ∨ ∃ n : Nat, k = (n : Int) ∧ n < d.ps.length) → val x l = val d l
  | [], _ => rfl
  | k :: l, h => by
    simp only [val]
    rw [val_same hv (fun k hk => h k (List.mem_cons_of_mem _ hk))]
    rcases h k (List.mem_cons_self ..) with h1 | ⟨n, h1, h2⟩
    · simp [h1]
    · subst h1
      have hn : ¬ ((n : Int) = -1) := by omega
      rw [if_neg hn, if_neg hn, Int.toNat_natCast, hv n h2]
theorem Tr_mem {d : Desk} {l : List Int} (h : Tr d l) : ∀ k ∈ l, k = -1 ∨ ∃ n : Nat, k = (n : Int) ∧ n < d.ps.length := by
  intro k hk
  obtain ⟨i, hi⟩ := List.mem_iff_getElem?.1 hk
  rcases h.ok i k hi with ⟨h1, _⟩ | ⟨n, h1, h2⟩
  · exact .inl h1
  · exact .inr ⟨n, h1, (fit_lt h2).2⟩
theorem val_wider {d x : Desk} (hw : Wider d x) {l : List Int} (h : Tr d l) : val x l = val d l := val_same hw.val (Tr_mem h)
section
variable {d x : Desk} (hw : Wider d x) (hc : d.check = true) (hx : x.check = true)
include hw hc hx
theorem wider_true (h : trueB d = true) : trueB x = true := by
  obtain ⟨l, hl⟩ := (true_iff hc).1 h
  exact (true_iff hx).2 ⟨l, Tr_wider hw hl⟩
theorem wider_can {b : Nat} (hb : b < d.bs.length) {k : Int} (h : canB d (b : Int) k = true) : canB x (b : Int) k = true := by
  obtain ⟨l, hl, h2⟩ := (can_iff hc hb).1 h
  exact (can_iff hx (by rw [hw.len]; exact hb)).2 ⟨l, Tr_wider hw hl, h2⟩
theorem wider_worth (h : trueB d = true) : innerB (worthLo d) (worthHi d) (worthLo x) (worthHi x) = true := by
  obtain ⟨⟨l1, h1, e1⟩, ⟨l2, h2, e2⟩, _⟩ := worth_spec hc h
  obtain ⟨_, _, h3⟩ := worth_spec hx (wider_true hw hc hx h)
  have k1 := h3 l1 (Tr_wider hw h1)
  have k2 := h3 l2 (Tr_wider hw h2)
  rw [val_wider hw h1] at k1
  rw [val_wider hw h2] at k2
  simp only [innerB, Bool.and_eq_true, decide_eq_true_eq]
  omega
end
theorem whichFrom_mem {d : Desk} {z k : Int} : k ∈ whichFrom d z 0 ↔ ∃ n : Nat, k = (n : Int) ∧ n < d.ps.length ∧ canB d z (n : Int) = true := by
  unfold whichFrom
  simp only [List.mem_map, List.mem_filter, List.mem_range']
  constructor
  · rintro ⟨n, ⟨⟨m, h1, h2⟩, h3⟩, rfl⟩; exact ⟨n, rfl, by omega, h3⟩
  · rintro ⟨n, rfl, h1, h2⟩; exact ⟨n, ⟨⟨n, by omega, by omega⟩, h2⟩, rfl⟩
theorem wider_which {d x : Desk} (hw : Wider d x) (hc : d.check = true) (hx : x.check = true) {b : Nat} (hb : b < d.bs.length) : ∀ k ∈ whichFrom d (b : Int) 0, k ∈ whichFrom x (b : Int) 0 := by
  intro k hk
  obtain ⟨n, h1, h2, h3⟩ := whichFrom_mem.1 hk
  exact whichFrom_mem.2 ⟨n, h1, Nat.lt_of_lt_of_le h2 hw.ps, wider_can hw hc hx hb h3⟩

/-! ### what ClaimMore makes of a desk -/
def moreX (d : Desk) (lo hi wear : Int) (ps : List Parcel) (tp : Tok) (i : Nat) (b : Box) : Desk := ⟨lo, hi, wear, d.strange, ps, d.bs.set i b, tp, .any⟩
theorem moreX_ok {d : Desk} (hd : d.ok) {lo hi wear : Int} {ps : List Parcel} {tp : Tok} (htp : purTok tp = true) {i : Nat} {b : Box} (hps : ps.length ≤ 200000000000000) (hb : b.mark.length ≤ 1000) : (moreX d lo hi wear ps tp i b).ok where
  tp := htp
  tb := rfl
  ps := hps
  bs := by simpa [moreX] using hd.bs
  str b' hb' := by
    rcases List.mem_or_eq_of_mem_set hb' with h | h
    · exact hd.str b' h
    · subst h; omega
theorem moreX_wider {d : Desk} {lo hi wear : Int} {ps q : List Parcel} (hpq : ps = d.ps ++ q) {tp : Tok} {i : Nat} {b b' : Box} (hb : d.bs[i]? = some b) (hlo : lo ≤ d.lo) (hhi : d.hi ≤ hi) (hw : d.wear ≤ wear)
    (hday : b'.day = b.day) (hlow : b'.low ≤ b.low) (hhigh : b.high ≤ b'.high) (hst : b'.stamp = b.stamp) (hseal : ∀ p ∈ d.ps, sealB b p = true → sealB b' p = true) : Wider d (moreX d lo hi wear ps tp i b') := by
  subst hpq
  have hget : ∀ j bb, d.bs[j]? = some bb → (d.bs.set i b')[j]? = some (if i = j then b' else bb) := by
    intro j bb hj
    rw [List.getElem?_set]
    by_cases h : i = j
    · subst h
      rw [if_pos rfl, if_pos (List.getElem?_eq_some_iff.1 hj).1, if_pos rfl]
    · rw [if_neg h, if_neg h, hj]
  refine ⟨by simp [moreX], fun j h => ?_, Int.le_refl _, fun j n h => ?_, fun n h => ?_, by simp [moreX]⟩
  · unfold oddB at h ⊢
    cases hj : d.bs[j]? with
    | none => rw [hj] at h; cases h
    | some bb =>
      rw [hj] at h
      show (match (d.bs.set i b')[j]? with | some b => !b.stamp | none => false) = true
      rw [hget j bb hj]
      by_cases hij : i = j
      · subst hij
        rw [hb] at hj; cases hj
        rw [if_pos rfl, ]
        simp only at h ⊢
        rw [hst]; exact h
      · rw [if_neg hij]; exact h
  · unfold fit0 at h ⊢
    cases hj : d.bs[j]? with
    | none => rw [hj] at h; cases h
    | some bb =>
      cases hn : d.ps[n]? with
      | none => rw [hj, hn] at h; cases h
      | some p =>
        rw [hj, hn] at h
        simp only at h
        show (match (d.bs.set i b')[j]?, (d.ps ++ q)[n]? with | some b, some p => couldB _ b p | _, _ => false) = true
        rw [hget j bb hj, List.getElem?_append_left (List.getElem?_eq_some_iff.1 hn).1, hn]
        simp only
        unfold couldB dayB weightB within at h ⊢
        simp only [Bool.and_eq_true, decide_eq_true_eq] at h ⊢
        show ((lo ≤ _ ∧ _ ≤ hi) ∧ (_ ≤ _ ∧ p.weight - wear ≤ _)) ∧ _
        by_cases hij : i = j
        · subst hij
          rw [hb] at hj; cases hj
          rw [if_pos rfl]
          have := hseal p (List.mem_of_getElem? hn) h.2
          exact ⟨⟨by rw [hday]; omega, by omega⟩, this⟩
        · rw [if_neg hij]
          exact ⟨⟨by omega, by omega⟩, h.2⟩
  · unfold valueOf
    show (match (d.ps ++ q)[n]? with | some p => p.value | none => 0) = _
    rw [List.getElem?_append_left h]
    rfl
theorem moreX_check {d : Desk} (hc : d.check = true) {lo hi wear : Int} {ps : List Parcel} {tp : Tok} {i : Nat} {b : Box} (hs : isSpan lo hi 0 400 = true) (hw : within wear 0 5000 = true) (hn : ps.length ≤ 8) (hps : ps.all okParcel = true) (hb : okBox b = true) : (moreX d lo hi wear ps tp i b).check = true := by
  simp only [Desk.check, Bool.and_eq_true] at hc
  simp only [Desk.check, moreX, Bool.and_eq_true, List.length_set]
  refine ⟨⟨⟨⟨⟨⟨hs, hw⟩, hc.1.1.1.1.2⟩, decide_eq_true hn⟩, hc.1.1.2⟩, hps⟩, ?_⟩
  rw [List.all_eq_true]
  intro x hx
  rcases List.mem_or_eq_of_mem_set hx with h | h
  · exact List.all_eq_true.1 hc.2 x h
  · subst h; exact hb

theorem put_row {e : Nat} : ∀ (rows : List (List AV)) (i : Nat) (row : List AV), (∀ r ∈ rows, r.length = e) → i < rows.length → row.length = e → putAt rows.flatten (i * e) row = (rows.set i row).flatten
  | [], i, row, _, h, _ => by simp at h
  | r :: rows, 0, row, hr, h, he => by
    have h1 := hr r (by simp)
    simp only [Nat.zero_mul, List.flatten_cons, List.set_cons_zero, putAt, List.take_zero, List.nil_append, Nat.zero_add]
    rw [he, ← h1, List.drop_left']
    rfl
  | r :: rows, i + 1, row, hr, h, he => by
    have h1 := hr r (by simp)
    have ih := put_row rows i row (fun q hq => hr q (by simp [hq])) (by simpa using h) he
    simp only [putAt, List.flatten_cons, List.set_cons_succ] at *
    rw [← ih]
    have e1 : (i + 1) * e = r.length + i * e := by rw [h1, Nat.succ_mul]; omega
    rw [e1, List.take_append, List.take_of_length_le (by omega), show r.length + i * e - r.length = i * e by omega, List.drop_append, List.drop_of_length_le (by omega), show r.length + i * e + row.length - r.length = i * e + row.length by omega]
    simp
theorem box_row {bs : List Box} {i : Nat} {b : Box} (h : i < bs.length) : putAt (bs.map Box.c).flatten (Nat.add 0 (Nat.mul i 5)) b.c = ((bs.set i b).map Box.c).flatten := by
  rw [show Nat.add 0 (Nat.mul i 5) = i * 5 by simp, put_row _ _ _ box_len (by simpa using h) rfl, List.map_set]
theorem box_row_room {bs : List Box} {i : Nat} (h : i < bs.length) : Nat.ble (Nat.add (Nat.add 0 (Nat.mul i 5)) 5) (lenK (bs.map Box.c).flatten) = true := by
  rw [lenK_eq, flat_len5 _ box_len, List.length_map, Nat.ble_eq]
  show 0 + i * 5 + 5 ≤ bs.length * 5
  omega

theorem a11_L1_step {B : Bnd} (hB : B = Bk) {cl : CallK} {rd : RoundK} (L M : List Int) (hL : L.length ≤ 1000000000000000) {tm : Tok} (htm : purTok tm = true) (H39 : ∀ z : Int, cl 0 39 [.sl (rowsI M) tm, .int .i64 z] [] ansK = some (.int .i64 (placeI M z 0), []))
    (n : Nat) (s : St) (k : Ex → Env → St → Ans) (r : Ans) :
    ∀ (j i0 : Nat) (t : Tok), purTok t = true → L.length < i0 + j → i0 ≤ L.length → (∀ z ∈ L.drop i0, z ∈ M) → (∀ e, k (.exit 1) e s = r) →
    B.loop (evCK B a11_L1) [6, 11, 13, 19] n j cl rd Gx 0 1 [(6, .bool false), (11, .sl (rowsI L) t), (13, .sl (rowsI M) tm), (19, .int .i64 (.ofNat i0))] s k = r := by
  intro j
  induction j with
  | zero => intro i0 t ht h1 h2; omega
  | succ j ih =>
    intro i0 t ht h1 h2 hin k1
    refine loop_succ hB ?_
    conv => lhs; whnf
    refine len_map hB ?_
    conv => lhs; whnf
    refine lt_nat hB (fun h => ?_) (fun h => ?_) <;> conv => lhs; whnf
    · have hx : (rowsI L)[i0]? = some [.int .i64 L[i0]] := by simp [rowsI, h]
      have hdr : L.drop i0 = L[i0] :: L.drop (i0 + 1) := List.drop_eq_getElem_cons h
      rw [hdr] at hin
      generalize L[i0] = y at hx hdr hin
      have hy : ¬ placeI M y 0 < 0 := fun h => (place_lt (by omega)).1 h (hin y (List.mem_cons_self ..))
      repeat' ((first | refine natOf_step hB (m := i0) rfl ?_ | refine nth_step hB hx ?_ | refine tok_step hB htm ?_ | refine purs_step hB (by simp [purs, pur, htm]) ?_ | refine pans_step hB (H39 y) ?_ | refine lt_ff hB hy ?_ | refine purs_step hB rfl ?_ | refine lt_tt hB (by decide) ?_ | refine lt_ff hB (by decide) ?_ | refine le_tt hB (by decide) ?_ | refine le_ff hB (by decide) ?_ | refine eq_tt hB (by decide) ?_ | refine eq_ff hB (by decide) ?_ | refine fint_wrp hB (by omega) (by omega) ?_ | refine fint_step hB ?_ | refine fbool_tt hB ?_ | refine fbool_ff hB ?_ | refine fbool_split hB (fun _ => ?_) (fun _ => ?_) | refine ftok_step hB ?_ | refine frows_step hB ?_ | refine fstr_step hB ?_ | refine len_map hB ?_ | refine len_step hB ?_ | refine lens_step hB ?_ | refine byte_step hB ?_ | refine drop_step hB rfl ?_ | refine fl_step hB rfl ?_ | refine add_one hB (by first | omega | decide) ?_ | refine opt_step hB rfl ?_ | refine fnat_step hB ?_ | refine ifk_step hB rfl ?_ | refine ifk_step hB (flat_or rfl) ?_ | refine opt2_step hB rfl ?_ | refine obj_raw hB ?_ | refine sob_raw hB ?_ | refine fst_raw hB ?_ | refine optl_raw hB ?_ | refine tok_step hB rfl ?_) <;> conv => lhs; whnf)
      rw [clampTok_pur ht, clampTok_pur htm]
      exact ih (i0 + 1) t ht (by omega) (by omega) (fun z hz => hin z (List.mem_cons_of_mem _ hz)) k1
    · repeat' ((first | refine purs_step hB rfl ?_ | refine lt_tt hB (by decide) ?_ | refine lt_ff hB (by decide) ?_ | refine le_tt hB (by decide) ?_ | refine le_ff hB (by decide) ?_ | refine eq_tt hB (by decide) ?_ | refine eq_ff hB (by decide) ?_ | refine fint_wrp hB (by omega) (by omega) ?_ | refine fint_step hB ?_ | refine fbool_tt hB ?_ | refine fbool_ff hB ?_ | refine fbool_split hB (fun _ => ?_) (fun _ => ?_) | refine ftok_step hB ?_ | refine frows_step hB ?_ | refine fstr_step hB ?_ | refine len_map hB ?_ | refine len_step hB ?_ | refine lens_step hB ?_ | refine byte_step hB ?_ | refine drop_step hB rfl ?_ | refine fl_step hB rfl ?_ | refine add_one hB (by first | omega | decide) ?_ | refine opt_step hB rfl ?_ | refine fnat_step hB ?_ | refine ifk_step hB rfl ?_ | refine ifk_step hB (flat_or rfl) ?_ | refine opt2_step hB rfl ?_ | refine obj_raw hB ?_ | refine sob_raw hB ?_ | refine fst_raw hB ?_ | refine optl_raw hB ?_ | refine tok_step hB rfl ?_) <;> conv => lhs; whnf)
      exact k1 _
end Go.Ab.Cl

namespace Go.Ab
theorem app_none {h : Nat} {s : St} {p e bytes : Nat} {r : List (List AV)} {t t2 : Tok} : appAt h s p e bytes (.sl r t) (.sl [] t2) = some (.sl r t, s) := by simp [appAt, rowsAt]
theorem app_full {h : Nat} {s : St} {p e bytes : Nat} {r ys : List (List AV)} {t2 : Tok} (hy : ys ≠ []) (hr : ∀ x ∈ r, x.length = e) (hys : ∀ x ∈ ys, x.length = e) (he : 0 < e) (hb : (r.length + ys.length) * bytes ≤ 140737488355328) (hp : ∀ x ∈ ys, purs x = true) :
    appAt h s p e bytes (.sl r .full) (.sl ys t2) = some (.sl (r ++ ys) (.site h p ((getTok s h p).1 + 1)), setTok s h p ((getTok s h p).1 + 1, r.length + ys.length)) := by
  have h1 : headFit e r = true := by cases r with | nil => rfl | cons a r => simp [headFit, hr a (by simp)]
  have h2 : headFit e ys = true := by cases ys with | nil => rfl | cons a r => simp [headFit, hys a (by simp)]
  have h3 : ys.all purs = true := List.all_eq_true.2 hp
  simp [appAt, rowsAt, hy, h1, h2, he, hb]
  intro x hx; exact hp x hx
theorem app_site {h l' p' g' : Nat} {s : St} {p e bytes : Nat} {r ys : List (List AV)} {t2 : Tok} (hg : getTok s l' p' = (g', r.length)) (hy : ys ≠ []) (hr : ∀ x ∈ r, x.length = e) (hys : ∀ x ∈ ys, x.length = e) (he : 0 < e) (hb : (r.length + ys.length) * bytes ≤ 140737488355328) (hp : ∀ x ∈ ys, purs x = true) :
    appAt h s p e bytes (.sl r (.site l' p' g')) (.sl ys t2) = some (.sl (r ++ ys) (.site l' p' g'), setTok s l' p' (g', r.length + ys.length)) := by
  have h1 : headFit e r = true := by cases r with | nil => rfl | cons a r => simp [headFit, hr a (by simp)]
  have h2 : headFit e ys = true := by cases ys with | nil => rfl | cons a r => simp [headFit, hys a (by simp)]
  simp [appAt, rowsAt, hy, h1, h2, he, hb, hg]
  intro x hx; exact hp x hx
theorem slice_to {e : Nat} {r : List (List AV)} {t : Tok} {z : Int} {m : Nat} (hz : z = (m : Int)) (hm : m ≤ r.length) (hr : ∀ x ∈ r, x.length = e) : ∃ t', sliceAV e (.sl r t) none (some (.int .i64 z)) none = some (.sl (r.take m) t') := by
  have h1 : headFit e r = true := by cases r with | nil => rfl | cons a r => simp [headFit, hr a (by simp)]
  have h0 : (0 : Int) ≤ (m : Int) := by omega
  subst hz
  simp [sliceAV, h1, optBound, bound, h0, hm]
theorem slice_from {e : Nat} {r : List (List AV)} {t : Tok} {z : Int} {m : Nat} (hz : z = (m : Int)) (hm : m ≤ r.length) (hr : ∀ x ∈ r, x.length = e) : ∃ t', sliceAV e (.sl r t) (some (.int .i64 z)) none none = some (.sl (r.drop m) t') := by
  have h1 : headFit e r = true := by cases r with | nil => rfl | cons a r => simp [headFit, hr a (by simp)]
  have h0 : (0 : Int) ≤ (m : Int) := by omega
  subst hz
  simp [sliceAV, h1, optBound, bound, h0, hm]
end Go.Ab
namespace Go.Ab.Cl
open Go.Ab
theorem parcel_len {ps : List Parcel} : ∀ r ∈ ps.map Parcel.c, r.length = 4 := by
  intro r hr
  obtain ⟨b, _, rfl⟩ := List.mem_map.1 hr
  rfl
theorem parcel_pur {ps : List Parcel} : ∀ r ∈ ps.map Parcel.c, purs r = true := by
  intro r hr
  obtain ⟨b, _, rfl⟩ := List.mem_map.1 hr
  rfl
theorem box_pur1 {bs : List Box} : ∀ r ∈ bs.map Box.c, purs r = true := fun r hr => (box_pur r hr).2

theorem tok_set {T : List (Nat × Nat × Nat)} {p : Nat} {x : Nat × Nat} (q : Nat) : tokGet (tokSet T p x) q = if p = q then x else tokGet T q := by
  induction T with
  | nil => simp [tokSet, tokGet]
  | cons y T ih =>
    obtain ⟨r, y⟩ := y
    simp only [tokSet]
    by_cases h : r = p
    · subst h
      rw [if_pos rfl]
      simp only [tokGet]
      split <;> rfl
    · rw [if_neg h]
      simp only [tokGet]
      by_cases h2 : r = q
      · subst h2
        rw [if_pos rfl, if_pos rfl, if_neg (fun e => h e.symm)]
      · rw [if_neg h2, if_neg h2, ih]
theorem get_tok {os : List AObj} {T : List (Nat × Nat × Nat)} {p : Nat} : getTok [⟨os, T⟩] 0 p = tokGet T p := rfl
theorem set_tok {os : List AObj} {T : List (Nat × Nat × Nat)} {p : Nat} {x : Nat × Nat} : setTok [⟨os, T⟩] 0 p x = [⟨os, tokSet T p x⟩] := rfl

/-- Two lists, one appended behind the other one into a new array: the rights. -/
def oneT (p : Nat) (a : List (List AV)) : Tok := if a = [] then .full else .site 0 p 1
def oneS (T : List (Nat × Nat × Nat)) (p : Nat) (a : List (List AV)) : List (Nat × Nat × Nat) := if a = [] then T else tokSet T p (1, a.length)
def twoT (p q : Nat) (a b : List (List AV)) : Tok := if b = [] then oneT p a else if a = [] then .site 0 q 1 else .site 0 p 1
def twoS (T : List (Nat × Nat × Nat)) (p q : Nat) (a b : List (List AV)) : List (Nat × Nat × Nat) := if b = [] then oneS T p a else if a = [] then tokSet T q (1, b.length) else tokSet (tokSet T p (1, a.length)) p (1, a.length + b.length)
theorem join_one {os : List AObj} {T : List (Nat × Nat × Nat)} {p e bytes : Nat} {a : List (List AV)} {t2 : Tok} (hp : tokGet T p = (0, 0)) (ha : ∀ x ∈ a, x.length = e) (he : 0 < e) (hb : a.length * bytes ≤ 140737488355328) (hu : ∀ x ∈ a, purs x = true) :
    appAt 0 [⟨os, T⟩] p e bytes (.sl [] .full) (.sl a t2) = some (.sl a (oneT p a), [⟨os, oneS T p a⟩]) := by
  unfold oneT oneS
  by_cases h : a = []
  · subst h; rw [app_none]; rfl
  · rw [app_full h (fun x hx => by cases hx) ha he (by simpa using hb) hu, get_tok, set_tok, hp, if_neg h, if_neg h]
    simp
theorem join_two {os : List AObj} {T : List (Nat × Nat × Nat)} {p q e bytes : Nat} {a b : List (List AV)} {t2 : Tok} (hq : tokGet T q = (0, 0)) (ha : ∀ x ∈ a, x.length = e) (hb : ∀ x ∈ b, x.length = e) (he : 0 < e) (hl : (a.length + b.length) * bytes ≤ 140737488355328) (hu : ∀ x ∈ b, purs x = true) :
    appAt 0 [⟨os, oneS T p a⟩] q e bytes (.sl a (oneT p a)) (.sl b t2) = some (.sl (a ++ b) (twoT p q a b), [⟨os, twoS T p q a b⟩]) := by
  unfold twoT twoS
  by_cases h : b = []
  · subst h; rw [app_none]; simp
  · rw [if_neg h, if_neg h]
    unfold oneT oneS
    by_cases h2 : a = []
    · subst h2
      simp only [if_true]
      rw [app_full h (fun x hx => by cases hx) hb he hl hu, get_tok, set_tok, hq]
      simp
    · rw [if_neg h2, if_neg h2, if_neg h2, if_neg h2]
      rw [app_site (by rw [get_tok, tok_set, if_pos rfl]) h ha hb he hl hu, set_tok]
theorem two_other {T : List (Nat × Nat × Nat)} {p q r : Nat} {a b : List (List AV)} (h1 : p ≠ r) (h2 : q ≠ r) : tokGet (twoS T p q a b) r = tokGet T r := by
  unfold twoS oneS
  split
  · split
    · rfl
    · rw [tok_set, if_neg h1]
  · split
    · rw [tok_set, if_neg h2]
    · rw [tok_set, if_neg h1, tok_set, if_neg h1]
theorem one_other {T : List (Nat × Nat × Nat)} {p r : Nat} {a : List (List AV)} (h1 : p ≠ r) : tokGet (oneS T p a) r = tokGet T r := by
  unfold oneS
  split
  · rfl
  · rw [tok_set, if_neg h1]
theorem tok_er {B : Bnd} (hB : B = Bk) {r : Ans} {t : Tok} {k : Tok → Ans} (h : k (eraseTok t) = r) : B.tok t k = r := by
  subst hB; show tokK t k = r; rw [tokK_eq]; exact h
theorem er_pur (t : Tok) : purTok (eraseTok t) = true := by cases t <;> rfl

/-- A desk without a box; and without a parcel. -/
def lessB (d : Desk) (i : Nat) (tb : Tok) : Desk := { d with bs := d.bs.take i ++ d.bs.drop (i + 1), tb := tb }
def lessP (d : Desk) (k : Nat) (tp : Tok) : Desk := { d with ps := d.ps.take k ++ d.ps.drop (k + 1), tp := tp }

theorem lessB_ok {d : Desk} (hd : d.ok) {i : Nat} {tb : Tok} (ht : purTok tb = true) : (lessB d i tb).ok where
  tp := hd.tp
  tb := ht
  ps := hd.ps
  bs := by have := hd.bs; simp [lessB]; omega
  str b hb := by
    rcases List.mem_append.1 hb with h | h
    · exact hd.str b (List.mem_of_mem_take h)
    · exact hd.str b (List.mem_of_mem_drop h)
theorem lessP_ok {d : Desk} (hd : d.ok) {k : Nat} {tp : Tok} (ht : purTok tp = true) : (lessP d k tp).ok where
  tp := ht
  tb := hd.tb
  ps := by have := hd.ps; simp [lessP]; omega
  bs := hd.bs
  str := hd.str

theorem less_ev {n : Nat} (hn : 2 ≤ n) (d : Desk) (hd : d.ok) (h6 : d.bs.length ≤ 6) (h8 : d.ps.length ≤ 8) (i : Nat) (hi : i < d.bs.length) {zi : Int} (hzi : zi = (i : Int)) :
    ∃ tb, purTok tb = true ∧ (evKR Bk Gx fsT n).1 0 44 [d.v, .int .i64 zi, .int .i64 (-1)] [] ansK = some ((lessB d i tb).v, []) := by
  obtain ⟨t1, ht1⟩ := slice_to (e := 5) (r := d.bs.map Box.c) (t := d.tb) hzi (by simp; omega) box_len
  obtain ⟨t2, ht2⟩ := slice_from (e := 5) (r := d.bs.map Box.c) (t := d.tb) (z := zi + 1) (m := i + 1) (by omega) (by simp; omega) box_len
  rw [← List.map_take] at ht1
  rw [← List.map_drop] at ht2
  refine ⟨eraseTok (twoT 14 20 ((d.bs.take i).map Box.c) ((d.bs.drop (i + 1)).map Box.c)), er_pur _, ?_⟩
  refine call_open (show fsT.find 44 = some a44 from rfl) (by omega) fun n' B cl rd hn' hB hcl hrd => ?_
  conv => lhs; whnf
  repeat' ((first | refine fnat_pred hB ?_ | refine tok_step hB hd.tp ?_ | refine tok_step hB hd.tb ?_ | refine opt_step hB ht1 ?_ | refine opt_step hB ht2 ?_ | refine opt2_step hB (join_one (t2 := t1) (T := []) (p := 14) (a := (d.bs.take i).map Box.c) rfl box_len (by omega) (by simp; omega) box_pur1) ?_ | refine opt2_step hB (join_two (t2 := t2) (T := []) (p := 14) (q := 20) (a := (d.bs.take i).map Box.c) (b := (d.bs.drop (i + 1)).map Box.c) rfl box_len box_len (by omega) (by simp; omega) box_pur1) ?_ | refine add_step hB (by omega) (by omega) ?_ | refine lt_ff hB (by omega) ?_ | refine le_ff hB (by omega) ?_ | refine tok_er hB ?_ | refine purs_step hB rfl ?_ | refine lt_tt hB (by decide) ?_ | refine lt_ff hB (by decide) ?_ | refine le_tt hB (by decide) ?_ | refine le_ff hB (by decide) ?_ | refine eq_tt hB (by decide) ?_ | refine eq_ff hB (by decide) ?_ | refine fint_wrp hB (by omega) (by omega) ?_ | refine fint_step hB ?_ | refine fbool_tt hB ?_ | refine fbool_ff hB ?_ | refine fbool_split hB (fun _ => ?_) (fun _ => ?_) | refine ftok_step hB ?_ | refine frows_step hB ?_ | refine fstr_step hB ?_ | refine len_map hB ?_ | refine len_step hB ?_ | refine lens_step hB ?_ | refine byte_step hB ?_ | refine drop_step hB rfl ?_ | refine fl_step hB rfl ?_ | refine add_one hB (by first | omega | decide) ?_ | refine opt_step hB rfl ?_ | refine fnat_step hB ?_ | refine ifk_step hB rfl ?_ | refine ifk_step hB (flat_or rfl) ?_ | refine opt2_step hB rfl ?_ | refine obj_raw hB ?_ | refine sob_raw hB ?_ | refine fst_raw hB ?_ | refine optl_raw hB ?_ | refine tok_step hB rfl ?_) <;> conv => lhs; whnf)
  simp [lessB, Desk.v, Desk.c]
theorem lessk_ev {n : Nat} (hn : 2 ≤ n) (d : Desk) (hd : d.ok) (h6 : d.bs.length ≤ 6) (h8 : d.ps.length ≤ 8) (i k : Nat) (hi : i < d.bs.length) (hk : k < d.ps.length) {zi zk : Int} (hzi : zi = (i : Int)) (hzk : zk = (k : Int)) :
    ∃ tb tp, purTok tb = true ∧ purTok tp = true ∧ (evKR Bk Gx fsT n).1 0 44 [d.v, .int .i64 zi, .int .i64 zk] [] ansK = some ((lessP (lessB d i tb) k tp).v, []) := by
  obtain ⟨t1, ht1⟩ := slice_to (e := 5) (r := d.bs.map Box.c) (t := d.tb) hzi (by simp; omega) box_len
  obtain ⟨t2, ht2⟩ := slice_from (e := 5) (r := d.bs.map Box.c) (t := d.tb) (z := zi + 1) (m := i + 1) (by omega) (by simp; omega) box_len
  obtain ⟨t3, ht3⟩ := slice_to (e := 4) (r := d.ps.map Parcel.c) (t := d.tp) hzk (by simp; omega) parcel_len
  obtain ⟨t4, ht4⟩ := slice_from (e := 4) (r := d.ps.map Parcel.c) (t := d.tp) (z := zk + 1) (m := k + 1) (by omega) (by simp; omega) parcel_len
  rw [← List.map_take] at ht1 ht3
  rw [← List.map_drop] at ht2 ht4
  refine ⟨eraseTok (twoT 14 20 ((d.bs.take i).map Box.c) ((d.bs.drop (i + 1)).map Box.c)), eraseTok (twoT 29 35 ((d.ps.take k).map Parcel.c) ((d.ps.drop (k + 1)).map Parcel.c)), er_pur _, er_pur _, ?_⟩
  refine call_open (show fsT.find 44 = some a44 from rfl) (by omega) fun n' B cl rd hn' hB hcl hrd => ?_
  conv => lhs; whnf
  repeat' ((first | refine fnat_pred hB ?_ | refine tok_step hB hd.tp ?_ | refine tok_step hB hd.tb ?_ | refine opt_step hB ht1 ?_ | refine opt_step hB ht2 ?_ | refine opt_step hB ht3 ?_ | refine opt_step hB ht4 ?_ | refine opt2_step hB (join_one (t2 := t1) (T := []) (p := 14) (a := (d.bs.take i).map Box.c) rfl box_len (by omega) (by simp; omega) box_pur1) ?_ | refine opt2_step hB (join_two (t2 := t2) (T := []) (p := 14) (q := 20) (a := (d.bs.take i).map Box.c) (b := (d.bs.drop (i + 1)).map Box.c) rfl box_len box_len (by omega) (by simp; omega) box_pur1) ?_ | refine opt2_step hB (join_one (t2 := t3) (T := twoS [] 14 20 ((d.bs.take i).map Box.c) ((d.bs.drop (i + 1)).map Box.c)) (p := 29) (a := (d.ps.take k).map Parcel.c) (by rw [two_other (by decide) (by decide)]; rfl) parcel_len (by omega) (by simp; omega) parcel_pur) ?_ | refine opt2_step hB (join_two (t2 := t4) (T := twoS [] 14 20 ((d.bs.take i).map Box.c) ((d.bs.drop (i + 1)).map Box.c)) (p := 29) (q := 35) (a := (d.ps.take k).map Parcel.c) (b := (d.ps.drop (k + 1)).map Parcel.c) (by rw [two_other (by decide) (by decide)]; rfl) parcel_len parcel_len (by omega) (by simp; omega) parcel_pur) ?_ | refine add_step hB (by omega) (by omega) ?_ | refine le_tt hB (by omega) ?_ | refine tok_er hB ?_ | refine purs_step hB rfl ?_ | refine lt_tt hB (by decide) ?_ | refine lt_ff hB (by decide) ?_ | refine le_tt hB (by decide) ?_ | refine le_ff hB (by decide) ?_ | refine eq_tt hB (by decide) ?_ | refine eq_ff hB (by decide) ?_ | refine fint_wrp hB (by omega) (by omega) ?_ | refine fint_step hB ?_ | refine fbool_tt hB ?_ | refine fbool_ff hB ?_ | refine fbool_split hB (fun _ => ?_) (fun _ => ?_) | refine ftok_step hB ?_ | refine frows_step hB ?_ | refine fstr_step hB ?_ | refine len_map hB ?_ | refine len_step hB ?_ | refine lens_step hB ?_ | refine byte_step hB ?_ | refine drop_step hB rfl ?_ | refine fl_step hB rfl ?_ | refine add_one hB (by first | omega | decide) ?_ | refine opt_step hB rfl ?_ | refine fnat_step hB ?_ | refine ifk_step hB rfl ?_ | refine ifk_step hB (flat_or rfl) ?_ | refine opt2_step hB rfl ?_ | refine obj_raw hB ?_ | refine sob_raw hB ?_ | refine fst_raw hB ?_ | refine optl_raw hB ?_ | refine tok_step hB rfl ?_) <;> conv => lhs; whnf)
  simp [lessB, lessP, Desk.v, Desk.c]
theorem strange_ev {n : Nat} (hn : 2 ≤ n) (d : Desk) (hd : d.ok) (z : Int) : (evKR Bk Gx fsT n).1 0 45 [d.v, .int .i64 z] [] ansK = some ((dS d z).v, []) := by
  refine call_open (show fsT.find 45 = some a45 from rfl) (by omega) fun n' B cl rd hn' hB hcl hrd => ?_
  conv => lhs; whnf
  repeat' ((first | refine fnat_pred hB ?_ | refine tok_step hB hd.tp ?_ | refine tok_step hB hd.tb ?_ | refine purs_step hB rfl ?_ | refine lt_tt hB (by decide) ?_ | refine lt_ff hB (by decide) ?_ | refine le_tt hB (by decide) ?_ | refine le_ff hB (by decide) ?_ | refine eq_tt hB (by decide) ?_ | refine eq_ff hB (by decide) ?_ | refine fint_wrp hB (by omega) (by omega) ?_ | refine fint_step hB ?_ | refine fbool_tt hB ?_ | refine fbool_ff hB ?_ | refine fbool_split hB (fun _ => ?_) (fun _ => ?_) | refine ftok_step hB ?_ | refine frows_step hB ?_ | refine fstr_step hB ?_ | refine len_map hB ?_ | refine len_step hB ?_ | refine lens_step hB ?_ | refine byte_step hB ?_ | refine drop_step hB rfl ?_ | refine fl_step hB rfl ?_ | refine add_one hB (by first | omega | decide) ?_ | refine opt_step hB rfl ?_ | refine fnat_step hB ?_ | refine ifk_step hB rfl ?_ | refine ifk_step hB (flat_or rfl) ?_ | refine opt2_step hB rfl ?_ | refine obj_raw hB ?_ | refine sob_raw hB ?_ | refine fst_raw hB ?_ | refine optl_raw hB ?_ | refine tok_step hB rfl ?_) <;> conv => lhs; whnf)
  all_goals rfl
end Go.Ab.Cl

namespace Go.Ab.Cl
open Go.Ab

def up (i j : Nat) : Nat := if j < i then j else j + 1
theorem up_ne {i j : Nat} : up i j ≠ i := by unfold up; split <;> omega
theorem up_inj {i a b : Nat} (h : up i a = up i b) : a = b := by unfold up at h; split at h <;> split at h <;> omega
theorem up_or (i j : Nat) : j = i ∨ ∃ m, j = up i m := by
  by_cases h : j < i
  · exact .inr ⟨j, by simp [up, h]⟩
  · by_cases h2 : j = i
    · exact .inl h2
    · refine .inr ⟨j - 1, ?_⟩
      have : ¬ j - 1 < i := by omega
      simp [up, this]; omega
theorem cut_get {α : Type} {l : List α} {i : Nat} (j : Nat) : (l.take i ++ l.drop (i + 1))[j]? = l[up i j]? := by
  rw [← List.eraseIdx_eq_take_drop_succ, List.getElem?_eraseIdx]
  unfold up
  split <;> rfl

/-- An entry put in between others, which are changed. -/
def ins (i : Nat) (x0 : Int) (f : Int → Int) (l : List Int) : List Int := (l.take i).map f ++ x0 :: (l.drop i).map f
theorem ins_len {i : Nat} {x0 : Int} {f : Int → Int} {l : List Int} (hi : i ≤ l.length) : (ins i x0 f l).length = l.length + 1 := by
  simp [ins]; omega
theorem ins_at {i : Nat} {x0 : Int} {f : Int → Int} {l : List Int} (hi : i ≤ l.length) : (ins i x0 f l)[i]? = some x0 := by
  unfold ins
  rw [List.getElem?_append_right (by simp; omega)]
  simp [Nat.min_eq_left hi]
theorem ins_up {i : Nat} {x0 : Int} {f : Int → Int} {l : List Int} (hi : i ≤ l.length) (j : Nat) : (ins i x0 f l)[up i j]? = (l[j]?).map f := by
  unfold ins up
  by_cases h : j < i
  · rw [if_pos h, List.getElem?_append_left (by simp; omega)]
    simp [h]
  · rw [if_neg h, List.getElem?_append_right (by simp; omega)]
    simp only [List.length_map, List.length_take, Nat.min_eq_left hi]
    rw [show j + 1 - i = (j - i) + 1 by omega, List.getElem?_cons_succ]
    simp
    congr 2
    omega
theorem count_map {f : Int → Int} (hf : ∀ x, f x = -1 ↔ x = -1) (l : List Int) : (l.map f).count (-1) = l.count (-1) := by
  induction l with
  | nil => rfl
  | cons x l ih =>
    rw [List.map_cons, List.count_cons, List.count_cons, ih]
    by_cases h : x = -1
    · rw [(hf x).2 h, h]
    · have h2 : ¬ f x = -1 := fun e => h ((hf x).1 e)
      simp [h, h2]
theorem ins_count {i : Nat} {x0 : Int} {f : Int → Int} (hf : ∀ x, f x = -1 ↔ x = -1) {l : List Int} : (ins i x0 f l).count (-1) = l.count (-1) + (if x0 = -1 then 1 else 0) := by
  unfold ins
  rw [List.count_append, List.count_cons, count_map hf, count_map hf]
  have h : l.count (-1) = (l.take i).count (-1) + (l.drop i).count (-1) := by rw [← List.count_append, List.take_append_drop]
  rw [h]
  by_cases h : x0 = -1
  · simp [h]; omega
  · simp [h]

/-- How the entries of the lesser desk's truths are those of the other one's. -/
structure Lets (d d2 : Desk) (i : Nat) (x0 : Int) (f : Int → Int) (fn : Nat → Nat) : Prop where
  len : d2.bs.length + 1 = d.bs.length
  hi : i ≤ d2.bs.length
  odd : ∀ j, oddB d2 j = oddB d (up i j)
  neg : ∀ x, f x = -1 ↔ x = -1
  nat : ∀ n : Nat, f (n : Int) = (fn n : Nat)
  sur : ∀ x (n : Nat), f x = (n : Int) → ∃ m : Nat, x = (m : Int)
  inj : ∀ m n, fn m = fn n → m = n
  ne : ∀ n : Nat, x0 ≠ (fn n : Nat)
  fit : ∀ j n, fit0 d2 j n = fit0 d (up i j) (fn n)
  str : d2.strange + (if x0 = -1 then 1 else 0) = d.strange
  val : ∀ n, valueOf d2 n = valueOf d (fn n)

theorem Tr_ins {d d2 : Desk} {i : Nat} {x0 : Int} {f : Int → Int} {fn : Nat → Nat} (h : Lets d d2 i x0 f fn) {l : List Int} (hl : l.length = d2.bs.length) :
    Tr d (ins i x0 f l) ↔ ((x0 = -1 ∧ oddB d i = true) ∨ ∃ n : Nat, x0 = (n : Int) ∧ fit0 d i n = true) ∧ Tr d2 l := by
  have hi : i ≤ l.length := by rw [hl]; exact h.hi
  have hcount := ins_count (i := i) (x0 := x0) h.neg (l := l)
  constructor
  · intro ht
    refine ⟨ht.ok i x0 (ins_at hi), hl, fun j x hx => ?_, fun j1 j2 n h1 h2 => ?_, ?_⟩
    · have h1 : (ins i x0 f l)[up i j]? = some (f x) := by rw [ins_up hi, hx]; rfl
      rcases ht.ok _ _ h1 with ⟨h2, h3⟩ | ⟨n, h2, h3⟩
      · exact .inl ⟨(h.neg x).1 h2, by rw [h.odd]; exact h3⟩
      · obtain ⟨m, rfl⟩ := h.sur x n h2
        rw [h.nat] at h2
        have : fn m = n := by omega
        exact .inr ⟨m, rfl, by rw [h.fit, this]; exact h3⟩
    · have k1 : (ins i x0 f l)[up i j1]? = some ((fn n : Nat) : Int) := by rw [ins_up hi, h1, Option.map_some, h.nat]
      have k2 : (ins i x0 f l)[up i j2]? = some ((fn n : Nat) : Int) := by rw [ins_up hi, h2, Option.map_some, h.nat]
      exact up_inj (ht.inj _ _ _ k1 k2)
    · have a := ht.few
      have b := h.str
      rw [hcount] at a
      by_cases hx0 : x0 = -1
      · rw [if_pos hx0] at a b; omega
      · rw [if_neg hx0] at a b; omega
  · rintro ⟨h0, ht⟩
    refine ⟨by rw [ins_len hi, hl]; exact h.len, fun j x hx => ?_, fun j1 j2 n h1 h2 => ?_, ?_⟩
    · rcases up_or i j with rfl | ⟨m, rfl⟩
      · rw [ins_at hi] at hx
        cases hx; exact h0
      · rw [ins_up hi] at hx
        cases hm : l[m]? with
        | none => rw [hm] at hx; cases hx
        | some y =>
          rw [hm] at hx
          simp only [Option.map_some, Option.some.injEq] at hx
          subst hx
          rcases ht.ok m y hm with ⟨h2, h3⟩ | ⟨n, rfl, h3⟩
          · exact .inl ⟨(h.neg y).2 h2, by rw [← h.odd]; exact h3⟩
          · exact .inr ⟨fn n, h.nat n, by rw [← h.fit]; exact h3⟩
    · rcases up_or i j1 with e1 | ⟨m1, rfl⟩
      · rcases up_or i j2 with e2 | ⟨m2, rfl⟩
        · rw [e1, e2]
        · subst e1
          rw [ins_at hi] at h1
          rw [ins_up hi] at h2
          cases hm : l[m2]? with
          | none => rw [hm] at h2; cases h2
          | some y =>
            rw [hm] at h2
            simp only [Option.map_some, Option.some.injEq] at h1 h2
            obtain ⟨m, rfl⟩ := h.sur y n h2
            rw [h.nat] at h2
            exact absurd (h1.trans h2.symm) (h.ne m)
      · rcases up_or i j2 with e2 | ⟨m2, rfl⟩
        · subst e2
          rw [ins_at hi] at h2
          rw [ins_up hi] at h1
          cases hm : l[m1]? with
          | none => rw [hm] at h1; cases h1
          | some y =>
            rw [hm] at h1
            simp only [Option.map_some, Option.some.injEq] at h1 h2
            obtain ⟨m, rfl⟩ := h.sur y n h1
            rw [h.nat] at h1
            exact absurd (h2.trans h1.symm) (h.ne m)
        · rw [ins_up hi] at h1 h2
          cases hm1 : l[m1]? with
          | none => rw [hm1] at h1; cases h1
          | some y1 =>
            cases hm2 : l[m2]? with
            | none => rw [hm2] at h2; cases h2
            | some y2 =>
              rw [hm1] at h1
              rw [hm2] at h2
              simp only [Option.map_some, Option.some.injEq] at h1 h2
              obtain ⟨a1, rfl⟩ := h.sur y1 n h1
              obtain ⟨a2, rfl⟩ := h.sur y2 n h2
              rw [h.nat] at h1 h2
              have : a1 = a2 := h.inj _ _ (by omega)
              subst this
              rw [ht.inj m1 m2 a1 hm1 hm2]
    · have a := ht.few
      have b := h.str
      rw [hcount]
      by_cases hx0 : x0 = -1
      · rw [if_pos hx0] at b ⊢; omega
      · rw [if_neg hx0] at b ⊢; omega
theorem val_app {d : Desk} (a b : List Int) : val d (a ++ b) = val d a + val d b := by
  induction a with
  | nil => simp [val]
  | cons x a ih => simp only [List.cons_append, val, ih]; omega
theorem val_map {d d2 : Desk} {i : Nat} {x0 : Int} {f : Int → Int} {fn : Nat → Nat} (h : Lets d d2 i x0 f fn) : ∀ {l : List Int}, (∀ x ∈ l, x = -1 ∨ ∃ n : Nat, x = (n : Int)) → val d (l.map f) = val d2 l
  | [], _ => rfl
  | x :: l, hx => by
    simp only [List.map_cons, val]
    rw [val_map h (fun y hy => hx y (List.mem_cons_of_mem _ hy))]
    rcases hx x (List.mem_cons_self ..) with h1 | ⟨n, rfl⟩
    · rw [(h.neg x).2 h1, if_pos rfl, if_pos h1]
    · have e1 : ¬ ((n : Int) = -1) := by omega
      have e2 : ¬ (((fn n : Nat) : Int) = -1) := by omega
      rw [h.nat, if_neg e1, if_neg e2, Int.toNat_natCast, Int.toNat_natCast, h.val]
theorem val_ins {d d2 : Desk} {i : Nat} {x0 : Int} {f : Int → Int} {fn : Nat → Nat} (h : Lets d d2 i x0 f fn) {l : List Int} (ht : Tr d2 l) : val d (ins i x0 f l) = (if x0 = -1 then 0 else valueOf d x0.toNat) + val d2 l := by
  have hm : ∀ x ∈ l, x = -1 ∨ ∃ n : Nat, x = (n : Int) := fun x hx => by
    rcases Tr_mem ht x hx with h1 | ⟨n, h1, _⟩
    · exact .inl h1
    · exact .inr ⟨n, h1⟩
  unfold ins
  rw [val_app, val, val_map h (fun x hx => hm x (List.mem_of_mem_take hx)), val_map h (fun x hx => hm x (List.mem_of_mem_drop hx))]
  have : val d2 l = val d2 (l.take i) + val d2 (l.drop i) := by rw [← val_app, List.take_append_drop]
  rw [this]; omega
end Go.Ab.Cl

namespace Go.Ab.Cl
open Go.Ab

theorem ins_of {i : Nat} {x0 : Int} {f g : Int → Int} {l : List Int} (hi : i < l.length) (h0 : l[i]? = some x0) (hg : ∀ j y, l[up i j]? = some y → f (g y) = y) :
    l = ins i x0 f ((l.take i ++ l.drop (i + 1)).map g) := by
  have hlen : ((l.take i ++ l.drop (i + 1)).map g).length + 1 = l.length := by simp; omega
  refine List.ext_getElem? fun j => ?_
  rcases up_or i j with rfl | ⟨m, rfl⟩
  · rw [ins_at (by omega), h0]
  · rw [ins_up (by omega), List.getElem?_map, cut_get]
    cases h : l[up i m]? with
    | none => rfl
    | some y => simp [hg m y h]

def un (k : Nat) (x : Int) : Int := if (k : Int) ≤ x then x + 1 else x
def sh (k : Nat) (x : Int) : Int := if (k : Int) < x then x - 1 else x
theorem un_sh {k : Nat} {x : Int} (h : x ≠ (k : Int)) : un k (sh k x) = x := by unfold un sh; split <;> split <;> omega
/-- The desk without the box, and without the parcel that it is; and the one without a box that is strange. -/
def dK (d : Desk) (i k : Nat) (tb tp : Tok) : Desk := lessP (lessB d i tb) k tp
def dO (d : Desk) (i : Nat) (tb : Tok) : Desk := lessB (dS d (d.strange - 1)) i tb
theorem lets_K {d : Desk} {i k : Nat} (hi : i < d.bs.length) (tb tp : Tok) : Lets d (dK d i k tb tp) i (k : Int) (un k) (up k) where
  len := by simp [dK, lessP, lessB]; omega
  hi := by simp [dK, lessP, lessB]; omega
  odd j := by
    unfold oddB
    show (match (d.bs.take i ++ d.bs.drop (i + 1))[j]? with | some b => !b.stamp | none => false) = _
    rw [cut_get]
    rfl
  neg x := by unfold un; split <;> omega
  nat n := by unfold un up; split <;> split <;> omega
  sur x n h := by
    unfold un at h
    split at h
    · exact ⟨(x).toNat, by omega⟩
    · exact ⟨n, h⟩
  inj m n h := up_inj h
  ne n h := by have : up k n ≠ k := up_ne; omega
  fit j n := by
    unfold fit0
    show (match (d.bs.take i ++ d.bs.drop (i + 1))[j]?, (d.ps.take k ++ d.ps.drop (k + 1))[n]? with | some b, some p => couldB _ b p | _, _ => false) = _
    rw [cut_get, cut_get]; rfl
  str := by
    have h : ¬ ((k : Int) = -1) := by omega
    rw [if_neg h]
    show d.strange + 0 = d.strange
    omega
  val n := by
    unfold valueOf
    show (match (d.ps.take k ++ d.ps.drop (k + 1))[n]? with | some p => p.value | none => 0) = _
    rw [cut_get]
    rfl
theorem lets_O {d : Desk} {i : Nat} (hi : i < d.bs.length) (tb : Tok) : Lets d (dO d i tb) i (-1) (fun x => x) (fun n => n) where
  len := by simp [dO, lessB, dS]; omega
  hi := by simp [dO, lessB, dS]; omega
  odd j := by
    unfold oddB
    show (match (d.bs.take i ++ d.bs.drop (i + 1))[j]? with | some b => !b.stamp | none => false) = _
    rw [cut_get]
    rfl
  neg x := Iff.rfl
  nat n := rfl
  sur x n h := ⟨n, h⟩
  inj m n h := h
  ne n h := by omega
  fit j n := by
    unfold fit0
    show (match (d.bs.take i ++ d.bs.drop (i + 1))[j]?, d.ps[n]? with | some b, some p => couldB _ b p | _, _ => false) = _
    rw [cut_get]; rfl
  str := by show d.strange - 1 + 1 = d.strange; omega
  val n := rfl

/-- The values of all truths in which a box is something. -/
def SK (d : Desk) (i : Nat) (x v : Int) : Prop := ∃ l, Tr d l ∧ l[i]? = some x ∧ v = val d l
theorem SK_K {d : Desk} {i k : Nat} (hi : i < d.bs.length) (tb tp : Tok) (v : Int) : SK d i (k : Int) v ↔ fit0 d i k = true ∧ ∃ l, Tr (dK d i k tb tp) l ∧ v = valueOf d k + val (dK d i k tb tp) l := by
  have hL := lets_K (k := k) hi tb tp
  have hk : ¬ ((k : Int) = -1) := by omega
  constructor
  · rintro ⟨l, ht, h0, rfl⟩
    have e := ins_of (f := un k) (g := sh k) (by rw [ht.len]; exact hi) h0 (fun j y hy => un_sh (fun e => by
      subst e
      exact up_ne (ht.inj _ _ k hy h0)))
    have hl' : ((l.take i ++ l.drop (i + 1)).map (sh k)).length = (dK d i k tb tp).bs.length := by
      have := hL.len; have := ht.len; simp; omega
    rw [e] at ht
    have h2 := (Tr_ins hL hl').1 ht
    refine ⟨?_, _, h2.2, ?_⟩
    · rcases h2.1 with ⟨h3, _⟩ | ⟨n, h3, h4⟩
      · exact absurd h3 hk
      · have : k = n := by omega
        rw [this]; exact h4
    · rw [e, val_ins hL h2.2, if_neg hk, ← e, Int.toNat_natCast]
  · rintro ⟨hf, l, ht, rfl⟩
    have hil : i ≤ l.length := by rw [ht.len]; exact hL.hi
    refine ⟨ins i (k : Int) (un k) l, (Tr_ins hL ht.len).2 ⟨.inr ⟨k, rfl, hf⟩, ht⟩, ins_at hil, ?_⟩
    rw [val_ins hL ht, if_neg hk, Int.toNat_natCast]
theorem SK_O {d : Desk} {i : Nat} (hi : i < d.bs.length) (tb : Tok) (v : Int) : SK d i (-1) v ↔ oddB d i = true ∧ ∃ l, Tr (dO d i tb) l ∧ v = val (dO d i tb) l := by
  have hL := lets_O hi tb
  constructor
  · rintro ⟨l, ht, h0, rfl⟩
    have e := ins_of (f := fun x => x) (g := fun x => x) (by rw [ht.len]; exact hi) h0 (fun j y hy => rfl)
    have hl' : ((l.take i ++ l.drop (i + 1)).map (fun x => x)).length = (dO d i tb).bs.length := by
      have := hL.len; have := ht.len; simp; omega
    rw [e] at ht
    have h2 := (Tr_ins hL hl').1 ht
    refine ⟨?_, _, h2.2, ?_⟩
    · rcases h2.1 with ⟨_, h3⟩ | ⟨n, h3, h4⟩
      · exact h3
      · omega
    · rw [e, val_ins hL h2.2, if_pos rfl, ← e]; omega
  · rintro ⟨hf, l, ht, rfl⟩
    have hil : i ≤ l.length := by rw [ht.len]; exact hL.hi
    refine ⟨ins i (-1) (fun x => x) l, (Tr_ins hL ht.len).2 ⟨.inl ⟨rfl, hf⟩, ht⟩, ins_at hil, ?_⟩
    rw [val_ins hL ht, if_pos rfl]; omega
theorem can_SK {d : Desk} (hc : d.check = true) {i : Nat} (hi : i < d.bs.length) {x : Int} : canB d (i : Int) x = true ↔ ∃ v, SK d i x v := by
  rw [can_iff hc hi]
  exact ⟨fun ⟨l, h1, h2⟩ => ⟨_, l, h1, h2, rfl⟩, fun ⟨_, l, h1, h2, _⟩ => ⟨l, h1, h2⟩⟩
theorem cut_all {α : Type} {l : List α} {p : α → Bool} {i : Nat} (h : l.all p = true) : (l.take i ++ l.drop (i + 1)).all p = true := by
  rw [List.all_eq_true] at h ⊢
  intro x hx
  rcases List.mem_append.1 hx with hx | hx
  · exact h x (List.mem_of_mem_take hx)
  · exact h x (List.mem_of_mem_drop hx)
theorem dK_check {d : Desk} (hc : d.check = true) {i k : Nat} {tb tp : Tok} : (dK d i k tb tp).check = true := by
  simp only [Desk.check, Bool.and_eq_true, decide_eq_true_eq] at hc
  obtain ⟨⟨⟨⟨⟨⟨c1, c2⟩, c3⟩, c4⟩, c5⟩, c6⟩, c7⟩ := hc
  simp only [Desk.check, dK, lessP, lessB, Bool.and_eq_true]
  refine ⟨⟨⟨⟨⟨⟨c1, c2⟩, c3⟩, decide_eq_true ?_⟩, decide_eq_true ?_⟩, cut_all c6⟩, cut_all c7⟩
  · simp; omega
  · simp; omega
theorem dO_check {d : Desk} (hc : d.check = true) (hs : 0 < d.strange) {i : Nat} {tb : Tok} : (dO d i tb).check = true := by
  have hst := check_strange hc
  simp only [Desk.check, Bool.and_eq_true, decide_eq_true_eq] at hc
  obtain ⟨⟨⟨⟨⟨⟨c1, c2⟩, c3⟩, c4⟩, c5⟩, c6⟩, c7⟩ := hc
  simp only [Desk.check, dO, lessB, dS, Bool.and_eq_true]
  refine ⟨⟨⟨⟨⟨⟨c1, c2⟩, ?_⟩, decide_eq_true c4⟩, decide_eq_true ?_⟩, c6⟩, cut_all c7⟩
  · simp [within]; omega
  · simp; omega

/-- The least and the greatest of some values. -/
def Acc (found : Bool) (lo hi : Int) (S : Int → Prop) : Prop := (found = false ∧ lo = 0 ∧ hi = 0 ∧ ∀ v, ¬ S v) ∨ (found = true ∧ S lo ∧ S hi ∧ ∀ v, S v → lo ≤ v ∧ v ≤ hi)
theorem Acc_worth {d : Desk} (hc : d.check = true) : Acc (trueB d) (worthLo d) (worthHi d) (fun v => ∃ l, Tr d l ∧ v = val d l) := by
  cases ht : trueB d
  · refine .inl ⟨rfl, ?_, ?_, fun v ⟨l, h, _⟩ => ?_⟩
    · simp [worthLo, askE, hc, ht]
    · simp [worthHi, askE, hc, ht]
    · have := (true_iff hc).2 ⟨l, h⟩
      rw [ht] at this; cases this
  · obtain ⟨⟨l1, h1, e1⟩, ⟨l2, h2, e2⟩, h3⟩ := worth_spec hc ht
    exact .inr ⟨rfl, ⟨l1, h1, e1⟩, ⟨l2, h2, e2⟩, fun v ⟨l, h, hv⟩ => by rw [hv]; exact h3 l h⟩
theorem Acc_congr {f : Bool} {lo hi : Int} {S T : Int → Prop} (h : Acc f lo hi S) (e : ∀ v, S v ↔ T v) : Acc f lo hi T := by
  have : S = T := funext fun v => propext (e v)
  rw [← this]; exact h
/-- Nothing more, or more. -/
theorem Acc_skip {f : Bool} {lo hi : Int} {S T : Int → Prop} (h : Acc f lo hi S) (hn : ∀ v, ¬ T v) : Acc f lo hi (fun v => S v ∨ T v) :=
  Acc_congr h fun v => ⟨.inl, fun h => h.elim id fun h => absurd h (hn v)⟩
theorem Acc_more {f : Bool} {lo hi a b : Int} {S T : Int → Prop} (h : Acc f lo hi S) (ha : T a) (hb : T b) (ht : ∀ v, T v → a ≤ v ∧ v ≤ b) :
    Acc true (loI (if f = true then lo else a) a) (hiI (if f = true then hi else b) b) (fun v => S v ∨ T v) := by
  refine .inr ⟨rfl, ?_, ?_, fun v hv => ?_⟩
  · rcases h with ⟨h1, _⟩ | ⟨h1, h2, h3, h4⟩
    · subst h1; right; simp [loI, ha]
    · subst h1
      rcases lo_or lo a with e | e
      · left; simp [e, h2]
      · right; simp [e, ha]
  · rcases h with ⟨h1, _⟩ | ⟨h1, h2, h3, h4⟩
    · subst h1; right; simp [hiI, hb]
    · subst h1
      rcases hi_or hi b with e | e
      · left; simp [e, h3]
      · right; simp [e, hb]
  · have l1 := lo_better.r (if f = true then lo else a) a
    have l2 := lo_better.l (if f = true then lo else a) a
    have u1 := hi_better.r (if f = true then hi else b) b
    have u2 := hi_better.l (if f = true then hi else b) b
    rcases hv with hv | hv
    · rcases h with ⟨h1, h2, h3, h4⟩ | ⟨h1, h2, h3, h4⟩
      · exact absurd hv (h4 v)
      · subst h1
        have := h4 v hv
        simp only [if_true] at l2 u2 ⊢
        omega
    · have := ht v hv
      omega
theorem Acc_same {f g : Bool} {lo hi lo' hi' : Int} {S : Int → Prop} (h : Acc f lo hi S) (h' : Acc g lo' hi' S) : f = g ∧ lo = lo' ∧ hi = hi' := by
  rcases h with ⟨h1, h2, h3, h4⟩ | ⟨h1, h2, h3, h4⟩ <;> rcases h' with ⟨k1, k2, k3, k4⟩ | ⟨k1, k2, k3, k4⟩
  · exact ⟨by rw [h1, k1], by rw [h2, k2], by rw [h3, k3]⟩
  · exact absurd k2 (h4 _)
  · exact absurd h2 (k4 _)
  · have a1 := h4 _ k2; have a2 := h4 _ k3; have b1 := k4 _ h2; have b2 := k4 _ h3
    exact ⟨by rw [h1, k1], by omega, by omega⟩
theorem all_SK {d : Desk} {i : Nat} (hi : i < d.bs.length) (v : Int) : (∃ l, Tr d l ∧ v = val d l) ↔ (∃ k : Nat, k < d.ps.length ∧ SK d i (k : Int) v) ∨ SK d i (-1) v := by
  constructor
  · rintro ⟨l, h, hv⟩
    have hl : i < l.length := by rw [h.len]; exact hi
    have hg : l[i]? = some l[i] := by simp [hl]
    rcases h.ok i _ hg with ⟨h1, _⟩ | ⟨n, h1, h2⟩
    · right; exact ⟨l, h, by rw [hg, h1], hv⟩
    · left; exact ⟨n, (fit_lt h2).2, l, h, by rw [hg, h1], hv⟩
  · rintro (⟨k, _, l, h, _, hv⟩ | ⟨l, h, _, hv⟩) <;> exact ⟨l, h, hv⟩
end Go.Ab.Cl
