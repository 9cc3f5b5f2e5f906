/-
  The claims, plain: a desk that lets more be true.
-/
import Derived.Test.YthbekoofiienjaaDoorClQ
import Derived.Test.YthbekoofiienjaaDoorClH
namespace Go.Ab.Cl
open Go.Ab

/-- A desk of which all that was true is true. -/
structure Wider (d x : Desk) : Prop where
  len : x.bs.length = d.bs.length
  odd : ∀ i, oddB d i = true → oddB x i = true
  str : d.strange ≤ x.strange
  fit : ∀ i n, fit0 d i n = true → fit0 x i n = true
  val : ∀ n, n < d.ps.length → valueOf x n = valueOf d n
  ps : d.ps.length ≤ x.ps.length
theorem Tr_wider {d x : Desk} (hw : Wider d x) {l : List Int} (h : Tr d l) : Tr x l where
  len := by rw [hw.len]; exact h.len
  ok i k hk := by
    rcases h.ok i k hk with ⟨h1, h2⟩ | ⟨n, h1, h2⟩
    · exact .inl ⟨h1, hw.odd i h2⟩
    · exact .inr ⟨n, h1, hw.fit i n h2⟩
  inj := h.inj
  few := Int.le_trans h.few hw.str
theorem val_same {d x : Desk} (hv : ∀ n, n < d.ps.length → valueOf x n = valueOf d n) : ∀ {l : List Int}, (∀ k ∈ l, k = -1 ∨ ∃ n : Nat, k = (n : Int) ∧ n < d.ps.length) → val x l = val d l
  | [], _ => rfl
  | k :: l, h => by
    simp only [val]
    rw [val_same hv (fun k hk => h k (List.mem_cons_of_mem _ hk))]
    rcases h k (List.mem_cons_self ..) with h1 | ⟨n, h1, h2⟩
    · simp [h1]
    · subst h1
      have hn : ¬ ((n : Int) = -1) := by omega
      rw [if_neg hn, if_neg hn, Int.toNat_natCast, hv n h2]
theorem Tr_mem {d : Desk} {l : List Int} (h : Tr d l) : ∀ k ∈ l, k = -1 ∨ ∃ n : Nat, k = (n : Int) ∧ n < d.ps.length := by
  intro k hk
  obtain ⟨i, hi⟩ := List.mem_iff_getElem?.1 hk
  rcases h.ok i k hi with ⟨h1, _⟩ | ⟨n, h1, h2⟩
  · exact .inl h1
  · exact .inr ⟨n, h1, (fit_lt h2).2⟩
theorem val_wider {d x : Desk} (hw : Wider d x) {l : List Int} (h : Tr d l) : val x l = val d l := val_same hw.val (Tr_mem h)
section
variable {d x : Desk} (hw : Wider d x) (hc : d.check = true) (hx : x.check = true)
include hw hc hx
theorem wider_true (h : trueB d = true) : trueB x = true := by
  obtain ⟨l, hl⟩ := (true_iff hc).1 h
  exact (true_iff hx).2 ⟨l, Tr_wider hw hl⟩
theorem wider_can {b : Nat} (hb : b < d.bs.length) {k : Int} (h : canB d (b : Int) k = true) : canB x (b : Int) k = true := by
  obtain ⟨l, hl, h2⟩ := (can_iff hc hb).1 h
  exact (can_iff hx (by rw [hw.len]; exact hb)).2 ⟨l, Tr_wider hw hl, h2⟩
theorem wider_worth (h : trueB d = true) : innerB (worthLo d) (worthHi d) (worthLo x) (worthHi x) = true := by
  obtain ⟨⟨l1, h1, e1⟩, ⟨l2, h2, e2⟩, _⟩ := worth_spec hc h
  obtain ⟨_, _, h3⟩ := worth_spec hx (wider_true hw hc hx h)
  have k1 := h3 l1 (Tr_wider hw h1)
  have k2 := h3 l2 (Tr_wider hw h2)
  rw [val_wider hw h1] at k1
  rw [val_wider hw h2] at k2
  simp only [innerB, Bool.and_eq_true, decide_eq_true_eq]
  omega
end
theorem whichFrom_mem {d : Desk} {z k : Int} : k ∈ whichFrom d z 0 ↔ ∃ n : Nat, k = (n : Int) ∧ n < d.ps.length ∧ canB d z (n : Int) = true := by
  unfold whichFrom
  simp only [List.mem_map, List.mem_filter, List.mem_range']
  constructor
  · rintro ⟨n, ⟨⟨m, h1, h2⟩, h3⟩, rfl⟩; exact ⟨n, rfl, by omega, h3⟩
  · rintro ⟨n, rfl, h1, h2⟩; exact ⟨n, ⟨⟨n, by omega, by omega⟩, h2⟩, rfl⟩
theorem wider_which {d x : Desk} (hw : Wider d x) (hc : d.check = true) (hx : x.check = true) {b : Nat} (hb : b < d.bs.length) : ∀ k ∈ whichFrom d (b : Int) 0, k ∈ whichFrom x (b : Int) 0 := by
  intro k hk
  obtain ⟨n, h1, h2, h3⟩ := whichFrom_mem.1 hk
  exact whichFrom_mem.2 ⟨n, h1, Nat.lt_of_lt_of_le h2 hw.ps, wider_can hw hc hx hb h3⟩

/-! ### what ClaimMore makes of a desk -/
def moreX (d : Desk) (lo hi wear : Int) (ps : List Parcel) (tp : Tok) (i : Nat) (b : Box) : Desk := ⟨lo, hi, wear, d.strange, ps, d.bs.set i b, tp, .any⟩
theorem moreX_ok {d : Desk} (hd : d.ok) {lo hi wear : Int} {ps : List Parcel} {tp : Tok} (htp : purTok tp = true) {i : Nat} {b : Box} (hps : ps.length ≤ 200000000000000) (hb : b.mark.length ≤ 1000) : (moreX d lo hi wear ps tp i b).ok where
  tp := htp
  tb := rfl
  ps := hps
  bs := by simpa [moreX] using hd.bs
  str b' hb' := by
    rcases List.mem_or_eq_of_mem_set hb' with h | h
    · exact hd.str b' h
    · subst h; omega
theorem moreX_wider {d : Desk} {lo hi wear : Int} {ps q : List Parcel} (hpq : ps = d.ps ++ q) {tp : Tok} {i : Nat} {b b' : Box} (hb : d.bs[i]? = some b) (hlo : lo ≤ d.lo) (hhi : d.hi ≤ hi) (hw : d.wear ≤ wear)
    (hday : b'.day = b.day) (hlow : b'.low ≤ b.low) (hhigh : b.high ≤ b'.high) (hst : b'.stamp = b.stamp) (hseal : ∀ p ∈ d.ps, sealB b p = true → sealB b' p = true) : Wider d (moreX d lo hi wear ps tp i b') := by
  subst hpq
  have hget : ∀ j bb, d.bs[j]? = some bb → (d.bs.set i b')[j]? = some (if i = j then b' else bb) := by
    intro j bb hj
    rw [List.getElem?_set]
    by_cases h : i = j
    · subst h
      rw [if_pos rfl, if_pos (List.getElem?_eq_some_iff.1 hj).1, if_pos rfl]
    · rw [if_neg h, if_neg h, hj]
  refine ⟨by simp [moreX], fun j h => ?_, Int.le_refl _, fun j n h => ?_, fun n h => ?_, by simp [moreX]⟩
  · unfold oddB at h ⊢
    cases hj : d.bs[j]? with
    | none => rw [hj] at h; cases h
    | some bb =>
      rw [hj] at h
      show (match (d.bs.set i b')[j]? with | some b => !b.stamp | none => false) = true
      rw [hget j bb hj]
      by_cases hij : i = j
      · subst hij
        rw [hb] at hj; cases hj
        rw [if_pos rfl, ]
        simp only at h ⊢
        rw [hst]; exact h
      · rw [if_neg hij]; exact h
  · unfold fit0 at h ⊢
    cases hj : d.bs[j]? with
    | none => rw [hj] at h; cases h
    | some bb =>
      cases hn : d.ps[n]? with
      | none => rw [hj, hn] at h; cases h
      | some p =>
        rw [hj, hn] at h
        simp only at h
        show (match (d.bs.set i b')[j]?, (d.ps ++ q)[n]? with | some b, some p => couldB _ b p | _, _ => false) = true
        rw [hget j bb hj, List.getElem?_append_left (List.getElem?_eq_some_iff.1 hn).1, hn]
        simp only
        unfold couldB dayB weightB within at h ⊢
        simp only [Bool.and_eq_true, decide_eq_true_eq] at h ⊢
        show ((lo ≤ _ ∧ _ ≤ hi) ∧ (_ ≤ _ ∧ p.weight - wear ≤ _)) ∧ _
        by_cases hij : i = j
        · subst hij
          rw [hb] at hj; cases hj
          rw [if_pos rfl]
          have := hseal p (List.mem_of_getElem? hn) h.2
          exact ⟨⟨by rw [hday]; omega, by omega⟩, this⟩
        · rw [if_neg hij]
          exact ⟨⟨by omega, by omega⟩, h.2⟩
  · unfold valueOf
    show (match (d.ps ++ q)[n]? with | some p => p.value | none => 0) = _
    rw [List.getElem?_append_left h]
    rfl
theorem moreX_check {d : Desk} (hc : d.check = true) {lo hi wear : Int} {ps : List Parcel} {tp : Tok} {i : Nat} {b : Box} (hs : isSpan lo hi 0 400 = true) (hw : within wear 0 5000 = true) (hn : ps.length ≤ 8) (hps : ps.all okParcel = true) (hb : okBox b = true) : (moreX d lo hi wear ps tp i b).check = true := by
  simp only [Desk.check, Bool.and_eq_true] at hc
  simp only [Desk.check, moreX, Bool.and_eq_true, List.length_set]
  refine ⟨⟨⟨⟨⟨⟨hs, hw⟩, hc.1.1.1.1.2⟩, decide_eq_true hn⟩, hc.1.1.2⟩, hps⟩, ?_⟩
  rw [List.all_eq_true]
  intro x hx
  rcases List.mem_or_eq_of_mem_set hx with h | h
  · exact List.all_eq_true.1 hc.2 x h
  · subst h; exact hb

theorem put_row {e : Nat} : ∀ (rows : List (List AV)) (i : Nat) (row : List AV), (∀ r ∈ rows, r.length = e) → i < rows.length → row.length = e → putAt rows.flatten (i * e) row = (rows.set i row).flatten
  | [], i, row, _, h, _ => by simp at h
  | r :: rows, 0, row, hr, h, he => by
    have h1 := hr r (by simp)
    simp only [Nat.zero_mul, List.flatten_cons, List.set_cons_zero, putAt, List.take_zero, List.nil_append, Nat.zero_add]
    rw [he, ← h1, List.drop_left']
    rfl
  | r :: rows, i + 1, row, hr, h, he => by
    have h1 := hr r (by simp)
    have ih := put_row rows i row (fun q hq => hr q (by simp [hq])) (by simpa using h) he
    simp only [putAt, List.flatten_cons, List.set_cons_succ] at *
    rw [← ih]
    have e1 : (i + 1) * e = r.length + i * e := by rw [h1, Nat.succ_mul]; omega
    rw [e1, List.take_append, List.take_of_length_le (by omega), show r.length + i * e - r.length = i * e by omega, List.drop_append, List.drop_of_length_le (by omega), show r.length + i * e + row.length - r.length = i * e + row.length by omega]
    simp
theorem box_row {bs : List Box} {i : Nat} {b : Box} (h : i < bs.length) : putAt (bs.map Box.c).flatten (Nat.add 0 (Nat.mul i 5)) b.c = ((bs.set i b).map Box.c).flatten := by
  rw [show Nat.add 0 (Nat.mul i 5) = i * 5 by simp, put_row _ _ _ box_len (by simpa using h) rfl, List.map_set]
theorem box_row_room {bs : List Box} {i : Nat} (h : i < bs.length) : Nat.ble (Nat.add (Nat.add 0 (Nat.mul i 5)) 5) (lenK (bs.map Box.c).flatten) = true := by
  rw [lenK_eq, flat_len5 _ box_len, List.length_map, Nat.ble_eq]
  show 0 + i * 5 + 5 ≤ bs.length * 5
  omega

theorem a11_L1_step {B : Bnd} (hB : B = Bk) {cl : CallK} {rd : RoundK} (L M : List Int) (hL : L.length ≤ 1000000000000000) {tm : Tok} (htm : purTok tm = true) (H39 : ∀ z : Int, cl 0 39 [.sl (rowsI M) tm, .int .i64 z] [] ansK = some (.int .i64 (placeI M z 0), []))
    (n : Nat) (s : St) (k : Ex → Env → St → Ans) (r : Ans) :
    ∀ (j i0 : Nat) (t : Tok), purTok t = true → L.length < i0 + j → i0 ≤ L.length → (∀ z ∈ L.drop i0, z ∈ M) → (∀ e, k (.exit 1) e s = r) →
    B.loop (evCK B a11_L1) [6, 11, 13, 19] n j cl rd Gx 0 1 [(6, .bool false), (11, .sl (rowsI L) t), (13, .sl (rowsI M) tm), (19, .int .i64 (.ofNat i0))] s k = r := by
  intro j
  induction j with
  | zero => intro i0 t ht h1 h2; omega
  | succ j ih =>
    intro i0 t ht h1 h2 hin k1
    refine loop_succ hB ?_
    conv => lhs; whnf
    refine len_map hB ?_
    conv => lhs; whnf
    refine lt_nat hB (fun h => ?_) (fun h => ?_) <;> conv => lhs; whnf
    · have hx : (rowsI L)[i0]? = some [.int .i64 L[i0]] := by simp [rowsI, h]
      have hdr : L.drop i0 = L[i0] :: L.drop (i0 + 1) := List.drop_eq_getElem_cons h
      rw [hdr] at hin
      generalize L[i0] = y at hx hdr hin
      have hy : ¬ placeI M y 0 < 0 := fun h => (place_lt (by omega)).1 h (hin y (List.mem_cons_self ..))
      repeat' ((first
        | refine natOf_step hB (m := i0) rfl ?_
        | refine nth_step hB hx ?_
        | refine tok_step hB htm ?_
        | refine purs_step hB (by simp [purs, pur, htm]) ?_
        | refine pans_step hB (H39 y) ?_
        | refine lt_ff hB hy ?_
        | refine purs_step hB rfl ?_
        | refine lt_tt hB (by decide) ?_
        | refine lt_ff hB (by decide) ?_
        | refine le_tt hB (by decide) ?_
        | refine le_ff hB (by decide) ?_
        | refine eq_tt hB (by decide) ?_
        | refine eq_ff hB (by decide) ?_
        | refine fint_wrp hB (by omega) (by omega) ?_
        | refine fint_step hB ?_
        | refine fbool_tt hB ?_
        | refine fbool_ff hB ?_
        | refine fbool_split hB (fun _ => ?_) (fun _ => ?_)
        | refine ftok_step hB ?_
        | refine frows_step hB ?_
        | refine fstr_step hB ?_
        | refine len_map hB ?_
        | refine len_step hB ?_
        | refine lens_step hB ?_
        | refine byte_step hB ?_
        | refine drop_step hB rfl ?_
        | refine fl_step hB rfl ?_
        | refine add_one hB (by first | omega | decide) ?_
        | refine opt_step hB rfl ?_
        | refine fnat_step hB ?_
        | refine ifk_step hB rfl ?_
        | refine ifk_step hB (flat_or rfl) ?_
        | refine opt2_step hB rfl ?_
        | refine obj_raw hB ?_
        | refine sob_raw hB ?_
        | refine fst_raw hB ?_
        | refine optl_raw hB ?_
        | refine tok_step hB rfl ?_
        ) <;> conv => lhs; whnf)
      rw [clampTok_pur ht, clampTok_pur htm]
      exact ih (i0 + 1) t ht (by omega) (by omega) (fun z hz => hin z (List.mem_cons_of_mem _ hz)) k1
    · repeat' ((first
        | refine purs_step hB rfl ?_
        | refine lt_tt hB (by decide) ?_
        | refine lt_ff hB (by decide) ?_
        | refine le_tt hB (by decide) ?_
        | refine le_ff hB (by decide) ?_
        | refine eq_tt hB (by decide) ?_
        | refine eq_ff hB (by decide) ?_
        | refine fint_wrp hB (by omega) (by omega) ?_
        | refine fint_step hB ?_
        | refine fbool_tt hB ?_
        | refine fbool_ff hB ?_
        | refine fbool_split hB (fun _ => ?_) (fun _ => ?_)
        | refine ftok_step hB ?_
        | refine frows_step hB ?_
        | refine fstr_step hB ?_
        | refine len_map hB ?_
        | refine len_step hB ?_
        | refine lens_step hB ?_
        | refine byte_step hB ?_
        | refine drop_step hB rfl ?_
        | refine fl_step hB rfl ?_
        | refine add_one hB (by first | omega | decide) ?_
        | refine opt_step hB rfl ?_
        | refine fnat_step hB ?_
        | refine ifk_step hB rfl ?_
        | refine ifk_step hB (flat_or rfl) ?_
        | refine opt2_step hB rfl ?_
        | refine obj_raw hB ?_
        | refine sob_raw hB ?_
        | refine fst_raw hB ?_
        | refine optl_raw hB ?_
        | refine tok_step hB rfl ?_
        ) <;> conv => lhs; whnf)
      exact k1 _
end Go.Ab.Cl
