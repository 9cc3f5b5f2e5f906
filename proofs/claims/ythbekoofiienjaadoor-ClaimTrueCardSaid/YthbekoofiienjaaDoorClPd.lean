/-
  The claims: ClaimTrue: its loops.
-/
import Derived.Test.YthbekoofiienjaaDoorClPc
import Derived.Test.YthbekoofiienjaaDoorClTe
import Derived.Test.YthbekoofiienjaaDoorClKi
namespace Go.Ab.Cl
open Go.Ab

theorem climbs_range {f : Nat → Bool} {P : Nat} : ∀ (c j : Nat) (b : Int), b < (j : Int) → j + c ≤ P → climbsZ b (List.map (fun k : Nat => (k : Int)) ((List.range' j c).filter f)) (P : Int) = true
  | 0, _, _, _, _ => rfl
  | c + 1, j, b, hb, h => by
    rw [List.range'_succ]
    by_cases hf : f j = true
    · rw [List.filter_cons_of_pos hf, List.map_cons]
      show (decide (b < (j : Int)) && decide ((j : Int) < (P : Int)) && climbsZ (j : Int) _ (P : Int)) = true
      rw [climbs_range c (j + 1) (j : Int) (by omega) (by omega), decide_eq_true hb, decide_eq_true (by omega)]
      rfl
    · rw [List.filter_cons_of_neg hf]
      exact climbs_range c (j + 1) b (by omega) (by omega)
theorem place_iff {z : Int} : ∀ {l : List Int} {i : Int}, 0 ≤ i → (0 ≤ placeI l z i ↔ z ∈ l)
  | [], i, h => by simp [placeI]
  | k :: l, i, h => by
    unfold placeI
    split
    · rename_i e; subst e; simp [h]
    · rename_i e
      rw [place_iff (by omega), List.mem_cons]
      constructor
      · exact .inr
      · rintro (h' | h')
        · exact absurd h'.symm e
        · exact h'
theorem val_snoc (d : Desk) (z : Int) : ∀ l : List Int, val d (l ++ [z]) = val d l + (if z = -1 then 0 else valueOf d z.toNat)
  | [] => by simp [val]
  | k :: l => by
    have := val_snoc d z l
    simp only [List.cons_append, val, this]
    omega
/-- What the truth tells of what is told. -/
structure Good (x : Desk) (tru : List Int) : Prop where
  ok : x.ok
  ck : x.check = true
  tr : Tr x tru
theorem Good.t {x : Desk} {tru : List Int} (h : Good x tru) : trueB x = true := (true_iff h.ck).2 ⟨tru, h.tr⟩
theorem Good.w {x : Desk} {tru : List Int} (h : Good x tru) {i : Nat} (hi : i < tru.length) : whichE x (i : Int) = 0 := by
  have hl := h.tr.len
  have hw : within (i : Int) 0 ((x.bs.length : Int) - 1) = true := by simp [within]; omega
  unfold whichE
  rw [hw]
  exact ask_t h.ck h.t
theorem Good.can {x : Desk} {tru : List Int} (h : Good x tru) {i : Nat} {z : Int} (hz : tru[i]? = some z) : canB x (i : Int) z = true := by
  have hi := (List.getElem?_eq_some_iff.1 hz).1
  have hl := h.tr.len
  exact (can_iff h.ck (by omega)).2 ⟨tru, h.tr, hz⟩
theorem which_mem {x : Desk} {i : Int} {k : Nat} (hw : whichE x i = 0) (hk : k < x.ps.length) (hc : canB x i (k : Int) = true) : (k : Int) ∈ whichL x i := by
  unfold whichL
  rw [if_pos hw]
  unfold whichFrom
  simp only [List.mem_map, List.mem_filter, List.mem_range']
  exact ⟨k, ⟨⟨k, by omega, by omega⟩, hc⟩, rfl⟩
theorem told_odd {x : Desk} {tru : List Int} (h : Good x tru) {i : Nat} (hz : tru[i]? = some (-1)) : toldV x (i : Int) ≠ 1 := by
  have hi := (List.getElem?_eq_some_iff.1 hz).1
  have hc := h.can hz
  unfold toldV
  rw [if_pos (h.w hi)]
  split
  all_goals first | decide | (rw [if_pos hc]; decide)
theorem told_par {x : Desk} {tru : List Int} (h : Good x tru) {i k : Nat} (hz : tru[i]? = some (k : Int)) (hk : k < x.ps.length) : toldV x (i : Int) ≠ 0 := by
  have hi := (List.getElem?_eq_some_iff.1 hz).1
  have hm := which_mem (h.w hi) hk (h.can hz)
  unfold toldV
  rw [if_pos (h.w hi), if_neg]
  · split <;> decide
  · intro h0
    rw [List.length_eq_zero_iff.1 h0] at hm
    cases hm
theorem told_in (x : Desk) (i : Int) : within (toldV x i) 0 2 = true := by
  unfold toldV
  split
  · split
    · rfl
    · split <;> rfl
  · rfl
theorem which_climbs {x : Desk} {i : Int} (hw : whichE x i = 0) : climbsZ (-1) (whichL x i) (x.ps.length : Int) = true := by
  unfold whichL
  rw [if_pos hw]
  exact climbs_range _ 0 (-1) (by omega) (by omega)

set_option maxHeartbeats 4000000 in
theorem a7_L1_step {B : Bnd} (hB : B = Bk) {cl : CallK} {rd : RoundK} (x : Desk) (tru : List Int) (hg : Good x tru) {t6 t9 t10 : Tok} (ht6 : purTok t6 = true) (ht9 : purTok t9 = true) (ht10 : purTok t10 = true) (sure perh : List Int) (o0 o2 : AObj)
    (H22 : ∀ i : Nat, i < tru.length → cl 0 22 [x.v, .int .i64 (i : Int)] [] ansK = some (.tup [.sl (rowsI (whichL x (i : Int))) (wtok (whichL x (i : Int))), .int .i64 0], []))
    (H25 : ∀ i : Nat, i < tru.length → cl 0 25 [x.v, .int .i64 (i : Int)] [] ansK = some (.tup [.int .i64 (toldV x (i : Int)), .int .i64 0], []))
    (H37 : ∀ i : Nat, i < tru.length → cl 0 37 [.sl (rowsI (whichL x (i : Int))) (wtok (whichL x (i : Int))), .int .i64 (.ofNat x.ps.length)] [] ansK = some (.bool true, []))
    (H38 : ∀ i : Nat, cl 0 38 [.int .i64 (toldV x (i : Int)), .int .i64 0, .int .i64 2] [] ansK = some (.bool true, []))
    (H39 : ∀ (i : Nat) (z : Int), i < tru.length → cl 0 39 [.sl (rowsI (whichL x (i : Int))) (wtok (whichL x (i : Int))), .int .i64 z] [] ansK = some (.int .i64 (placeI (whichL x (i : Int)) z 0), []))
    (n : Nat) (k : Ex → Env → St → Ans) (r : Ans) :
    ∀ (j i0 bk : Nat) (w : Int), tru.length < i0 + j → i0 ≤ tru.length → bk < 256 → (∀ n : Nat, bk.testBit n = true ↔ (n : Int) ∈ tru.take i0) → w = val x (tru.take i0) → 0 ≤ w → w ≤ 100000 * (i0 : Int) →
    (∀ y bk, bk < 256 → (∀ n : Nat, bk.testBit n = true ↔ (n : Int) ∈ tru) → k (.exit 0) [(4, .bool false), (5, .ptr 0 1 0), (6, .sl (rowsI tru) t6), (9, .sl (rowsI sure) t9), (10, .sl (rowsI perh) t10), (12, .ptr 0 2 0), (16, .int .i64 (val x tru)), (17, .int .i64 ((bk : Nat) : Int)), (18, .int .i64 y)] [⟨[o0, .cells x.c, o2], []⟩] = r) →
    B.loop (evCK B a7_L1) [4, 5, 6, 9, 10, 12, 16, 17, 18] n j cl rd Gx 0 1 [(4, .bool false), (5, .ptr 0 1 0), (6, .sl (rowsI tru) t6), (9, .sl (rowsI sure) t9), (10, .sl (rowsI perh) t10), (12, .ptr 0 2 0), (16, .int .i64 w), (17, .int .i64 ((bk : Nat) : Int)), (18, .int .i64 (.ofNat i0))] [⟨[o0, .cells x.c, o2], []⟩] k = r := by
  intro j
  induction j with
  | zero => intro i0 bk w h1 h2; omega
  | succ j ih =>
    intro i0 bk w h1 h2 hb8 hbk hw h0 h100 k1
    have hx := hg.ok
    have hnb := (check_fine hg.ck).nb
    have hnp := (check_fine hg.ck).np
    have hlen := hg.tr.len
    refine loop_succ hB ?_
    conv => lhs; whnf
    repeat' ((first | refine Qw hB ?_ | refine Qv hB ht6 ?_ | refine Qf hB ?_ | refine lt_nat hB (fun h => ?_) (fun h => ?_) | refine Q0 hB rfl ?_ | refine Q1 hB (by decide) ?_ | refine Q2 hB (by decide) ?_ | refine Q3 hB (by decide) ?_ | refine Q4 hB (by decide) ?_ | refine Q5 hB (by decide) ?_ | refine Q6 hB (by decide) ?_ | refine Q7 hB (by omega) (by omega) ?_ | refine Q8 hB ?_ | refine Q9 hB ?_ | refine Qa hB ?_ | refine Qb hB (fun _ => ?_) (fun _ => ?_) | refine Qc hB ?_ | refine Qd hB ?_ | refine Qe hB ?_ | refine Qf hB ?_ | refine Qg hB ?_ | refine Qh hB ?_ | refine Qi hB ?_ | refine Qj hB rfl ?_ | refine Qk hB rfl ?_ | refine Ql hB (by first | omega | decide) ?_ | refine Qm hB rfl ?_ | refine Qn hB ?_ | refine Qo hB rfl ?_ | refine Qo hB (Qp rfl) ?_ | refine Qq hB rfl ?_ | refine Qr hB ?_ | refine Qs hB ?_ | refine Qt hB ?_ | refine Qu hB ?_ | refine Qv hB rfl ?_) <;> conv => lhs; whnf)
    · obtain ⟨z, hz⟩ : ∃ z, tru[i0]? = some z := ⟨tru[i0], by simp [h]⟩
      have hxz : (rowsI tru)[i0]? = some [.int .i64 z] := by
        rw [List.getElem?_eq_getElem h] at hz
        rw [← Option.some.inj hz]
        exact row_get h
      have htk : tru.take (i0 + 1) = tru.take i0 ++ [z] := by
        rw [List.take_succ_eq_append_getElem h]
        rw [List.getElem?_eq_getElem h] at hz
        rw [Option.some.inj hz]
      have A22 := H22 i0 h
      have A25 := H25 i0 h
      have A37 := H37 i0 h
      have A38 := H38 i0
      rcases hg.tr.key hz with rfl | ⟨m, rfl, hm⟩
      · have hto := told_odd hg hz
        repeat' ((first | refine Qw hB ?_ | refine Qv hB hx.tp ?_ | refine Qv hB hx.tb ?_ | refine Qv hB ht6 ?_ | refine Qv hB ht9 ?_ | refine Qv hB ht10 ?_ | refine Qv hB (wtok_pur _) ?_ | refine Qf hB ?_ | refine QC hB (m := i0) rfl ?_ | refine QB hB hxz ?_ | refine Q0 hB (by simp [purs, pur, hx.tp, hx.tb, wtok_pur]) ?_ | refine Qx hB A22 ?_ | refine Qx hB A25 ?_ | refine Qx hB A37 ?_ | refine Qx hB A38 ?_ | refine Q6 hB hto ?_ | refine Q0 hB rfl ?_ | refine Q1 hB (by decide) ?_ | refine Q2 hB (by decide) ?_ | refine Q3 hB (by decide) ?_ | refine Q4 hB (by decide) ?_ | refine Q5 hB (by decide) ?_ | refine Q6 hB (by decide) ?_ | refine Q7 hB (by omega) (by omega) ?_ | refine Q8 hB ?_ | refine Q9 hB ?_ | refine Qa hB ?_ | refine Qb hB (fun _ => ?_) (fun _ => ?_) | refine Qc hB ?_ | refine Qd hB ?_ | refine Qe hB ?_ | refine Qf hB ?_ | refine Qg hB ?_ | refine Qh hB ?_ | refine Qi hB ?_ | refine Qj hB rfl ?_ | refine Qk hB rfl ?_ | refine Ql hB (by first | omega | decide) ?_ | refine Qm hB rfl ?_ | refine Qn hB ?_ | refine Qo hB rfl ?_ | refine Qo hB (Qp rfl) ?_ | refine Qq hB rfl ?_ | refine Qr hB ?_ | refine Qs hB ?_ | refine Qt hB ?_ | refine Qu hB ?_ | refine Qv hB rfl ?_) <;> conv => lhs; whnf)
        rw [clampTok_pur ht6, clampTok_pur ht9, clampTok_pur ht10]
        refine ih (i0 + 1) bk w (by omega) (by omega) hb8 (fun n => ?_) ?_ h0 (by omega) k1
        · rw [hbk, htk, List.mem_append]
          exact ⟨.inl, fun h => h.elim id fun h => by simp at h⟩
        · rw [htk, val_snoc, if_pos rfl, hw, Int.add_zero]
      · have hto := told_par hg hz hm
        obtain ⟨p, hp⟩ := meantRow x hm
        have hxp : (x.ps.map Parcel.c)[m]? = some p.c := by simp [hp]
        have hv : valueOf x m = p.value := by unfold valueOf; rw [hp]
        have hvb := value_in hg.ck m
        rw [hv] at hvb
        have A39 := H39 i0 (m : Int) h
        have hpl : ¬ placeI (whichL x (i0 : Int)) (m : Int) 0 < 0 := by
          have := (place_iff (Int.le_refl 0)).2 (which_mem (hg.w h) hm (hg.can hz))
          omega
        repeat' ((first | refine Qw hB ?_ | refine Qv hB hx.tp ?_ | refine Qv hB hx.tb ?_ | refine Qv hB ht6 ?_ | refine Qv hB ht9 ?_ | refine Qv hB ht10 ?_ | refine Qv hB (wtok_pur _) ?_ | refine Qf hB ?_ | refine QC hB (m := i0) rfl ?_ | refine QB hB hxz ?_ | refine QC hB (m := m) rfl ?_ | refine QB hB hxp ?_ | refine Q0 hB (by simp [purs, pur, hx.tp, hx.tb, wtok_pur]) ?_ | refine Qx hB A22 ?_ | refine Qx hB A25 ?_ | refine Qx hB A37 ?_ | refine Qx hB A38 ?_ | refine Qx hB A39 ?_ | refine Q6 hB hto ?_ | refine Q2 hB hpl ?_ | refine Q2 hB (by omega) ?_ | refine add_step hB (by omega) (by omega) ?_ | refine Qm hB (shl_ok rfl (by omega)) ?_ | refine Qm hB (or_ok rfl hb8 (by omega)) ?_ | refine Q0 hB rfl ?_ | refine Q1 hB (by decide) ?_ | refine Q2 hB (by decide) ?_ | refine Q3 hB (by decide) ?_ | refine Q4 hB (by decide) ?_ | refine Q5 hB (by decide) ?_ | refine Q6 hB (by decide) ?_ | refine Q7 hB (by omega) (by omega) ?_ | refine Q8 hB ?_ | refine Q9 hB ?_ | refine Qa hB ?_ | refine Qb hB (fun _ => ?_) (fun _ => ?_) | refine Qc hB ?_ | refine Qd hB ?_ | refine Qe hB ?_ | refine Qf hB ?_ | refine Qg hB ?_ | refine Qh hB ?_ | refine Qi hB ?_ | refine Qj hB rfl ?_ | refine Qk hB rfl ?_ | refine Ql hB (by first | omega | decide) ?_ | refine Qm hB rfl ?_ | refine Qn hB ?_ | refine Qo hB rfl ?_ | refine Qo hB (Qp rfl) ?_ | refine Qq hB rfl ?_ | refine Qr hB ?_ | refine Qs hB ?_ | refine Qt hB ?_ | refine Qu hB ?_ | refine Qv hB rfl ?_) <;> conv => lhs; whnf)
        rw [clampTok_pur ht6, clampTok_pur ht9, clampTok_pur ht10]
        refine ih (i0 + 1) (bk ||| 1 <<< m) (w + p.value) (by omega) (by omega) (bits_lt hb8 (by omega)) (fun n => ?_) ?_ (by omega) (by omega) k1
        · rw [bit_or, Bool.or_eq_true, hbk, htk, List.mem_append, decide_eq_true_eq, List.mem_singleton]
          constructor
          · rintro (h | h)
            · exact .inl h
            · exact .inr (by omega)
          · rintro (h | h)
            · exact .inl h
            · exact .inr (by omega)
        · rw [htk, val_snoc, if_neg (by omega), hw, Int.toNat_natCast, hv]
    · repeat' ((first | refine Qw hB ?_ | refine Qv hB ht6 ?_ | refine Qv hB ht9 ?_ | refine Qv hB ht10 ?_ | refine Q0 hB rfl ?_ | refine Q1 hB (by decide) ?_ | refine Q2 hB (by decide) ?_ | refine Q3 hB (by decide) ?_ | refine Q4 hB (by decide) ?_ | refine Q5 hB (by decide) ?_ | refine Q6 hB (by decide) ?_ | refine Q7 hB (by omega) (by omega) ?_ | refine Q8 hB ?_ | refine Q9 hB ?_ | refine Qa hB ?_ | refine Qb hB (fun _ => ?_) (fun _ => ?_) | refine Qc hB ?_ | refine Qd hB ?_ | refine Qe hB ?_ | refine Qf hB ?_ | refine Qg hB ?_ | refine Qh hB ?_ | refine Qi hB ?_ | refine Qj hB rfl ?_ | refine Qk hB rfl ?_ | refine Ql hB (by first | omega | decide) ?_ | refine Qm hB rfl ?_ | refine Qn hB ?_ | refine Qo hB rfl ?_ | refine Qo hB (Qp rfl) ?_ | refine Qq hB rfl ?_ | refine Qr hB ?_ | refine Qs hB ?_ | refine Qt hB ?_ | refine Qu hB ?_ | refine Qv hB rfl ?_) <;> conv => lhs; whnf)
      have hi : i0 = tru.length := by omega
      subst hi
      rw [List.take_length] at hbk hw
      rw [clampTok_pur ht6, clampTok_pur ht9, clampTok_pur ht10, hw]
      exact k1 _ _ hb8 hbk
theorem a7_L1_two {B : Bnd} (hB : B = Bk) {cl : CallK} {rd : RoundK} (x : Desk) (tru : List Int) (hg : Good x tru) {t6 t9 t10 s6 s9 s10 : Tok} (e6 : s6 = t6) (e9 : s9 = t9) (e10 : s10 = t10) (ht6 : purTok t6 = true) (ht9 : purTok t9 = true) (ht10 : purTok t10 = true) (sure perh : List Int) (o0 o2 : AObj)
    (H22 : ∀ i : Nat, i < tru.length → cl 0 22 [x.v, .int .i64 (i : Int)] [] ansK = some (.tup [.sl (rowsI (whichL x (i : Int))) (wtok (whichL x (i : Int))), .int .i64 0], []))
    (H25 : ∀ i : Nat, i < tru.length → cl 0 25 [x.v, .int .i64 (i : Int)] [] ansK = some (.tup [.int .i64 (toldV x (i : Int)), .int .i64 0], []))
    (H37 : ∀ i : Nat, i < tru.length → cl 0 37 [.sl (rowsI (whichL x (i : Int))) (wtok (whichL x (i : Int))), .int .i64 (.ofNat x.ps.length)] [] ansK = some (.bool true, []))
    (H38 : ∀ i : Nat, cl 0 38 [.int .i64 (toldV x (i : Int)), .int .i64 0, .int .i64 2] [] ansK = some (.bool true, []))
    (H39 : ∀ (i : Nat) (z : Int), i < tru.length → cl 0 39 [.sl (rowsI (whichL x (i : Int))) (wtok (whichL x (i : Int))), .int .i64 z] [] ansK = some (.int .i64 (placeI (whichL x (i : Int)) z 0), []))
    (n : Nat) (k : Ex → Env → St → Ans) (r : Ans) (j : Nat) (hj : tru.length < j)
    (k1 : ∀ y bk, bk < 256 → (∀ n : Nat, bk.testBit n = true ↔ (n : Int) ∈ tru) → k (.exit 0) [(4, .bool false), (5, .ptr 0 1 0), (6, .sl (rowsI tru) t6), (9, .sl (rowsI sure) t9), (10, .sl (rowsI perh) t10), (12, .ptr 0 2 0), (16, .int .i64 (val x tru)), (17, .int .i64 ((bk : Nat) : Int)), (18, .int .i64 y)] [⟨[o0, .cells x.c, o2], []⟩] = r) :
    B.loop (evCK B a7_L1) [4, 5, 6, 9, 10, 12, 16, 17, 18] n j cl rd Gx 0 1 [(4, .bool false), (5, .ptr 0 1 0), (6, .sl (rowsI tru) s6), (9, .sl (rowsI sure) s9), (10, .sl (rowsI perh) s10), (12, .ptr 0 2 0), (16, .int .i64 0), (17, .int .i64 0), (18, .int .i64 0)] [⟨[o0, .cells x.c, o2], []⟩] k = r := by
  subst e6 e9 e10
  exact a7_L1_step hB x tru hg ht6 ht9 ht10 sure perh o0 o2 H22 H25 H37 H38 H39 n k r j 0 0 0 (by omega) (by omega) (by omega) (fun n => by simp) rfl (by omega) (by omega) k1

/-- What is told of the parcels. -/
structure Backs (P : Nat) (tru sure perh : List Int) : Prop where
  inS : ∀ k : Nat, k < P → (k : Int) ∈ sure → (k : Int) ∈ tru
  inB : ∀ k : Nat, k < P → (k : Int) ∈ tru → (k : Int) ∈ sure ∨ (k : Int) ∈ perh
  one : ∀ k : Nat, k < P → (k : Int) ∈ sure → (k : Int) ∉ perh
set_option maxHeartbeats 4000000 in
theorem a7_L2_step {B : Bnd} (hB : B = Bk) {cl : CallK} {rd : RoundK} (x : Desk) (hx : x.ok) (hnp : x.ps.length ≤ 8) (tru sure perh : List Int) (hb : Backs x.ps.length tru sure perh) {t9 t10 : Tok} (ht9 : purTok t9 = true) (ht10 : purTok t10 = true) (o0 o2 : AObj) (w : Int) (bk : Nat) (hbk : ∀ n : Nat, bk.testBit n = true ↔ (n : Int) ∈ tru)
    (H39s : ∀ z : Int, cl 0 39 [.sl (rowsI sure) t9, .int .i64 z] [] ansK = some (.int .i64 (placeI sure z 0), []))
    (H39p : ∀ z : Int, cl 0 39 [.sl (rowsI perh) t10, .int .i64 z] [] ansK = some (.int .i64 (placeI perh z 0), []))
    (H40 : ∀ k : Nat, k < 9 → cl 0 40 [.int .i64 ((bk : Nat) : Int), .int .i64 (k : Int)] [] ansK = some (.bool (bk.testBit k), []))
    (n : Nat) (k : Ex → Env → St → Ans) (r : Ans) :
    ∀ (j i0 : Nat), x.ps.length < i0 + j → i0 ≤ x.ps.length →
    (∀ y, k (.exit 2) [(4, .bool false), (5, .ptr 0 1 0), (9, .sl (rowsI sure) t9), (10, .sl (rowsI perh) t10), (12, .ptr 0 2 0), (16, .int .i64 w), (17, .int .i64 ((bk : Nat) : Int)), (23, .int .i64 y)] [⟨[o0, .cells x.c, o2], []⟩] = r) →
    B.loop (evCK B a7_L2) [4, 5, 9, 10, 12, 16, 17, 23] n j cl rd Gx 0 1 [(4, .bool false), (5, .ptr 0 1 0), (9, .sl (rowsI sure) t9), (10, .sl (rowsI perh) t10), (12, .ptr 0 2 0), (16, .int .i64 w), (17, .int .i64 ((bk : Nat) : Int)), (23, .int .i64 (.ofNat i0))] [⟨[o0, .cells x.c, o2], []⟩] k = r := by
  intro j
  induction j with
  | zero => intro i0 h1 h2; omega
  | succ j ih =>
    intro i0 h1 h2 k1
    refine loop_succ hB ?_
    conv => lhs; whnf
    repeat' ((first | refine Qw hB ?_ | refine Qv hB hx.tp ?_ | refine Qf hB ?_ | refine lt_nat hB (fun h => ?_) (fun h => ?_) | refine Q0 hB rfl ?_ | refine Q1 hB (by decide) ?_ | refine Q2 hB (by decide) ?_ | refine Q3 hB (by decide) ?_ | refine Q4 hB (by decide) ?_ | refine Q5 hB (by decide) ?_ | refine Q6 hB (by decide) ?_ | refine Q7 hB (by omega) (by omega) ?_ | refine Q8 hB ?_ | refine Q9 hB ?_ | refine Qa hB ?_ | refine Qb hB (fun _ => ?_) (fun _ => ?_) | refine Qc hB ?_ | refine Qd hB ?_ | refine Qe hB ?_ | refine Qf hB ?_ | refine Qg hB ?_ | refine Qh hB ?_ | refine Qi hB ?_ | refine Qj hB rfl ?_ | refine Qk hB rfl ?_ | refine Ql hB (by first | omega | decide) ?_ | refine Qm hB rfl ?_ | refine Qn hB ?_ | refine Qo hB rfl ?_ | refine Qo hB (Qp rfl) ?_ | refine Qq hB rfl ?_ | refine Qr hB ?_ | refine Qs hB ?_ | refine Qt hB ?_ | refine Qu hB ?_ | refine Qv hB rfl ?_) <;> conv => lhs; whnf)
    · have HI := H40 i0 (by omega)
      have hs : 0 ≤ placeI sure (i0 : Int) 0 ↔ (i0 : Int) ∈ sure := place_iff (Int.le_refl 0)
      have hp : 0 ≤ placeI perh (i0 : Int) 0 ↔ (i0 : Int) ∈ perh := place_iff (Int.le_refl 0)
      by_cases a1 : (i0 : Int) ∈ sure
      · have b1 : 0 ≤ placeI sure (i0 : Int) 0 := hs.2 a1
        have b2 : ¬ 0 ≤ placeI perh (i0 : Int) 0 := fun h' => hb.one i0 h a1 (hp.1 h')
        have c1 : ¬ placeI sure (i0 : Int) 0 < 0 := by omega
        have c2 : placeI perh (i0 : Int) 0 < 0 := by omega
        rw [(hbk i0).2 (hb.inS i0 h a1)] at HI
        conv => lhs; whnf
        repeat' ((first | refine Qw hB ?_ | refine Qv hB ht9 ?_ | refine Qv hB ht10 ?_ | refine Q0 hB (by simp [purs, pur, ht9, ht10]) ?_ | refine Qx hB (H39s _) ?_ | refine Qx hB (H39p _) ?_ | refine Qx hB HI ?_ | refine Q3 hB b1 ?_ | refine Q4 hB b1 ?_ | refine Q3 hB b2 ?_ | refine Q4 hB b2 ?_ | refine Q1 hB c1 ?_ | refine Q2 hB c1 ?_ | refine Q1 hB c2 ?_ | refine Q2 hB c2 ?_ | refine Q0 hB rfl ?_ | refine Q1 hB (by decide) ?_ | refine Q2 hB (by decide) ?_ | refine Q3 hB (by decide) ?_ | refine Q4 hB (by decide) ?_ | refine Q5 hB (by decide) ?_ | refine Q6 hB (by decide) ?_ | refine Q7 hB (by omega) (by omega) ?_ | refine Q8 hB ?_ | refine Q9 hB ?_ | refine Qa hB ?_ | refine Qb hB (fun _ => ?_) (fun _ => ?_) | refine Qc hB ?_ | refine Qd hB ?_ | refine Qe hB ?_ | refine Qf hB ?_ | refine Qg hB ?_ | refine Qh hB ?_ | refine Qi hB ?_ | refine Qj hB rfl ?_ | refine Qk hB rfl ?_ | refine Ql hB (by first | omega | decide) ?_ | refine Qm hB rfl ?_ | refine Qn hB ?_ | refine Qo hB rfl ?_ | refine Qo hB (Qp rfl) ?_ | refine Qq hB rfl ?_ | refine Qr hB ?_ | refine Qs hB ?_ | refine Qt hB ?_ | refine Qu hB ?_ | refine Qv hB rfl ?_) <;> conv => lhs; whnf)
        rw [clampTok_pur ht9, clampTok_pur ht10]
        exact ih (i0 + 1) (by omega) (by omega) k1
      · have b1 : ¬ 0 ≤ placeI sure (i0 : Int) 0 := fun h' => a1 (hs.1 h')
        by_cases a2 : (i0 : Int) ∈ tru
        · have b2 : 0 ≤ placeI perh (i0 : Int) 0 := hp.2 ((hb.inB i0 h a2).resolve_left a1)
          have c1 : placeI sure (i0 : Int) 0 < 0 := by omega
          have c2 : ¬ placeI perh (i0 : Int) 0 < 0 := by omega
          rw [(hbk i0).2 a2] at HI
          conv => lhs; whnf
          repeat' ((first | refine Qw hB ?_ | refine Qv hB ht9 ?_ | refine Qv hB ht10 ?_ | refine Q0 hB (by simp [purs, pur, ht9, ht10]) ?_ | refine Qx hB (H39s _) ?_ | refine Qx hB (H39p _) ?_ | refine Qx hB HI ?_ | refine Q3 hB b1 ?_ | refine Q4 hB b1 ?_ | refine Q3 hB b2 ?_ | refine Q4 hB b2 ?_ | refine Q1 hB c1 ?_ | refine Q2 hB c1 ?_ | refine Q1 hB c2 ?_ | refine Q2 hB c2 ?_ | refine Q0 hB rfl ?_ | refine Q1 hB (by decide) ?_ | refine Q2 hB (by decide) ?_ | refine Q3 hB (by decide) ?_ | refine Q4 hB (by decide) ?_ | refine Q5 hB (by decide) ?_ | refine Q6 hB (by decide) ?_ | refine Q7 hB (by omega) (by omega) ?_ | refine Q8 hB ?_ | refine Q9 hB ?_ | refine Qa hB ?_ | refine Qb hB (fun _ => ?_) (fun _ => ?_) | refine Qc hB ?_ | refine Qd hB ?_ | refine Qe hB ?_ | refine Qf hB ?_ | refine Qg hB ?_ | refine Qh hB ?_ | refine Qi hB ?_ | refine Qj hB rfl ?_ | refine Qk hB rfl ?_ | refine Ql hB (by first | omega | decide) ?_ | refine Qm hB rfl ?_ | refine Qn hB ?_ | refine Qo hB rfl ?_ | refine Qo hB (Qp rfl) ?_ | refine Qq hB rfl ?_ | refine Qr hB ?_ | refine Qs hB ?_ | refine Qt hB ?_ | refine Qu hB ?_ | refine Qv hB rfl ?_) <;> conv => lhs; whnf)
          rw [clampTok_pur ht9, clampTok_pur ht10]
          exact ih (i0 + 1) (by omega) (by omega) k1
        · have b3 : bk.testBit i0 = false := by
            rw [← Bool.not_eq_true, hbk]; exact a2
          rw [b3] at HI
          have c1 : placeI sure (i0 : Int) 0 < 0 := by omega
          have c2 := c1
          by_cases b2 : 0 ≤ placeI perh (i0 : Int) 0
          · conv => lhs; whnf
            repeat' ((first | refine Qw hB ?_ | refine Qv hB ht9 ?_ | refine Qv hB ht10 ?_ | refine Q0 hB (by simp [purs, pur, ht9, ht10]) ?_ | refine Qx hB (H39s _) ?_ | refine Qx hB (H39p _) ?_ | refine Qx hB HI ?_ | refine Q3 hB b1 ?_ | refine Q4 hB b1 ?_ | refine Q3 hB b2 ?_ | refine Q4 hB b2 ?_ | refine Q1 hB c1 ?_ | refine Q2 hB c1 ?_ | refine Q1 hB c2 ?_ | refine Q2 hB c2 ?_ | refine Q0 hB rfl ?_ | refine Q1 hB (by decide) ?_ | refine Q2 hB (by decide) ?_ | refine Q3 hB (by decide) ?_ | refine Q4 hB (by decide) ?_ | refine Q5 hB (by decide) ?_ | refine Q6 hB (by decide) ?_ | refine Q7 hB (by omega) (by omega) ?_ | refine Q8 hB ?_ | refine Q9 hB ?_ | refine Qa hB ?_ | refine Qb hB (fun _ => ?_) (fun _ => ?_) | refine Qc hB ?_ | refine Qd hB ?_ | refine Qe hB ?_ | refine Qf hB ?_ | refine Qg hB ?_ | refine Qh hB ?_ | refine Qi hB ?_ | refine Qj hB rfl ?_ | refine Qk hB rfl ?_ | refine Ql hB (by first | omega | decide) ?_ | refine Qm hB rfl ?_ | refine Qn hB ?_ | refine Qo hB rfl ?_ | refine Qo hB (Qp rfl) ?_ | refine Qq hB rfl ?_ | refine Qr hB ?_ | refine Qs hB ?_ | refine Qt hB ?_ | refine Qu hB ?_ | refine Qv hB rfl ?_) <;> conv => lhs; whnf)
            rw [clampTok_pur ht9, clampTok_pur ht10]
            exact ih (i0 + 1) (by omega) (by omega) k1
          · conv => lhs; whnf
            repeat' ((first | refine Qw hB ?_ | refine Qv hB ht9 ?_ | refine Qv hB ht10 ?_ | refine Q0 hB (by simp [purs, pur, ht9, ht10]) ?_ | refine Qx hB (H39s _) ?_ | refine Qx hB (H39p _) ?_ | refine Qx hB HI ?_ | refine Q3 hB b1 ?_ | refine Q4 hB b1 ?_ | refine Q3 hB b2 ?_ | refine Q4 hB b2 ?_ | refine Q1 hB c1 ?_ | refine Q2 hB c1 ?_ | refine Q1 hB c2 ?_ | refine Q2 hB c2 ?_ | refine Q0 hB rfl ?_ | refine Q1 hB (by decide) ?_ | refine Q2 hB (by decide) ?_ | refine Q3 hB (by decide) ?_ | refine Q4 hB (by decide) ?_ | refine Q5 hB (by decide) ?_ | refine Q6 hB (by decide) ?_ | refine Q7 hB (by omega) (by omega) ?_ | refine Q8 hB ?_ | refine Q9 hB ?_ | refine Qa hB ?_ | refine Qb hB (fun _ => ?_) (fun _ => ?_) | refine Qc hB ?_ | refine Qd hB ?_ | refine Qe hB ?_ | refine Qf hB ?_ | refine Qg hB ?_ | refine Qh hB ?_ | refine Qi hB ?_ | refine Qj hB rfl ?_ | refine Qk hB rfl ?_ | refine Ql hB (by first | omega | decide) ?_ | refine Qm hB rfl ?_ | refine Qn hB ?_ | refine Qo hB rfl ?_ | refine Qo hB (Qp rfl) ?_ | refine Qq hB rfl ?_ | refine Qr hB ?_ | refine Qs hB ?_ | refine Qt hB ?_ | refine Qu hB ?_ | refine Qv hB rfl ?_) <;> conv => lhs; whnf)
            rw [clampTok_pur ht9, clampTok_pur ht10]
            exact ih (i0 + 1) (by omega) (by omega) k1
    · repeat' ((first | refine Qw hB ?_ | refine Qv hB ht9 ?_ | refine Qv hB ht10 ?_ | refine Q0 hB rfl ?_ | refine Q1 hB (by decide) ?_ | refine Q2 hB (by decide) ?_ | refine Q3 hB (by decide) ?_ | refine Q4 hB (by decide) ?_ | refine Q5 hB (by decide) ?_ | refine Q6 hB (by decide) ?_ | refine Q7 hB (by omega) (by omega) ?_ | refine Q8 hB ?_ | refine Q9 hB ?_ | refine Qa hB ?_ | refine Qb hB (fun _ => ?_) (fun _ => ?_) | refine Qc hB ?_ | refine Qd hB ?_ | refine Qe hB ?_ | refine Qf hB ?_ | refine Qg hB ?_ | refine Qh hB ?_ | refine Qi hB ?_ | refine Qj hB rfl ?_ | refine Qk hB rfl ?_ | refine Ql hB (by first | omega | decide) ?_ | refine Qm hB rfl ?_ | refine Qn hB ?_ | refine Qo hB rfl ?_ | refine Qo hB (Qp rfl) ?_ | refine Qq hB rfl ?_ | refine Qr hB ?_ | refine Qs hB ?_ | refine Qt hB ?_ | refine Qu hB ?_ | refine Qv hB rfl ?_) <;> conv => lhs; whnf)
      rw [clampTok_pur ht9, clampTok_pur ht10]
      exact k1 _
theorem a7_L2_two {B : Bnd} (hB : B = Bk) {cl : CallK} {rd : RoundK} (x : Desk) (hx : x.ok) (hnp : x.ps.length ≤ 8) (tru sure perh : List Int) (hb : Backs x.ps.length tru sure perh) {t9 t10 s9 s10 : Tok} (e9 : s9 = t9) (e10 : s10 = t10) (ht9 : purTok t9 = true) (ht10 : purTok t10 = true) (o0 o2 : AObj) (w : Int) (bk : Nat) (hbk : ∀ n : Nat, bk.testBit n = true ↔ (n : Int) ∈ tru)
    (H39s : ∀ z : Int, cl 0 39 [.sl (rowsI sure) t9, .int .i64 z] [] ansK = some (.int .i64 (placeI sure z 0), []))
    (H39p : ∀ z : Int, cl 0 39 [.sl (rowsI perh) t10, .int .i64 z] [] ansK = some (.int .i64 (placeI perh z 0), []))
    (H40 : ∀ k : Nat, k < 9 → cl 0 40 [.int .i64 ((bk : Nat) : Int), .int .i64 (k : Int)] [] ansK = some (.bool (bk.testBit k), []))
    (n : Nat) (k : Ex → Env → St → Ans) (r : Ans) (j : Nat) (hj : x.ps.length < j)
    (k1 : ∀ y, k (.exit 2) [(4, .bool false), (5, .ptr 0 1 0), (9, .sl (rowsI sure) t9), (10, .sl (rowsI perh) t10), (12, .ptr 0 2 0), (16, .int .i64 w), (17, .int .i64 ((bk : Nat) : Int)), (23, .int .i64 y)] [⟨[o0, .cells x.c, o2], []⟩] = r) :
    B.loop (evCK B a7_L2) [4, 5, 9, 10, 12, 16, 17, 23] n j cl rd Gx 0 1 [(4, .bool false), (5, .ptr 0 1 0), (9, .sl (rowsI sure) s9), (10, .sl (rowsI perh) s10), (12, .ptr 0 2 0), (16, .int .i64 w), (17, .int .i64 ((bk : Nat) : Int)), (23, .int .i64 0)] [⟨[o0, .cells x.c, o2], []⟩] k = r := by
  subst e9 e10
  exact a7_L2_step hB x hx hnp tru sure perh hb ht9 ht10 o0 o2 w bk hbk H39s H39p H40 n k r j 0 (by omega) (by omega) k1
end Go.Ab.Cl
