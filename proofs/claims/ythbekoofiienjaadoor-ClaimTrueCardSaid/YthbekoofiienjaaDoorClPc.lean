/-
  The claims: made.
-/
import Derived.Test.YthbekoofiienjaaDoorClKc
import Derived.Test.YthbekoofiienjaaDoorClI
namespace Go.Ab.Cl
open Go.Ab

theorem tok_set2 {T : List (Nat × Nat × Nat)} {p : Nat} {x : Nat × Nat} (q : Nat) : tokGet (tokSet T p x) q = if p = q then x else tokGet T q := by
  induction T with
  | nil => simp [tokSet, tokGet]
  | cons y T ih =>
    obtain ⟨r, y⟩ := y
    simp only [tokSet]
    by_cases h : r = p
    · subst h
      rw [if_pos rfl]
      simp only [tokGet]
      split <;> rfl
    · rw [if_neg h]
      simp only [tokGet]
      by_cases h2 : r = q
      · subst h2
        rw [if_pos rfl, if_pos rfl, if_neg (fun e => h e.symm)]
      · rw [if_neg h2, if_neg h2, ih]
/-- The rights on a list that grows at two places. -/
def BT (T : List (Nat × Nat × Nat)) (n p q : Nat) (tok : Tok) : Prop := (n = 0 ∧ tok = .nil ∧ tokGet T p = (0, 0) ∧ tokGet T q = (0, 0)) ∨ (n ≠ 0 ∧ ∃ r, (r = p ∨ r = q) ∧ tok = .site 0 r 1 ∧ tokGet T r = (1, n))
theorem BT.clamp {T : List (Nat × Nat × Nat)} {n p q : Nat} {tok : Tok} (h : BT T n p q tok) (lv : Nat) : clampTok lv tok = tok := by
  rcases h with ⟨_, rfl, _⟩ | ⟨_, r, _, rfl, _⟩
  · rfl
  · simp [clampTok]
theorem BT.erase {T : List (Nat × Nat × Nat)} {n p q : Nat} {tok : Tok} (h : BT T n p q tok) : eraseTok tok = if n = 0 then .nil else .any := by
  rcases h with ⟨h, rfl, _⟩ | ⟨h, r, _, rfl, _⟩
  · rw [if_pos h]; rfl
  · rw [if_neg h]; rfl
theorem BT.other {T T' : List (Nat × Nat × Nat)} {n p q : Nat} {tok : Tok} (h : BT T n p q tok) (hT : ∀ s, s = p ∨ s = q → tokGet T' s = tokGet T s) : BT T' n p q tok := by
  rcases h with ⟨h1, h2, h3, h4⟩ | ⟨h1, r, h2, h3, h4⟩
  · exact .inl ⟨h1, h2, by rw [hT p (.inl rfl), h3], by rw [hT q (.inr rfl), h4]⟩
  · exact .inr ⟨h1, r, h2, h3, by rw [hT r h2, h4]⟩
theorem app_bt {T : List (Nat × Nat × Nat)} {p q r e bytes : Nat} {rows : List (List AV)} {tok : Tok} (h : BT T rows.length p q tok) (hr : r = p ∨ r = q) {row : List AV} (hrow : row.length = e) (hpu : purs row = true) (he : 0 < e) (hb : (rows.length + 1) * bytes ≤ 140737488355328) (hrs : ∀ x ∈ rows, x.length = e) :
    ∃ tok' T', (∀ F os, appAt 0 [F, ⟨os, T⟩] r e bytes (.sl rows tok) (.sl [row] .full) = some (.sl (rows ++ [row]) tok', [F, ⟨os, T'⟩])) ∧ BT T' (rows.length + 1) p q tok' ∧ ∀ s, s ≠ p → s ≠ q → tokGet T' s = tokGet T s := by
  have h1 : headFit e rows = true := by cases rows with | nil => rfl | cons a r => simp [headFit, hrs a (by simp)]
  have h2 : headFit e [row] = true := by simp [headFit, hrow]
  rcases h with ⟨hn, rfl, hp, hq⟩ | ⟨hn, r', hr', rfl, hg⟩
  · have hg : tokGet T r = (0, 0) := by rcases hr with rfl | rfl <;> assumption
    refine ⟨.site 0 r 1, tokSet T r (1, rows.length + 1), fun F os => ?_, .inr ⟨by omega, r, hr, rfl, by rw [tok_set2, if_pos rfl]⟩, fun s h1 h2 => ?_⟩
    · simp [appAt, rowsAt, h1, h2, he, hb, hpu, getTok, setTok, modFr, getFr, hg]
    · rw [tok_set2, if_neg]
      rintro rfl
      rcases hr with rfl | rfl
      · exact h1 rfl
      · exact h2 rfl
  · refine ⟨.site 0 r' 1, tokSet T r' (1, rows.length + 1), fun F os => ?_, .inr ⟨by omega, r', hr', rfl, by rw [tok_set2, if_pos rfl]⟩, fun s h1 h2 => ?_⟩
    · simp [appAt, rowsAt, h1, h2, he, hb, hpu, getTok, setTok, modFr, getFr, hg]
    · rw [tok_set2, if_neg]
      rintro rfl
      rcases hr' with rfl | rfl
      · exact h1 rfl
      · exact h2 rfl
/-- What is left to make. -/
def madeFrom (d : Desk) (bits : List Int) (s : Md) (i : Nat) : Md := (List.range' i (d.bs.length - i)).foldl (madeStep d bits) s
theorem mf_end {d : Desk} {bits : List Int} {s : Md} {i : Nat} (h : d.bs.length ≤ i) : madeFrom d bits s i = s := by
  unfold madeFrom
  rw [Nat.sub_eq_zero_of_le h]; rfl
theorem mf_step {d : Desk} {bits : List Int} {s : Md} {i : Nat} (h : i < d.bs.length) : madeFrom d bits s i = madeFrom d bits (madeStep d bits s i) (i + 1) := by
  unfold madeFrom
  rw [show d.bs.length - i = (d.bs.length - (i + 1)) + 1 by omega, List.range'_succ, List.foldl_cons]

theorem a36_L2_two {B : Bnd} (hB : B = Bk) {cl : CallK} {rd : RoundK} (bits : List Int) (i : Nat) (hi : i ≤ 6) (b : Box) (p : Parcel) (q : List UInt8) (hq : q.length = 4) (fr : Fr)
    {t1 t1s : Tok} (e1 : t1s = t1) (ht1 : purTok t1 = true) (tr : List Int) {t7 t7s : Tok} (e7 : t7s = t7) (h7 : clampTok 1 t7 = t7) (z8 z9 z12 : Int)
    (H80 : ∀ z : Int, cl 0 80 [.sl (rowsI bits) t1, .int .i64 z] [] ansK = some (.int .i64 (takeZ bits z), []))
    (H42 : ∀ a c : Int, c ≤ 1000 → cl 0 42 [.int .i64 a, .int .i64 c] [] ansK = some (.int .i64 (spin a c), []))
    (H46 : cl 0 46 [.int .i64 p.mark] [] ansK = some (.str q, [])) (n : Nat) (k : Ex → Env → St → Ans) (r : Ans) (j : Nat) (hj : 10 ≤ j)
    (k1 : ∀ x, k (.exit 2) [(1, .sl (rowsI bits) t1), (2, .ptr 0 0 0), (4, .ptr 0 1 0), (6, .ptr 0 2 0), (7, .sl (rowsI tr) t7), (8, .int .i64 z8), (9, .int .i64 z9), (10, .int .i64 (.ofNat i)), (11, .ptr 1 0 0), (12, .int .i64 z12), (13, .ptr 1 1 0), (15, .int .i64 x)] [⟨[.cells (boxC b (markZ bits i q)), .cells p.c], []⟩, fr] = r) :
    B.loop (evCK B a36_L2) [1, 2, 4, 6, 7, 8, 9, 10, 11, 12, 13, 15] n j cl rd Gx 0 2 [(1, .sl (rowsI bits) t1s), (2, .ptr 0 0 0), (4, .ptr 0 1 0), (6, .ptr 0 2 0), (7, .sl (rowsI tr) t7s), (8, .int .i64 z8), (9, .int .i64 z9), (10, .int .i64 (.ofNat i)), (11, .ptr 1 0 0), (12, .int .i64 z12), (13, .ptr 1 1 0), (15, .int .i64 0)] [⟨[.cells (boxC b []), .cells p.c], []⟩, fr] k = r := by
  subst e1 e7
  by_cases hcond : 0 < spin (takeZ bits ((i : Int) + 5)) 4
  · have e : markZ bits i q = markTo bits i q 4 := if_pos hcond
    rw [e] at k1
    exact a36_L2_step hB bits i hi b p.c q hq p.mark rfl fr ht1 tr _ h7 z8 z9 z12 H80 H42 H46 hcond n k r j 0 (by omega) (by omega) k1
  · have e : markZ bits i q = [] := if_neg hcond
    rw [e] at k1
    obtain ⟨j, rfl⟩ : ∃ j', j = j' + 1 := ⟨j - 1, by omega⟩
    refine loop_succ hB ?_
    conv => lhs; whnf
    repeat' ((first | refine Qw hB ?_ | refine Qv hB ht1 ?_ | refine Q2 hB hcond ?_ | refine Q0 hB (by simp [purs, pur, ht1]) ?_ | refine Qx hB (H80 _) ?_ | refine Qx hB (H42 _ _ (by omega)) ?_ | refine add_step hB (by simp only [Int.ofNat_eq_natCast]; omega) (by simp only [Int.ofNat_eq_natCast]; omega) ?_ | refine Qc hB ?_ | refine Q0 hB rfl ?_ | refine Q1 hB (by decide) ?_ | refine Q2 hB (by decide) ?_ | refine Q3 hB (by decide) ?_ | refine Q4 hB (by decide) ?_ | refine Q5 hB (by decide) ?_ | refine Q6 hB (by decide) ?_ | refine Q7 hB (by omega) (by omega) ?_ | refine Q8 hB ?_ | refine Q9 hB ?_ | refine Qa hB ?_ | refine Qb hB (fun _ => ?_) (fun _ => ?_) | refine Qc hB ?_ | refine Qd hB ?_ | refine Qe hB ?_ | refine Qf hB ?_ | refine Qg hB ?_ | refine Qh hB ?_ | refine Qi hB ?_ | refine Qj hB rfl ?_ | refine Qk hB rfl ?_ | refine Ql hB (by first | omega | decide) ?_ | refine Qm hB rfl ?_ | refine Qn hB ?_ | refine Qo hB rfl ?_ | refine Qo hB (Qp rfl) ?_ | refine Qq hB rfl ?_ | refine Qr hB ?_ | refine Qs hB ?_ | refine Qt hB ?_ | refine Qu hB ?_ | refine Qv hB rfl ?_) <;> conv => lhs; whnf)
    rw [clampTok_pur ht1, h7]
    exact k1 _
set_option maxHeartbeats 40000000 in
theorem a36_L1_step {B : Bnd} (hB : B = Bk) {cl : CallK} {rd : RoundK} (d : Desk) (hd : d.ok) (hc : d.check = true) (bits : List Int) {t1 : Tok} (ht1 : purTok t1 = true) (z6 : AObj)
    (H80 : ∀ z : Int, cl 0 80 [.sl (rowsI bits) t1, .int .i64 z] [] ansK = some (.int .i64 (takeZ bits z), []))
    (H81 : ∀ a b z : Int, 0 ≤ a → b ≤ 1000000 → cl 0 81 [.agg [.int .i64 a, .int .i64 b], .int .i64 z] [] ansK = some (.int .i64 (lotZ a b z), []))
    (H42 : ∀ a c : Int, c ≤ 1000 → cl 0 42 [.int .i64 a, .int .i64 c] [] ansK = some (.int .i64 (spin a c), []))
    (H43 : ∀ a b : Int, cl 0 43 [.int .i64 a, .int .i64 b] [] ansK = some (.agg [.int .i64 a, .int .i64 b], []))
    (H46 : ∀ m : Nat, m < 10000 → cl 0 46 [.int .i64 (m : Int)] [] ansK = some (.str (d4 m), []))
    (H40 : ∀ t k : Nat, t < 512 → k < 9 → cl 0 40 [.int .i64 (t : Int), .int .i64 (k : Int)] [] ansK = some (.bool (t.testBit k), []))
    (n : Nat) (hn : 100 ≤ n) (k : Ex → Env → St → Ans) (r : Ans) :
    ∀ (j i0 : Nat) (s : Md) (tb tt : Tok) (T : List (Nat × Nat × Nat)), d.bs.length < i0 + j → i0 ≤ d.bs.length → MdOk d i0 s → BT T s.bs.length 75 172 tb → BT T s.tr.length 78 176 tt →
    (∀ x tb tt T s', s' = madeFrom d bits s i0 → BT T s'.bs.length 75 172 tb → BT T s'.tr.length 78 176 tt → k (.exit 0) [(1, .sl (rowsI bits) t1), (2, .ptr 0 0 0), (4, .ptr 0 1 0), (6, .ptr 0 2 0), (7, .sl (rowsI s'.tr) tt), (8, .int .i64 (s'.tk : Int)), (9, .int .i64 s'.od), (10, .int .i64 x)] [⟨[.cells d.c, z6, .cells (dcB d (.sl (s'.bs.map Box.c) tb))], T⟩] = r) →
    B.loop (evCK B a36_L1) [1, 2, 4, 6, 7, 8, 9, 10] n j cl rd Gx 0 1 [(1, .sl (rowsI bits) t1), (2, .ptr 0 0 0), (4, .ptr 0 1 0), (6, .ptr 0 2 0), (7, .sl (rowsI s.tr) tt), (8, .int .i64 (s.tk : Int)), (9, .int .i64 s.od), (10, .int .i64 (.ofNat i0))] [⟨[.cells d.c, z6, .cells (dcB d (.sl (s.bs.map Box.c) tb))], T⟩] k = r := by
  intro j
  induction j with
  | zero => intro i0 s tb tt T h1 h2; omega
  | succ j ih =>
    intro i0 s tb tt T h1 h2 hs hT hT' k1
    have hnb := (check_fine hc).nb
    have hnp := (check_fine hc).np
    have hstr := check_strange hc
    refine loop_succ hB ?_
    conv => lhs; whnf
    repeat' ((first | refine Qw hB ?_ | refine Qv hB hd.tb ?_ | refine Qf hB ?_ | refine lt_nat hB (fun h => ?_) (fun h => ?_) | refine Q0 hB rfl ?_ | refine Q1 hB (by decide) ?_ | refine Q2 hB (by decide) ?_ | refine Q3 hB (by decide) ?_ | refine Q4 hB (by decide) ?_ | refine Q5 hB (by decide) ?_ | refine Q6 hB (by decide) ?_ | refine Q7 hB (by omega) (by omega) ?_ | refine Q8 hB ?_ | refine Q9 hB ?_ | refine Qa hB ?_ | refine Qb hB (fun _ => ?_) (fun _ => ?_) | refine Qc hB ?_ | refine Qd hB ?_ | refine Qe hB ?_ | refine Qf hB ?_ | refine Qg hB ?_ | refine Qh hB ?_ | refine Qi hB ?_ | refine Qj hB rfl ?_ | refine Qk hB rfl ?_ | refine Ql hB (by first | omega | decide) ?_ | refine Qm hB rfl ?_ | refine Qn hB ?_ | refine Qo hB rfl ?_ | refine Qo hB (Qp rfl) ?_ | refine Qq hB rfl ?_ | refine Qr hB ?_ | refine Qs hB ?_ | refine Qt hB ?_ | refine Qu hB ?_ | refine Qv hB rfl ?_) <;> conv => lhs; whnf)
    · obtain ⟨b, hb⟩ : ∃ b, d.bs[i0]? = some b := ⟨d.bs[i0], by simp [h]⟩
      have hxb : (d.bs.map Box.c)[i0]? = some b.c := by simp [hb]
      have hsp := spin_in (n := takeZ bits (.ofNat i0)) (many := (Int.ofNat d.ps.length) + 1) (by simp only [Int.ofNat_eq_natCast]; omega)
      obtain ⟨kk, hkk⟩ : ∃ kk : Nat, kk = choiceK d bits i0 := ⟨_, rfl⟩
      have hkz : spin (takeZ bits (.ofNat i0)) ((Int.ofNat d.ps.length) + 1) = (kk : Int) := by
        rw [hkk]
        show _ = (((spin (takeZ bits (.ofNat i0)) ((Int.ofNat d.ps.length) + 1)).toNat : Nat) : Int)
        omega
      have hkP : kk ≤ d.ps.length := by rw [hkk]; exact choice_le
      have H42k := H42 (takeZ bits (.ofNat i0)) ((Int.ofNat d.ps.length) + 1) (by simp only [Int.ofNat_eq_natCast]; omega)
      rw [hkz] at H42k
      have htk := hs.tk
      have HIn := H40 s.tk kk (by omega) (by omega)
      have hsb := hs.le
      have hlen := hs.len
      rw [mf_step h] at k1
      have hnext := step_ok hc (bits := bits) hs
      have hms : madeStep d bits s i0 = if skipB d s.tk kk = true then (if b.stamp = true ∨ s.od = d.strange then s else ⟨s.bs ++ [b], s.tr ++ [-1], s.tk, s.od + 1⟩)
          else match d.ps[kk]? with
            | none => s
            | some p => ⟨s.bs ++ [madeB d bits i0 b p], s.tr ++ [(kk : Int)], s.tk ||| 1 <<< kk, s.od⟩ := by
        unfold madeStep
        rw [hb, ← hkk]
        rfl
      rw [hms] at k1 hnext
      have hodb := hs.od
      have hod0 := hs.od0
      by_cases hsk : skipB d s.tk kk = true
      · rw [if_pos hsk] at k1 hnext
        by_cases hA : kk = d.ps.length
        · have hA' : (kk : Int) = Int.ofNat d.ps.length := by rw [hA]; rfl
          rcases b with ⟨b1, b2, b3, b4, b5⟩
          cases b5
          · by_cases hod : s.od = d.strange
            · rw [if_pos (.inr hod)] at k1 hnext
              conv => lhs; whnf
              repeat' ((first | refine Qw hB ?_ | refine Qv hB hd.tp ?_ | refine Qv hB hd.tb ?_ | refine Qv hB ht1 ?_ | refine Qf hB ?_ | refine QC hB (m := i0) rfl ?_ | refine QB hB hxb ?_ | refine Q0 hB (by simp [purs, pur, ht1, hd.tp, hd.tb]) ?_ | refine Qx hB (H80 _) ?_ | refine Qx hB H42k ?_ | refine Qx hB HIn ?_ | refine Qc hB ?_ | refine Q5 hB hA' ?_ | refine add_step hB (by simp only [Int.ofNat_eq_natCast] at *; omega) (by simp only [Int.ofNat_eq_natCast] at *; omega) ?_ | refine Q5 hB hod ?_ | refine Q0 hB rfl ?_ | refine Q1 hB (by decide) ?_ | refine Q2 hB (by decide) ?_ | refine Q3 hB (by decide) ?_ | refine Q4 hB (by decide) ?_ | refine Q5 hB (by decide) ?_ | refine Q6 hB (by decide) ?_ | refine Q7 hB (by omega) (by omega) ?_ | refine Q8 hB ?_ | refine Q9 hB ?_ | refine Qa hB ?_ | refine Qb hB (fun _ => ?_) (fun _ => ?_) | refine Qc hB ?_ | refine Qd hB ?_ | refine Qe hB ?_ | refine Qf hB ?_ | refine Qg hB ?_ | refine Qh hB ?_ | refine Qi hB ?_ | refine Qj hB rfl ?_ | refine Qk hB rfl ?_ | refine Ql hB (by first | omega | decide) ?_ | refine Qm hB rfl ?_ | refine Qn hB ?_ | refine Qo hB rfl ?_ | refine Qo hB (Qp rfl) ?_ | refine Qq hB rfl ?_ | refine Qr hB ?_ | refine Qs hB ?_ | refine Qt hB ?_ | refine Qu hB ?_ | refine Qv hB rfl ?_) <;> conv => lhs; whnf)
              rw [clampTok_pur ht1, hT'.clamp]
              exact ih (i0 + 1) s tb tt T (by omega) (by omega) hnext hT hT' k1
            · rw [if_neg (by rintro (h | h); · cases h
                             · exact hod h)] at k1 hnext
              obtain ⟨tb2, T2, ha1, hT2, ho1⟩ := app_bt (rows := s.bs.map Box.c) (by rw [List.length_map]; exact hT) (.inl rfl : (75 : Nat) = 75 ∨ 75 = 172) (row := (Box.mk b1 b2 b3 b4 false).c) (e := 5) (bytes := 48) rfl rfl (by omega) (by rw [List.length_map]; omega) box_len
              rw [List.length_map] at hT2
              have hT1' := hT'.other (T' := T2) fun s hs => ho1 s (by omega) (by omega)
              obtain ⟨tt3, T3, ha2, hT3, ho2⟩ := app_bt (rows := rowsI s.tr) (by simpa [rowsI] using hT1') (.inl rfl : (78 : Nat) = 78 ∨ 78 = 176) (row := [.int .i64 (-1)]) (e := 1) (bytes := 8) rfl rfl (by omega) (by simp [rowsI]; omega) (by simp [rowsI])
              have hT2' := hT2.other (T' := T3) fun s hs => ho2 s (by omega) (by omega)
              have hm1 : (s.bs.map Box.c) ++ [(Box.mk b1 b2 b3 b4 false).c] = (s.bs ++ [Box.mk b1 b2 b3 b4 false]).map Box.c := by simp
              have hm2 : rowsI s.tr ++ [[.int .i64 (-1)]] = rowsI (s.tr ++ [-1]) := by simp [rowsI]
              rw [hm1] at ha1
              rw [hm2] at ha2
              conv => lhs; whnf
              repeat' ((first | refine Qw hB ?_ | refine Qv hB hd.tp ?_ | refine Qv hB hd.tb ?_ | refine Qv hB ht1 ?_ | refine Qf hB ?_ | refine QC hB (m := i0) rfl ?_ | refine QB hB hxb ?_ | refine Q0 hB (by simp [purs, pur, ht1, hd.tp, hd.tb]) ?_ | refine Qx hB (H80 _) ?_ | refine Qx hB H42k ?_ | refine Qx hB HIn ?_ | refine Qc hB ?_ | refine Q5 hB hA' ?_ | refine add_step hB (by simp only [Int.ofNat_eq_natCast] at *; omega) (by simp only [Int.ofNat_eq_natCast] at *; omega) ?_ | refine Q6 hB hod ?_ | refine Qq hB (ha1 _ _) ?_ | refine Qq hB (ha2 _ _) ?_ | refine Q0 hB rfl ?_ | refine Q1 hB (by decide) ?_ | refine Q2 hB (by decide) ?_ | refine Q3 hB (by decide) ?_ | refine Q4 hB (by decide) ?_ | refine Q5 hB (by decide) ?_ | refine Q6 hB (by decide) ?_ | refine Q7 hB (by omega) (by omega) ?_ | refine Q8 hB ?_ | refine Q9 hB ?_ | refine Qa hB ?_ | refine Qb hB (fun _ => ?_) (fun _ => ?_) | refine Qc hB ?_ | refine Qd hB ?_ | refine Qe hB ?_ | refine Qf hB ?_ | refine Qg hB ?_ | refine Qh hB ?_ | refine Qi hB ?_ | refine Qj hB rfl ?_ | refine Qk hB rfl ?_ | refine Ql hB (by first | omega | decide) ?_ | refine Qm hB rfl ?_ | refine Qn hB ?_ | refine Qo hB rfl ?_ | refine Qo hB (Qp rfl) ?_ | refine Qq hB rfl ?_ | refine Qr hB ?_ | refine Qs hB ?_ | refine Qt hB ?_ | refine Qu hB ?_ | refine Qv hB rfl ?_) <;> conv => lhs; whnf)
              simp only [clampTok_pur ht1, hT3.clamp, hT2'.clamp]
              exact ih (i0 + 1) ⟨s.bs ++ [Box.mk b1 b2 b3 b4 false], s.tr ++ [-1], s.tk, s.od + 1⟩ tb2 tt3 T3 (by omega) (by omega) hnext (by simpa using hT2') (by simpa [rowsI] using hT3) k1
          · rw [if_pos (.inl rfl)] at k1 hnext
            conv => lhs; whnf
            repeat' ((first | refine Qw hB ?_ | refine Qv hB hd.tp ?_ | refine Qv hB hd.tb ?_ | refine Qv hB ht1 ?_ | refine Qf hB ?_ | refine QC hB (m := i0) rfl ?_ | refine QB hB hxb ?_ | refine Q0 hB (by simp [purs, pur, ht1, hd.tp, hd.tb]) ?_ | refine Qx hB (H80 _) ?_ | refine Qx hB H42k ?_ | refine Qx hB HIn ?_ | refine Qc hB ?_ | refine Q5 hB hA' ?_ | refine add_step hB (by simp only [Int.ofNat_eq_natCast] at *; omega) (by simp only [Int.ofNat_eq_natCast] at *; omega) ?_ | refine Q0 hB rfl ?_ | refine Q1 hB (by decide) ?_ | refine Q2 hB (by decide) ?_ | refine Q3 hB (by decide) ?_ | refine Q4 hB (by decide) ?_ | refine Q5 hB (by decide) ?_ | refine Q6 hB (by decide) ?_ | refine Q7 hB (by omega) (by omega) ?_ | refine Q8 hB ?_ | refine Q9 hB ?_ | refine Qa hB ?_ | refine Qb hB (fun _ => ?_) (fun _ => ?_) | refine Qc hB ?_ | refine Qd hB ?_ | refine Qe hB ?_ | refine Qf hB ?_ | refine Qg hB ?_ | refine Qh hB ?_ | refine Qi hB ?_ | refine Qj hB rfl ?_ | refine Qk hB rfl ?_ | refine Ql hB (by first | omega | decide) ?_ | refine Qm hB rfl ?_ | refine Qn hB ?_ | refine Qo hB rfl ?_ | refine Qo hB (Qp rfl) ?_ | refine Qq hB rfl ?_ | refine Qr hB ?_ | refine Qs hB ?_ | refine Qt hB ?_ | refine Qu hB ?_ | refine Qv hB rfl ?_) <;> conv => lhs; whnf)
            rw [clampTok_pur ht1, hT'.clamp]
            exact ih (i0 + 1) s tb tt T (by omega) (by omega) hnext hT hT' k1
        · have hA' : ¬ (kk : Int) = Int.ofNat d.ps.length := by simp only [Int.ofNat_eq_natCast]; omega
          cases hbt : s.tk.testBit kk
          · obtain ⟨p, hp⟩ := meantRow d (k := kk) (by omega)
            have hxp : (d.ps.map Parcel.c)[kk]? = some p.c := by simp [hp]
            have hday : 4000 < p.day + d.lo := by
              simp only [skipB, hbt, dayOf, hp, hA, decide_false, Bool.false_or, decide_eq_true_eq] at hsk
              exact hsk
            have hpok : okParcel p = true := by
              have hc2 := hc
              simp only [Desk.check, Bool.and_eq_true, List.all_eq_true] at hc2
              exact hc2.1.2 p (List.mem_of_getElem? hp)
            have hck := hc
            simp only [Desk.check, isSpan, within, Bool.and_eq_true, decide_eq_true_eq] at hck
            have hlo1 := hck.1.1.1.1.1.1.1.1
            have hlo2 := hck.1.1.1.1.1.1.1.2
            have hlo3 := hck.1.1.1.1.1.1.2
            clear hck
            simp only [okParcel, within, Bool.and_eq_true, decide_eq_true_eq] at hpok
            rw [hbt] at HIn
            rcases b with ⟨b1, b2, b3, b4, b5⟩
            cases b5
            · by_cases hod : s.od = d.strange
              · rw [if_pos (.inr hod)] at k1 hnext
                conv => lhs; whnf
                repeat' ((first | refine Qw hB ?_ | refine Qv hB hd.tp ?_ | refine Qv hB hd.tb ?_ | refine Qv hB ht1 ?_ | refine Qf hB ?_ | refine QC hB (m := i0) rfl ?_ | refine QB hB hxb ?_ | refine Q0 hB (by simp [purs, pur, ht1, hd.tp, hd.tb]) ?_ | refine Qx hB (H80 _) ?_ | refine Qx hB H42k ?_ | refine Qx hB HIn ?_ | refine Qc hB ?_ | refine Q6 hB hA' ?_ | refine QC hB (m := kk) rfl ?_ | refine QB hB hxp ?_ | refine Q1 hB hday ?_ | refine add_step hB (by simp only [Int.ofNat_eq_natCast] at *; omega) (by simp only [Int.ofNat_eq_natCast] at *; omega) ?_ | refine Q5 hB hod ?_ | refine Q0 hB rfl ?_ | refine Q1 hB (by decide) ?_ | refine Q2 hB (by decide) ?_ | refine Q3 hB (by decide) ?_ | refine Q4 hB (by decide) ?_ | refine Q5 hB (by decide) ?_ | refine Q6 hB (by decide) ?_ | refine Q7 hB (by omega) (by omega) ?_ | refine Q8 hB ?_ | refine Q9 hB ?_ | refine Qa hB ?_ | refine Qb hB (fun _ => ?_) (fun _ => ?_) | refine Qc hB ?_ | refine Qd hB ?_ | refine Qe hB ?_ | refine Qf hB ?_ | refine Qg hB ?_ | refine Qh hB ?_ | refine Qi hB ?_ | refine Qj hB rfl ?_ | refine Qk hB rfl ?_ | refine Ql hB (by first | omega | decide) ?_ | refine Qm hB rfl ?_ | refine Qn hB ?_ | refine Qo hB rfl ?_ | refine Qo hB (Qp rfl) ?_ | refine Qq hB rfl ?_ | refine Qr hB ?_ | refine Qs hB ?_ | refine Qt hB ?_ | refine Qu hB ?_ | refine Qv hB rfl ?_) <;> conv => lhs; whnf)
                rw [clampTok_pur ht1, hT'.clamp]
                exact ih (i0 + 1) s tb tt T (by omega) (by omega) hnext hT hT' k1
              · rw [if_neg (by rintro (h | h); · cases h
                               · exact hod h)] at k1 hnext
                obtain ⟨tb2, T2, ha1, hT2, ho1⟩ := app_bt (rows := s.bs.map Box.c) (by rw [List.length_map]; exact hT) (.inl rfl : (75 : Nat) = 75 ∨ 75 = 172) (row := (Box.mk b1 b2 b3 b4 false).c) (e := 5) (bytes := 48) rfl rfl (by omega) (by rw [List.length_map]; omega) box_len
                rw [List.length_map] at hT2
                have hT1' := hT'.other (T' := T2) fun s hs => ho1 s (by omega) (by omega)
                obtain ⟨tt3, T3, ha2, hT3, ho2⟩ := app_bt (rows := rowsI s.tr) (by simpa [rowsI] using hT1') (.inl rfl : (78 : Nat) = 78 ∨ 78 = 176) (row := [.int .i64 (-1)]) (e := 1) (bytes := 8) rfl rfl (by omega) (by simp [rowsI]; omega) (by simp [rowsI])
                have hT2' := hT2.other (T' := T3) fun s hs => ho2 s (by omega) (by omega)
                have hm1 : (s.bs.map Box.c) ++ [(Box.mk b1 b2 b3 b4 false).c] = (s.bs ++ [Box.mk b1 b2 b3 b4 false]).map Box.c := by simp
                have hm2 : rowsI s.tr ++ [[.int .i64 (-1)]] = rowsI (s.tr ++ [-1]) := by simp [rowsI]
                rw [hm1] at ha1
                rw [hm2] at ha2
                conv => lhs; whnf
                repeat' ((first | refine Qw hB ?_ | refine Qv hB hd.tp ?_ | refine Qv hB hd.tb ?_ | refine Qv hB ht1 ?_ | refine Qf hB ?_ | refine QC hB (m := i0) rfl ?_ | refine QB hB hxb ?_ | refine Q0 hB (by simp [purs, pur, ht1, hd.tp, hd.tb]) ?_ | refine Qx hB (H80 _) ?_ | refine Qx hB H42k ?_ | refine Qx hB HIn ?_ | refine Qc hB ?_ | refine Q6 hB hA' ?_ | refine QC hB (m := kk) rfl ?_ | refine QB hB hxp ?_ | refine Q1 hB hday ?_ | refine add_step hB (by simp only [Int.ofNat_eq_natCast] at *; omega) (by simp only [Int.ofNat_eq_natCast] at *; omega) ?_ | refine Q6 hB hod ?_ | refine Qq hB (ha1 _ _) ?_ | refine Qq hB (ha2 _ _) ?_ | refine Q0 hB rfl ?_ | refine Q1 hB (by decide) ?_ | refine Q2 hB (by decide) ?_ | refine Q3 hB (by decide) ?_ | refine Q4 hB (by decide) ?_ | refine Q5 hB (by decide) ?_ | refine Q6 hB (by decide) ?_ | refine Q7 hB (by omega) (by omega) ?_ | refine Q8 hB ?_ | refine Q9 hB ?_ | refine Qa hB ?_ | refine Qb hB (fun _ => ?_) (fun _ => ?_) | refine Qc hB ?_ | refine Qd hB ?_ | refine Qe hB ?_ | refine Qf hB ?_ | refine Qg hB ?_ | refine Qh hB ?_ | refine Qi hB ?_ | refine Qj hB rfl ?_ | refine Qk hB rfl ?_ | refine Ql hB (by first | omega | decide) ?_ | refine Qm hB rfl ?_ | refine Qn hB ?_ | refine Qo hB rfl ?_ | refine Qo hB (Qp rfl) ?_ | refine Qq hB rfl ?_ | refine Qr hB ?_ | refine Qs hB ?_ | refine Qt hB ?_ | refine Qu hB ?_ | refine Qv hB rfl ?_) <;> conv => lhs; whnf)
                simp only [clampTok_pur ht1, hT3.clamp, hT2'.clamp]
                exact ih (i0 + 1) ⟨s.bs ++ [Box.mk b1 b2 b3 b4 false], s.tr ++ [-1], s.tk, s.od + 1⟩ tb2 tt3 T3 (by omega) (by omega) hnext (by simpa using hT2') (by simpa [rowsI] using hT3) k1
            · rw [if_pos (.inl rfl)] at k1 hnext
              conv => lhs; whnf
              repeat' ((first | refine Qw hB ?_ | refine Qv hB hd.tp ?_ | refine Qv hB hd.tb ?_ | refine Qv hB ht1 ?_ | refine Qf hB ?_ | refine QC hB (m := i0) rfl ?_ | refine QB hB hxb ?_ | refine Q0 hB (by simp [purs, pur, ht1, hd.tp, hd.tb]) ?_ | refine Qx hB (H80 _) ?_ | refine Qx hB H42k ?_ | refine Qx hB HIn ?_ | refine Qc hB ?_ | refine Q6 hB hA' ?_ | refine QC hB (m := kk) rfl ?_ | refine QB hB hxp ?_ | refine Q1 hB hday ?_ | refine add_step hB (by simp only [Int.ofNat_eq_natCast] at *; omega) (by simp only [Int.ofNat_eq_natCast] at *; omega) ?_ | refine Q0 hB rfl ?_ | refine Q1 hB (by decide) ?_ | refine Q2 hB (by decide) ?_ | refine Q3 hB (by decide) ?_ | refine Q4 hB (by decide) ?_ | refine Q5 hB (by decide) ?_ | refine Q6 hB (by decide) ?_ | refine Q7 hB (by omega) (by omega) ?_ | refine Q8 hB ?_ | refine Q9 hB ?_ | refine Qa hB ?_ | refine Qb hB (fun _ => ?_) (fun _ => ?_) | refine Qc hB ?_ | refine Qd hB ?_ | refine Qe hB ?_ | refine Qf hB ?_ | refine Qg hB ?_ | refine Qh hB ?_ | refine Qi hB ?_ | refine Qj hB rfl ?_ | refine Qk hB rfl ?_ | refine Ql hB (by first | omega | decide) ?_ | refine Qm hB rfl ?_ | refine Qn hB ?_ | refine Qo hB rfl ?_ | refine Qo hB (Qp rfl) ?_ | refine Qq hB rfl ?_ | refine Qr hB ?_ | refine Qs hB ?_ | refine Qt hB ?_ | refine Qu hB ?_ | refine Qv hB rfl ?_) <;> conv => lhs; whnf)
              rw [clampTok_pur ht1, hT'.clamp]
              exact ih (i0 + 1) s tb tt T (by omega) (by omega) hnext hT hT' k1
          · rw [hbt] at HIn
            rcases b with ⟨b1, b2, b3, b4, b5⟩
            cases b5
            · by_cases hod : s.od = d.strange
              · rw [if_pos (.inr hod)] at k1 hnext
                conv => lhs; whnf
                repeat' ((first | refine Qw hB ?_ | refine Qv hB hd.tp ?_ | refine Qv hB hd.tb ?_ | refine Qv hB ht1 ?_ | refine Qf hB ?_ | refine QC hB (m := i0) rfl ?_ | refine QB hB hxb ?_ | refine Q0 hB (by simp [purs, pur, ht1, hd.tp, hd.tb]) ?_ | refine Qx hB (H80 _) ?_ | refine Qx hB H42k ?_ | refine Qx hB HIn ?_ | refine Qc hB ?_ | refine Q6 hB hA' ?_ | refine add_step hB (by simp only [Int.ofNat_eq_natCast] at *; omega) (by simp only [Int.ofNat_eq_natCast] at *; omega) ?_ | refine Q5 hB hod ?_ | refine Q0 hB rfl ?_ | refine Q1 hB (by decide) ?_ | refine Q2 hB (by decide) ?_ | refine Q3 hB (by decide) ?_ | refine Q4 hB (by decide) ?_ | refine Q5 hB (by decide) ?_ | refine Q6 hB (by decide) ?_ | refine Q7 hB (by omega) (by omega) ?_ | refine Q8 hB ?_ | refine Q9 hB ?_ | refine Qa hB ?_ | refine Qb hB (fun _ => ?_) (fun _ => ?_) | refine Qc hB ?_ | refine Qd hB ?_ | refine Qe hB ?_ | refine Qf hB ?_ | refine Qg hB ?_ | refine Qh hB ?_ | refine Qi hB ?_ | refine Qj hB rfl ?_ | refine Qk hB rfl ?_ | refine Ql hB (by first | omega | decide) ?_ | refine Qm hB rfl ?_ | refine Qn hB ?_ | refine Qo hB rfl ?_ | refine Qo hB (Qp rfl) ?_ | refine Qq hB rfl ?_ | refine Qr hB ?_ | refine Qs hB ?_ | refine Qt hB ?_ | refine Qu hB ?_ | refine Qv hB rfl ?_) <;> conv => lhs; whnf)
                rw [clampTok_pur ht1, hT'.clamp]
                exact ih (i0 + 1) s tb tt T (by omega) (by omega) hnext hT hT' k1
              · rw [if_neg (by rintro (h | h); · cases h
                               · exact hod h)] at k1 hnext
                obtain ⟨tb2, T2, ha1, hT2, ho1⟩ := app_bt (rows := s.bs.map Box.c) (by rw [List.length_map]; exact hT) (.inl rfl : (75 : Nat) = 75 ∨ 75 = 172) (row := (Box.mk b1 b2 b3 b4 false).c) (e := 5) (bytes := 48) rfl rfl (by omega) (by rw [List.length_map]; omega) box_len
                rw [List.length_map] at hT2
                have hT1' := hT'.other (T' := T2) fun s hs => ho1 s (by omega) (by omega)
                obtain ⟨tt3, T3, ha2, hT3, ho2⟩ := app_bt (rows := rowsI s.tr) (by simpa [rowsI] using hT1') (.inl rfl : (78 : Nat) = 78 ∨ 78 = 176) (row := [.int .i64 (-1)]) (e := 1) (bytes := 8) rfl rfl (by omega) (by simp [rowsI]; omega) (by simp [rowsI])
                have hT2' := hT2.other (T' := T3) fun s hs => ho2 s (by omega) (by omega)
                have hm1 : (s.bs.map Box.c) ++ [(Box.mk b1 b2 b3 b4 false).c] = (s.bs ++ [Box.mk b1 b2 b3 b4 false]).map Box.c := by simp
                have hm2 : rowsI s.tr ++ [[.int .i64 (-1)]] = rowsI (s.tr ++ [-1]) := by simp [rowsI]
                rw [hm1] at ha1
                rw [hm2] at ha2
                conv => lhs; whnf
                repeat' ((first | refine Qw hB ?_ | refine Qv hB hd.tp ?_ | refine Qv hB hd.tb ?_ | refine Qv hB ht1 ?_ | refine Qf hB ?_ | refine QC hB (m := i0) rfl ?_ | refine QB hB hxb ?_ | refine Q0 hB (by simp [purs, pur, ht1, hd.tp, hd.tb]) ?_ | refine Qx hB (H80 _) ?_ | refine Qx hB H42k ?_ | refine Qx hB HIn ?_ | refine Qc hB ?_ | refine Q6 hB hA' ?_ | refine add_step hB (by simp only [Int.ofNat_eq_natCast] at *; omega) (by simp only [Int.ofNat_eq_natCast] at *; omega) ?_ | refine Q6 hB hod ?_ | refine Qq hB (ha1 _ _) ?_ | refine Qq hB (ha2 _ _) ?_ | refine Q0 hB rfl ?_ | refine Q1 hB (by decide) ?_ | refine Q2 hB (by decide) ?_ | refine Q3 hB (by decide) ?_ | refine Q4 hB (by decide) ?_ | refine Q5 hB (by decide) ?_ | refine Q6 hB (by decide) ?_ | refine Q7 hB (by omega) (by omega) ?_ | refine Q8 hB ?_ | refine Q9 hB ?_ | refine Qa hB ?_ | refine Qb hB (fun _ => ?_) (fun _ => ?_) | refine Qc hB ?_ | refine Qd hB ?_ | refine Qe hB ?_ | refine Qf hB ?_ | refine Qg hB ?_ | refine Qh hB ?_ | refine Qi hB ?_ | refine Qj hB rfl ?_ | refine Qk hB rfl ?_ | refine Ql hB (by first | omega | decide) ?_ | refine Qm hB rfl ?_ | refine Qn hB ?_ | refine Qo hB rfl ?_ | refine Qo hB (Qp rfl) ?_ | refine Qq hB rfl ?_ | refine Qr hB ?_ | refine Qs hB ?_ | refine Qt hB ?_ | refine Qu hB ?_ | refine Qv hB rfl ?_) <;> conv => lhs; whnf)
                simp only [clampTok_pur ht1, hT3.clamp, hT2'.clamp]
                exact ih (i0 + 1) ⟨s.bs ++ [Box.mk b1 b2 b3 b4 false], s.tr ++ [-1], s.tk, s.od + 1⟩ tb2 tt3 T3 (by omega) (by omega) hnext (by simpa using hT2') (by simpa [rowsI] using hT3) k1
            · rw [if_pos (.inl rfl)] at k1 hnext
              conv => lhs; whnf
              repeat' ((first | refine Qw hB ?_ | refine Qv hB hd.tp ?_ | refine Qv hB hd.tb ?_ | refine Qv hB ht1 ?_ | refine Qf hB ?_ | refine QC hB (m := i0) rfl ?_ | refine QB hB hxb ?_ | refine Q0 hB (by simp [purs, pur, ht1, hd.tp, hd.tb]) ?_ | refine Qx hB (H80 _) ?_ | refine Qx hB H42k ?_ | refine Qx hB HIn ?_ | refine Qc hB ?_ | refine Q6 hB hA' ?_ | refine add_step hB (by simp only [Int.ofNat_eq_natCast] at *; omega) (by simp only [Int.ofNat_eq_natCast] at *; omega) ?_ | refine Q0 hB rfl ?_ | refine Q1 hB (by decide) ?_ | refine Q2 hB (by decide) ?_ | refine Q3 hB (by decide) ?_ | refine Q4 hB (by decide) ?_ | refine Q5 hB (by decide) ?_ | refine Q6 hB (by decide) ?_ | refine Q7 hB (by omega) (by omega) ?_ | refine Q8 hB ?_ | refine Q9 hB ?_ | refine Qa hB ?_ | refine Qb hB (fun _ => ?_) (fun _ => ?_) | refine Qc hB ?_ | refine Qd hB ?_ | refine Qe hB ?_ | refine Qf hB ?_ | refine Qg hB ?_ | refine Qh hB ?_ | refine Qi hB ?_ | refine Qj hB rfl ?_ | refine Qk hB rfl ?_ | refine Ql hB (by first | omega | decide) ?_ | refine Qm hB rfl ?_ | refine Qn hB ?_ | refine Qo hB rfl ?_ | refine Qo hB (Qp rfl) ?_ | refine Qq hB rfl ?_ | refine Qr hB ?_ | refine Qs hB ?_ | refine Qt hB ?_ | refine Qu hB ?_ | refine Qv hB rfl ?_) <;> conv => lhs; whnf)
              rw [clampTok_pur ht1, hT'.clamp]
              exact ih (i0 + 1) s tb tt T (by omega) (by omega) hnext hT hT' k1
      · rw [if_neg hsk] at k1 hnext
        have hsk2 : skipB d s.tk kk = false := by simpa using hsk
        simp only [skipB, Bool.or_eq_false_iff, decide_eq_false_iff_not] at hsk2
        obtain ⟨⟨hA, hbt⟩, hday⟩ := hsk2
        have hA' : ¬ (kk : Int) = Int.ofNat d.ps.length := by simp only [Int.ofNat_eq_natCast]; omega
        obtain ⟨p, hp⟩ := meantRow d (k := kk) (by omega)
        have hxp : (d.ps.map Parcel.c)[kk]? = some p.c := by simp [hp]
        rw [hp] at k1 hnext
        simp only [dayOf, hp] at hday
        have hpok : okParcel p = true := by
          have hc2 := hc
          simp only [Desk.check, Bool.and_eq_true, List.all_eq_true] at hc2
          exact hc2.1.2 p (List.mem_of_getElem? hp)
        have hck := hc
        simp only [Desk.check, isSpan, within, Bool.and_eq_true, decide_eq_true_eq] at hck
        have hlo1 := hck.1.1.1.1.1.1.1.1
        have hlo2 := hck.1.1.1.1.1.1.1.2
        have hlo3 := hck.1.1.1.1.1.1.2
        have hwe1 := hck.1.1.1.1.1.2.1
        have hwe2 := hck.1.1.1.1.1.2.2
        clear hck
        have hw := w_in (bits := bits) (i := i0) (p := p) hwe1 hpok
        simp only [okParcel, within, Bool.and_eq_true, decide_eq_true_eq] at hpok
        have hl1 := lot_in (n := takeZ bits (Int.ofNat i0 + 1)) hlo2
        have hw' : 0 ≤ lotZ (hiI 0 (p.weight - d.wear)) p.weight (takeZ bits (Int.ofNat i0 + 2)) ∧ lotZ (hiI 0 (p.weight - d.wear)) p.weight (takeZ bits (Int.ofNat i0 + 2)) ≤ p.weight := ⟨hw.2.2.1, hw.2.1⟩
        have hge := hi_ge 0 (p.weight - d.wear)
        have s3 := spin_in (n := takeZ bits (Int.ofNat i0 + 3)) (many := 50) (by omega)
        have s4 := spin_in (n := takeZ bits (Int.ofNat i0 + 4)) (many := 50) (by omega)
        have hmk : p.mark = ((p.mark.toNat : Nat) : Int) := by omega
        have H46p : cl 0 46 [.int .i64 p.mark] [] ansK = some (.str (d4 p.mark.toNat), []) := by
          have := H46 p.mark.toNat (by omega)
          rwa [← hmk] at this
        rw [hbt] at HIn
        obtain ⟨tb2, T2, ha1, hT2, ho1⟩ := app_bt (rows := s.bs.map Box.c) (by rw [List.length_map]; exact hT) (.inr rfl : (172 : Nat) = 75 ∨ 172 = 172) (row := (madeB d bits i0 b p).c) (e := 5) (bytes := 48) rfl rfl (by omega) (by rw [List.length_map]; omega) box_len
        rw [List.length_map] at hT2
        have hT1' := hT'.other (T' := T2) fun s hs => ho1 s (by omega) (by omega)
        obtain ⟨tt3, T3, ha2, hT3, ho2⟩ := app_bt (rows := rowsI s.tr) (by simpa [rowsI] using hT1') (.inr rfl : (176 : Nat) = 78 ∨ 176 = 176) (row := [.int .i64 (kk : Int)]) (e := 1) (bytes := 8) rfl rfl (by omega) (by simp [rowsI]; omega) (by simp [rowsI])
        have hT2' := hT2.other (T' := T3) fun s hs => ho2 s (by omega) (by omega)
        have hm1 : (s.bs.map Box.c) ++ [(madeB d bits i0 b p).c] = (s.bs ++ [madeB d bits i0 b p]).map Box.c := by simp
        have hm2 : rowsI s.tr ++ [[.int .i64 (kk : Int)]] = rowsI (s.tr ++ [(kk : Int)]) := by simp [rowsI]
        rw [hm1] at ha1
        rw [hm2] at ha2
        conv => lhs; whnf
        repeat' ((first | refine Qw hB ?_ | refine Qv hB hd.tp ?_ | refine Qv hB hd.tb ?_ | refine Qv hB ht1 ?_ | refine Qf hB ?_ | refine QC hB (m := i0) rfl ?_ | refine QB hB hxb ?_ | refine Q0 hB (by simp [purs, pur, ht1, hd.tp, hd.tb]) ?_ | refine Qx hB (H80 _) ?_ | refine Qx hB H42k ?_ | refine Qx hB HIn ?_ | refine Q6 hB hA' ?_ | refine QC hB (m := kk) rfl ?_ | refine QB hB hxp ?_ | refine Q2 hB hday ?_ | refine Qm hB (shl_ok rfl (by omega)) ?_ | refine Qm hB (or_ok rfl htk (by omega)) ?_ | refine Qx hB (H43 _ _) ?_ | refine Qx hB (H81 _ _ _ (by omega) (by omega)) ?_ | refine Qx hB (H42 _ _ (by omega)) ?_ | refine Qq hB (mn_ok rfl rfl) ?_ | refine Qq hB (mx_ok rfl rfl) ?_ | refine a36_L2_two hB bits i0 (by omega) (madeB d bits i0 b p) p (d4 p.mark.toNat) rfl _ (clampTok_pur ht1) ht1 s.tr (hT'.clamp _) (hT'.clamp _) _ _ _ H80 H42 H46p _ _ _ _ (by omega) (fun x => ?_) | refine Qq hB (ha1 _ _) ?_ | refine Qq hB (ha2 _ _) ?_ | refine add_step hB (by simp only [Int.ofNat_eq_natCast] at *; omega) (by simp only [Int.ofNat_eq_natCast] at *; omega) ?_ | refine sub_step hB (by simp only [Int.ofNat_eq_natCast] at *; omega) (by simp only [Int.ofNat_eq_natCast] at *; omega) ?_ | refine Qc hB ?_ | refine Q0 hB rfl ?_ | refine Q1 hB (by decide) ?_ | refine Q2 hB (by decide) ?_ | refine Q3 hB (by decide) ?_ | refine Q4 hB (by decide) ?_ | refine Q5 hB (by decide) ?_ | refine Q6 hB (by decide) ?_ | refine Q7 hB (by omega) (by omega) ?_ | refine Q8 hB ?_ | refine Q9 hB ?_ | refine Qa hB ?_ | refine Qb hB (fun _ => ?_) (fun _ => ?_) | refine Qc hB ?_ | refine Qd hB ?_ | refine Qe hB ?_ | refine Qf hB ?_ | refine Qg hB ?_ | refine Qh hB ?_ | refine Qi hB ?_ | refine Qj hB rfl ?_ | refine Qk hB rfl ?_ | refine Ql hB (by first | omega | decide) ?_ | refine Qm hB rfl ?_ | refine Qn hB ?_ | refine Qo hB rfl ?_ | refine Qo hB (Qp rfl) ?_ | refine Qq hB rfl ?_ | refine Qr hB ?_ | refine Qs hB ?_ | refine Qt hB ?_ | refine Qu hB ?_ | refine Qv hB rfl ?_) <;> conv => lhs; whnf)
        simp only [clampTok_pur ht1, hT3.clamp, hT2'.clamp]
        exact ih (i0 + 1) ⟨s.bs ++ [madeB d bits i0 b p], s.tr ++ [(kk : Int)], s.tk ||| 1 <<< kk, s.od⟩ tb2 tt3 T3 (by omega) (by omega) hnext (by simpa using hT2') (by simpa [rowsI] using hT3) k1
    · repeat' ((first | refine Qw hB ?_ | refine Qv hB ht1 ?_ | refine Qc hB ?_ | refine Q0 hB rfl ?_ | refine Q1 hB (by decide) ?_ | refine Q2 hB (by decide) ?_ | refine Q3 hB (by decide) ?_ | refine Q4 hB (by decide) ?_ | refine Q5 hB (by decide) ?_ | refine Q6 hB (by decide) ?_ | refine Q7 hB (by omega) (by omega) ?_ | refine Q8 hB ?_ | refine Q9 hB ?_ | refine Qa hB ?_ | refine Qb hB (fun _ => ?_) (fun _ => ?_) | refine Qc hB ?_ | refine Qd hB ?_ | refine Qe hB ?_ | refine Qf hB ?_ | refine Qg hB ?_ | refine Qh hB ?_ | refine Qi hB ?_ | refine Qj hB rfl ?_ | refine Qk hB rfl ?_ | refine Ql hB (by first | omega | decide) ?_ | refine Qm hB rfl ?_ | refine Qn hB ?_ | refine Qo hB rfl ?_ | refine Qo hB (Qp rfl) ?_ | refine Qq hB rfl ?_ | refine Qr hB ?_ | refine Qs hB ?_ | refine Qt hB ?_ | refine Qu hB ?_ | refine Qv hB rfl ?_) <;> conv => lhs; whnf)
      have hi : i0 = d.bs.length := by omega
      subst hi
      rw [mf_end (Nat.le_refl _)] at k1
      rw [clampTok_pur ht1, hT'.clamp]
      exact k1 _ _ _ _ s rfl hT hT'
def madeTok {α : Type} (l : List α) : Tok := match l with
  | [] => .nil
  | _ :: _ => .any
theorem madeTok_pur {α : Type} (l : List α) : purTok (madeTok l) = true := by cases l <;> rfl
theorem madeTok_len {α : Type} (l : List α) : (if l.length = 0 then Tok.nil else Tok.any) = madeTok l := by cases l <;> rfl
set_option maxHeartbeats 4000000 in
theorem made_ev {n : Nat} (hn : 1000 ≤ n) (d : Desk) (hd : d.ok) (hc : d.check = true) (bits : List Int) (hbits : bits.length ≤ 200000000000000) {t : Tok} (ht : purTok t = true) :
    (evKR Bk Gx fsT n).1 0 36 [d.v, .sl (rowsI bits) t] [] ansK = some (.tup [(madeD d (madeV d bits) (madeTok (madeV d bits).bs)).v, .sl (rowsI (madeV d bits).tr) (madeTok (madeV d bits).tr)], []) := by
  refine call_open (show fsT.find 36 = some a36 from rfl) (by omega) fun n' B cl rd hn' hB hcl hrd => ?_
  have hnb := (check_fine hc).nb
  have H80 := fun {t1 : Tok} (h : purTok t1 = true) (z : Int) => Take_ev (n := n') (by omega) bits hbits h z
  have H81 := fun (a b z : Int) (h0 : 0 ≤ a) (hb : b ≤ 1000000) => Lot_ev (n := n') (by omega) a b z h0 hb
  have H42 := fun (a c : Int) (h : c ≤ 1000) => Spin_ev (G := Gx) (n := n') (by omega) a c (by omega)
  have H43 := fun (a b : Int) => To_ev (n := n') (by omega) a b
  have H46 := fun (m : Nat) (h : m < 10000) => sealOf_ev (G := Gx) (n := n') (by omega) m h rfl
  have H40 := fun (t k : Nat) (ht : t < 512) (hk : k < 9) => In_ev (n := n') (by omega) t k ht hk rfl rfl
  rw [← hcl] at H80 H81 H42 H43 H46 H40
  have HL := fun z6 {t1 : Tok} (h : purTok t1 = true) (k : Ex → Env → St → Ans) (r : Ans) => a36_L1_step hB (rd := rd) d hd hc bits h z6 (H80 h) H81 H42 H43 H46 H40 n' (by omega) k r n' 0 md0 .nil .nil [] (by omega) (by omega) (md0_ok (check_strange hc).1) (.inl ⟨rfl, rfl, rfl, rfl⟩) (.inl ⟨rfl, rfl, rfl, rfl⟩)
  have he : madeFrom d bits md0 0 = madeV d bits := rfl
  rw [he] at HL
  conv => lhs; whnf
  repeat' ((first | refine Qw hB ?_ | refine Qv hB hd.tp ?_ | refine Qv hB hd.tb ?_ | refine HL _ (purTok_clamp ht) _ _ (fun x tb tt T s' es h1 h2 => ?_) | refine tokE_step hB ?_ | refine Q0 hB rfl ?_ | refine Q1 hB (by decide) ?_ | refine Q2 hB (by decide) ?_ | refine Q3 hB (by decide) ?_ | refine Q4 hB (by decide) ?_ | refine Q5 hB (by decide) ?_ | refine Q6 hB (by decide) ?_ | refine Q7 hB (by omega) (by omega) ?_ | refine Q8 hB ?_ | refine Q9 hB ?_ | refine Qa hB ?_ | refine Qb hB (fun _ => ?_) (fun _ => ?_) | refine Qc hB ?_ | refine Qd hB ?_ | refine Qe hB ?_ | refine Qf hB ?_ | refine Qg hB ?_ | refine Qh hB ?_ | refine Qi hB ?_ | refine Qj hB rfl ?_ | refine Qk hB rfl ?_ | refine Ql hB (by first | omega | decide) ?_ | refine Qm hB rfl ?_ | refine Qn hB ?_ | refine Qo hB rfl ?_ | refine Qo hB (Qp rfl) ?_ | refine Qq hB rfl ?_ | refine Qr hB ?_ | refine Qs hB ?_ | refine Qt hB ?_ | refine Qu hB ?_ | refine Qv hB rfl ?_) <;> conv => lhs; whnf)
  subst es
  rw [h1.erase, h2.erase, madeTok_len, madeTok_len, eraseTok_pur hd.tp]
  rfl
end Go.Ab.Cl
