/-
  The claims: ClaimTrue, on the abstract machine.
-/
import Derived.Test.YthbekoofiienjaaDoorClPd
import Derived.Test.YthbekoofiienjaaDoorWk
namespace Go.Ab.Cl
open Go.Ab

theorem list_mem {P : Nat} {f : Nat → Bool} {k : Nat} : (k : Int) ∈ listB P f 0 ↔ k < P ∧ f k = true := by
  unfold listB
  simp only [List.mem_map, List.mem_filter, List.mem_range']
  constructor
  · rintro ⟨n, ⟨⟨m, h1, rfl⟩, h2⟩, e⟩
    have : k = 0 + 1 * m := by omega
    subst this
    exact ⟨by omega, h2⟩
  · rintro ⟨h1, h2⟩
    exact ⟨k, ⟨⟨k, by omega, by omega⟩, h2⟩, rfl⟩
theorem good_backs {x : Desk} {tru : List Int} (h : Good x tru) : Backs x.ps.length tru (surelyL x) (perhapsL x) where
  inS k hk hm := (allB_iff h.ck hk).1 (list_mem.1 hm).2 tru h.tr
  inB k hk hm := by
    have hs : someB x k = true := (someB_iff h.ck).2 ⟨tru, h.tr, hm⟩
    cases ha : allB x k
    · exact .inr (list_mem.2 ⟨hk, by simp [ha, hs]⟩)
    · exact .inl (list_mem.2 ⟨hk, ha⟩)
  one k hk hm hm' := by
    have h1 := (list_mem.1 hm).2
    have h2 := (list_mem.1 hm').2
    simp only [h1] at h2
    cases h2
theorem listB_climbs {P : Nat} {f : Nat → Bool} : climbsZ (-1) (listB P f 0) (P : Int) = true := climbs_range _ 0 (-1) (by omega) (by omega)
theorem listB_len {P : Nat} {f : Nat → Bool} (hP : P ≤ 8) : (listB P f 0).length ≤ 1000 := by
  unfold listB
  rw [List.length_map]
  refine Nat.le_trans (List.length_filter_le _ _) ?_
  simp; omega

set_option maxHeartbeats 40000000 in
theorem law_true (d : Desk) (hd : d.ok) (bits : List Int) {tb : Tok} (htb : purTok tb = true) (hbits : bits.length ≤ 200000000000000) : (evKR Bk Gx fsT 2000000000000000).1 0 7 [d.v, .sl (rowsI bits) tb] [] ansK = some (.bool true, []) := by
  refine call_open (show fsT.find 7 = some a7 from rfl) (by omega) fun n B cl rd hn' hB hcl hrd => ?_
  have hn : n = 1999999999999999 := by omega
  have H21 : cl 0 21 [] [] ansK = some (.bool true, []) := by rw [hcl, hn]; exact works_ev
  have H35 := sound_ev (G := Gx) (n := n) d hd (by omega)
  by_cases hc : d.check = true
  case neg =>
    have hcf : d.check = false := by simpa using hc
    rw [hcf, ← hcl] at H35
    conv => lhs; whnf
    repeat' ((first | refine Qw hB ?_ | refine Qv hB hd.tp ?_ | refine Qv hB hd.tb ?_ | refine Qv hB htb ?_ | refine Q0 hB (by simp [purs, pur, hd.tp, hd.tb]) ?_ | refine Qx hB H35 ?_ | refine Qx hB H21 ?_ | refine Q0 hB rfl ?_ | refine Q1 hB (by decide) ?_ | refine Q2 hB (by decide) ?_ | refine Q3 hB (by decide) ?_ | refine Q4 hB (by decide) ?_ | refine Q5 hB (by decide) ?_ | refine Q6 hB (by decide) ?_ | refine Q7 hB (by omega) (by omega) ?_ | refine Q8 hB ?_ | refine Q9 hB ?_ | refine Qa hB ?_ | refine Qb hB (fun _ => ?_) (fun _ => ?_) | refine Qc hB ?_ | refine Qd hB ?_ | refine Qe hB ?_ | refine Qf hB ?_ | refine Qg hB ?_ | refine Qh hB ?_ | refine Qi hB ?_ | refine Qj hB rfl ?_ | refine Qk hB rfl ?_ | refine Ql hB (by first | omega | decide) ?_ | refine Qm hB rfl ?_ | refine Qn hB ?_ | refine Qo hB rfl ?_ | refine Qo hB (Qp rfl) ?_ | refine Qq hB rfl ?_ | refine Qr hB ?_ | refine Qs hB ?_ | refine Qt hB ?_ | refine Qu hB ?_ | refine Qv hB rfl ?_) <;> conv => lhs; whnf)
    all_goals rfl
  rw [hc] at H35
  have H36 := made_ev (n := n) (by omega) d hd hc bits hbits htb
  have hmd := made_all hc bits
  have hxc := made_check hc hmd (madeTok (madeV d bits).bs)
  have hxt := made_Tr hmd (madeTok (madeV d bits).bs)
  have hnb := (check_fine hc).nb
  have hble := hmd.le
  have hlen := hmd.len
  have hxo : (madeD d (madeV d bits) (madeTok (madeV d bits).bs)).ok := by
    refine ⟨hd.tp, madeTok_pur _, hd.ps, ?_, fun b hb => ?_⟩
    · show (madeV d bits).bs.length ≤ _; omega
    · have hc2 := hxc
      simp only [Desk.check, Bool.and_eq_true, List.all_eq_true] at hc2
      have hbk := hc2.2 b hb
      simp only [okBox, Bool.and_eq_true, okSeal, Bool.or_eq_true, beq_iff_eq, List.isEmpty_iff] at hbk
      rcases hbk.2.1 with h | h
      · rw [h]; simp
      · omega
  have httr : (madeV d bits).tr.length ≤ 6 := by omega
  have htkp := madeTok_pur (madeV d bits).tr
  revert H36 hxc hxt hxo httr htkp
  generalize madeTok (madeV d bits).tr = tk6
  generalize (madeV d bits).tr = tru
  generalize madeD d (madeV d bits) (madeTok (madeV d bits).bs) = x
  intro H36 hxc hxt hxo httr htkp
  have hg : Good x tru := ⟨hxo, hxc, hxt⟩
  have htx := hg.t
  have hnp := (check_fine hxc).np
  have hax := ask_t hxc htx
  have hxl := hxt.len
  have H17 := IsTruth_ev (n := n) (by omega) x hxo tru htkp (by omega)
  rw [(truthV_iff hxc tru).2 hxt, show truthE x = 0 from if_pos hxc] at H17
  have H27 := Back_ev (n := n) (by omega) x hxo
  rw [hax, show surelyR x = surelyL x from if_pos hax, show perhapsR x = perhapsL x from if_pos hax] at H27
  have H29 := Worth_ev (n := n) (by omega) x hxo
  rw [hax] at H29
  have H33 := Wrong_ev (n := n) (by omega) x hxo
  have hwr := wrong_t hxc htx
  have hwl : wrongL x = [] := by
    have e : wrongL x = (wrongV x).getD [] := if_pos hxc
    rw [e, hwr]; rfl
  have hwe : wrongE x = 0 := by
    have e : wrongE x = if (wrongV x).isSome = true then 0 else 4 := if_pos hxc
    rw [e, hwr]; rfl
  rw [hwl, hwe] at H33
  have H31 := Fewest_ev (n := n) (by omega) x hxo
  obtain ⟨n0, hf, hle⟩ : ∃ n0 : Nat, fewR x = ((n0 : Int), 0) ∧ (n0 : Int) ≤ x.strange := by
    rcases few_spec hxc with ⟨n0, h1, h2, h3, h4⟩ | ⟨_, h2⟩
    · exact ⟨n0, h2, (few_true hxc h1 h3 h4).1 htx⟩
    · rw [few_none hxc h2] at htx; cases htx
  simp only [hf] at H31
  have H22 : ∀ i : Nat, i < tru.length → (evKR Bk Gx fsT n).1 0 22 [x.v, .int .i64 (i : Int)] [] ansK = some (.tup [.sl (rowsI (whichL x (i : Int))) (wtok (whichL x (i : Int))), .int .i64 0], []) := fun i hi => by
    have := Which_ev (n := n) (by omega) x hxo (i : Int)
    rwa [hg.w hi] at this
  have H25 : ∀ i : Nat, i < tru.length → (evKR Bk Gx fsT n).1 0 25 [x.v, .int .i64 (i : Int)] [] ansK = some (.tup [.int .i64 (toldV x (i : Int)), .int .i64 0], []) := fun i hi => by
    have := Told_ev (n := n) (by omega) x hxo (i : Int)
    rwa [show toldE x (i : Int) = 0 from hg.w hi] at this
  have hwlen : ∀ i : Nat, i < tru.length → (whichL x (i : Int)).length ≤ 1000 := fun i hi => by
    unfold whichL
    rw [if_pos (hg.w hi)]
    exact listB_len (f := fun k => canB x (i : Int) (k : Int)) hnp
  have H37 : ∀ i : Nat, i < tru.length → (evKR Bk Gx fsT n).1 0 37 [.sl (rowsI (whichL x (i : Int))) (wtok (whichL x (i : Int))), .int .i64 (.ofNat x.ps.length)] [] ansK = some (.bool true, []) := fun i hi => by
    have := Climbs_ev (n := n) (by omega) (whichL x (i : Int)) (by have := hwlen i hi; omega) (x.ps.length : Int) (wtok_pur (whichL x (i : Int)))
    rw [which_climbs (hg.w hi)] at this
    exact this
  have H38 : ∀ i : Nat, (evKR Bk Gx fsT n).1 0 38 [.int .i64 (toldV x (i : Int)), .int .i64 0, .int .i64 2] [] ansK = some (.bool true, []) := fun i => by
    have := Tween_ev (G := Gx) (n := n) (by omega) (toldV x (i : Int)) 0 2
    rwa [told_in] at this
  have H39 : ∀ (i : Nat) (z : Int), i < tru.length → (evKR Bk Gx fsT n).1 0 39 [.sl (rowsI (whichL x (i : Int))) (wtok (whichL x (i : Int))), .int .i64 z] [] ansK = some (.int .i64 (placeI (whichL x (i : Int)) z 0), []) := fun i z hi => Place_ev (n := n) (by omega) _ (by have := hwlen i hi; omega) (wtok_pur _) z
  have hsl : (surelyL x).length ≤ 1000 := listB_len hnp
  have hpl : (perhapsL x).length ≤ 1000 := listB_len hnp
  have H39s : ∀ z : Int, (evKR Bk Gx fsT n).1 0 39 [.sl (rowsI (surelyL x)) (wtok (surelyL x)), .int .i64 z] [] ansK = some (.int .i64 (placeI (surelyL x) z 0), []) := fun z => Place_ev (n := n) (by omega) _ (by omega) (wtok_pur _) z
  have H39p : ∀ z : Int, (evKR Bk Gx fsT n).1 0 39 [.sl (rowsI (perhapsL x)) (wtok (perhapsL x)), .int .i64 z] [] ansK = some (.int .i64 (placeI (perhapsL x) z 0), []) := fun z => Place_ev (n := n) (by omega) _ (by omega) (wtok_pur _) z
  have H40 : ∀ bk : Nat, bk < 256 → ∀ k : Nat, k < 9 → (evKR Bk Gx fsT n).1 0 40 [.int .i64 ((bk : Nat) : Int), .int .i64 (k : Int)] [] ansK = some (.bool (bk.testBit k), []) := fun bk hb k hk => In_ev (n := n) (by omega) bk k (by omega) hk rfl rfl
  have H37s := Climbs_ev (n := n) (by omega) (surelyL x) (by omega) (x.ps.length : Int) (wtok_pur (surelyL x))
  have H37p := Climbs_ev (n := n) (by omega) (perhapsL x) (by omega) (x.ps.length : Int) (wtok_pur (perhapsL x))
  rw [show climbsZ (-1) (surelyL x) (x.ps.length : Int) = true from listB_climbs] at H37s
  rw [show climbsZ (-1) (perhapsL x) (x.ps.length : Int) = true from listB_climbs] at H37p
  have H41 := Has_ev (n := n) (by omega) (worthLo x) (worthHi x) (val x tru)
  have hwo := (worth_spec hxc htx).2.2 tru hxt
  rw [show within (val x tru) (worthLo x) (worthHi x) = true by simp [within]; omega] at H41
  rw [← hcl] at H35 H36 H17 H27 H29 H33 H31 H22 H25 H37 H38 H39 H39s H39p H40 H37s H37p H41
  have hbs := good_backs hg
  conv => lhs; whnf
  repeat' ((first | refine Qw hB ?_ | refine Qv hB hd.tp ?_ | refine Qv hB hd.tb ?_ | refine Qv hB htb ?_ | refine Qv hB hxo.tp ?_ | refine Qv hB hxo.tb ?_ | refine Qv hB htkp ?_ | refine Qv hB (wtok_pur (surelyL x)) ?_ | refine Qv hB (wtok_pur (perhapsL x)) ?_ | refine Qv hB (ftok_pur _) ?_ | refine Q0 hB (by simp [purs, pur, hd.tp, hd.tb, htb, hxo.tp, hxo.tb, htkp, wtok_pur]) ?_ | refine Qx hB H35 ?_ | refine Qx hB H36 ?_ | refine Qx hB H17 ?_ | refine Qx hB H27 ?_ | refine Qx hB H29 ?_ | refine Qx hB H33 ?_ | refine Qx hB H31 ?_ | refine Qx hB H41 ?_ | refine Qx hB H37s ?_ | refine Qx hB H37p ?_ | refine Qx hB H21 ?_ | refine Qf hB ?_ | refine a7_L1_two hB x tru hg (clampTok_pur htkp) (clampTok_pur (wtok_pur _)) (clampTok_pur (wtok_pur _)) htkp (wtok_pur _) (wtok_pur _) (surelyL x) (perhapsL x) _ _ H22 H25 H37 H38 H39 _ _ _ _ (by omega) (fun y bk hb8 hbk => ?_) | refine a7_L2_two hB x hxo hnp tru (surelyL x) (perhapsL x) hbs (clampTok_pur (wtok_pur _)) (clampTok_pur (wtok_pur _)) (wtok_pur _) (wtok_pur _) _ _ _ bk hbk H39s H39p (H40 bk hb8) _ _ _ _ (by omega) (fun y2 => ?_) | refine Q3 hB hle ?_ | refine Q0 hB rfl ?_ | refine Q1 hB (by decide) ?_ | refine Q2 hB (by decide) ?_ | refine Q3 hB (by decide) ?_ | refine Q4 hB (by decide) ?_ | refine Q5 hB (by decide) ?_ | refine Q6 hB (by decide) ?_ | refine Q7 hB (by omega) (by omega) ?_ | refine Q8 hB ?_ | refine Q9 hB ?_ | refine Qa hB ?_ | refine Qb hB (fun _ => ?_) (fun _ => ?_) | refine Qc hB ?_ | refine Qd hB ?_ | refine Qe hB ?_ | refine Qf hB ?_ | refine Qg hB ?_ | refine Qh hB ?_ | refine Qi hB ?_ | refine Qj hB rfl ?_ | refine Qk hB rfl ?_ | refine Ql hB (by first | omega | decide) ?_ | refine Qm hB rfl ?_ | refine Qn hB ?_ | refine Qo hB rfl ?_ | refine Qo hB (Qp rfl) ?_ | refine Qq hB rfl ?_ | refine Qr hB ?_ | refine Qs hB ?_ | refine Qt hB ?_ | refine Qu hB ?_ | refine Qv hB rfl ?_) <;> conv => lhs; whnf)
  all_goals rfl
end Go.Ab.Cl
