/-
  The claims: ClaimCould, on the abstract machine: a whole seal, and it can be.
-/
import Derived.Test.YthbekoofiienjaaDoorClH
namespace Go.Ab.Cl
open Go.Ab

set_option maxHeartbeats 20000000 in
theorem could_4t (d : Desk) (hd : d.ok) (n0 n1 : Int) (hn0 : -9223372036854775808 ≤ n0 ∧ n0 ≤ 9223372036854775807) (hck : d.check = true) (i k : Nat) (b : Box) (p : Parcel) (m : Nat) (hb : d.bs[i]? = some b) (hp : d.ps[k]? = some p) (hm : p.mark = (m : Int)) (hm9 : m ≤ 9999) (hz1 : spin n0 (Int.ofNat d.bs.length) = (i : Int)) (hz2 : spin n1 (Int.ofNat d.ps.length) = (k : Int)) (h4 : b.mark.length = 4) (his : couldB d b p = true) :
    (evKR Bk Gx fsT 2000000000000000).1 0 9 [d.v, .agg [.int .i64 n0, .int .i64 n1]] [] ansK = some (.bool true, []) := by
  refine call_open (show fsT.find 9 = some a9 from rfl) (by omega) fun n B cl rd hn' hB hcl hrd => ?_
  have hn : n = 1999999999999999 := by omega
  have H21 : cl 0 21 [] [] ansK = some (.bool true, []) := by rw [hcl, hn]; exact works_ev
  have H35 := sound_ev (G := Gx) (n := n) d hd (by omega)
  have H13 := fun (d : Desk) (hd : d.ok) i k => Could_ev (n := n) d hd i k (by omega)
  have H42 := fun a b hb => Spin_ev (G := Gx) (n := n) (by omega) a b hb
  have H46 := fun m h (z : Int) hz => sealOf_ev (G := Gx) (n := n) (by omega) m h (z := z) hz
  rw [← hcl] at H35 H13 H42 H46
  have hbs := hd.bs
  have hps := hd.ps
  have hil : i < d.bs.length := by
    rcases Nat.lt_or_ge i d.bs.length with h | h
    · exact h
    · rw [List.getElem?_eq_none h] at hb; cases hb
  have hkl : k < d.ps.length := by
    rcases Nat.lt_or_ge k d.ps.length with h | h
    · exact h
    · rw [List.getElem?_eq_none h] at hp; cases hp
  have hb0 : d.bs.length ≠ 0 := by omega
  have hp0 : d.ps.length ≠ 0 := by omega
  rw [hck] at H35
  have HS1 := H42 n0 (.ofNat d.bs.length) (by simp only [Int.ofNat_eq_natCast]; omega)
  have HS2 := H42 n1 (.ofNat d.ps.length) (by simp only [Int.ofNat_eq_natCast]; omega)
  obtain ⟨zi, hzi⟩ : ∃ zi : Int, zi = (i : Int) := ⟨_, rfl⟩
  obtain ⟨zk, hzk⟩ : ∃ zk : Int, zk = (k : Int) := ⟨_, rfl⟩
  rw [hz1, ← hzi] at HS1
  rw [hz2, ← hzk] at HS2
  clear hz1 hz2
  have hf := check_fine hck
  have hnb := hf.nb
  have fb := hf.b b (List.mem_of_getElem? hb)
  have fp := hf.p p (List.mem_of_getElem? hp)
  have HC := H13 d hd zi zk
  rw [couldR_in hck hb hp hzi hzk] at HC
  have HO := H46 m (by omega) p.mark hm
  have hxb : (d.bs.map Box.c)[i]? = some b.c := by simp [hb]
  have hxp : (d.ps.map Parcel.c)[k]? = some p.c := by simp [hp]
  have hag := sealB_agree (b := b) (p := p) fb.2.2.2.1 hm
  have hml : b.mark.length ≤ 4 := by
    have := fb.2.2.2.1
    simp only [okSeal, Bool.and_eq_true, Bool.or_eq_true, beq_iff_eq, List.isEmpty_iff] at this
    rcases this.1 with h | h
    · rw [h]; simp
    · omega
  obtain ⟨s1, s2, s3, s4, s5⟩ := fb
  obtain ⟨t1, t2, t3, t4⟩ := fp
  have w1 := hf.lo
  have w2 := hf.hi
  have w3 := hf.wear
  unfold Small at *
  have hall : couldB d b p = (decide (p.day + d.lo ≤ b.day) && decide (b.day ≤ p.day + d.hi) && decide (b.low ≤ p.weight) && decide (p.weight - d.wear ≤ b.high) && agree b.mark (d4 m)) := by
    unfold couldB dayB weightB within
    rw [hag, show decide (d.lo ≤ b.day - p.day) = decide (p.day + d.lo ≤ b.day) by rw [decide_eq_decide]; omega, show decide (b.day - p.day ≤ d.hi) = decide (b.day ≤ p.day + d.hi) by rw [decide_eq_decide]; omega]
    simp only [Bool.and_assoc]
  have hq8 : binAV .quo (.int .i64 n0) (.int .i64 8) = some (.int .i64 (n0.tdiv 8)) := quo_i64 (by decide) (by rw [Int.tdiv_eq_ediv]; have : Int.sign 8 = 1 := rfl; split <;> omega) (by rw [Int.tdiv_eq_ediv]; have : Int.sign 8 = 1 := rfl; split <;> omega)
  have hS3 := spin_in (n := n0.tdiv 8) (many := 4) (by omega)
  have HS3 := H42 (n0.tdiv 8) 4 (by omega)
  generalize spin (n0.tdiv 8) 4 = z3 at HS3 hS3
  obtain ⟨i3, hz3⟩ : ∃ i3 : Nat, z3 = (i3 : Int) := ⟨z3.toNat, by omega⟩
  have hi3 : i3 < 4 := by omega
  have hadd1 : binAV .add (.str (b.mark.take i3)) (.str [63]) = some (.str (b.mark.take i3 ++ [63])) := str_add (by simp; omega)
  have hadd2 : binAV .add (.str (b.mark.take i3 ++ [63])) (.str (b.mark.drop (i3 + 1))) = some (.str (b.mark.take i3 ++ 63 :: b.mark.drop (i3 + 1))) := by
    rw [str_add (by simp; omega)]; simp
  have hsk := okSeal_less (s := b.mark) (m := i3) (by omega) s4
  have hag2 : agree b.mark (d4 m) = true → agree (b.mark.take i3 ++ 63 :: b.mark.drop (i3 + 1)) (d4 m) = true := agree_less _ _ _ (by omega)
  have hmk4 : (b.mark.take i3 ++ 63 :: b.mark.drop (i3 + 1)).length ≤ 4 := by simp; omega
  generalize b.mark.take i3 ++ 63 :: b.mark.drop (i3 + 1) = mk at hadd2 hsk hag2 hmk4
  have hm0 : okSeal [] = true := rfl
  have hb1 : (d.bs.set i { b with mark := mk })[i]? = some { b with mark := mk } := by simp [hil]
  have hc1 : (d.put i b mk).check = true := put_check hck hb hsk
  have HC1 := H13 (d.put i b mk) (put_ok hd hmk4) zi zk
  rw [couldR_in hc1 (b := { b with mark := mk }) (p := p) hb1 hp hzi hzk] at HC1
  have HC2 := H13 ((d.put i b mk).put i { b with mark := mk } []) (put_ok (put_ok hd hmk4) (by simp)) zi zk
  rw [couldR_in (put_check hc1 (b := { b with mark := mk }) hb1 hm0) (b := { b with mark := [] }) (p := p) (by simp [Desk.put, hil]) hp hzi hzk] at HC2
  have hs1 : couldB (d.put i b mk) { b with mark := mk } p = (decide (p.day + d.lo ≤ b.day) && decide (b.day ≤ p.day + d.hi) && decide (b.low ≤ p.weight) && decide (p.weight - d.wear ≤ b.high) && agree mk (d4 m)) := by
    have hag' := sealB_agree (b := { b with mark := mk }) (p := p) hsk hm
    unfold couldB dayB weightB within
    rw [hag']
    show (decide (d.lo ≤ b.day - p.day) && decide (b.day - p.day ≤ d.hi) && (decide (b.low ≤ p.weight) && decide (p.weight - d.wear ≤ b.high)) && agree mk (d4 m)) = _
    rw [show decide (d.lo ≤ b.day - p.day) = decide (p.day + d.lo ≤ b.day) by rw [decide_eq_decide]; omega, show decide (b.day - p.day ≤ d.hi) = decide (b.day ≤ p.day + d.hi) by rw [decide_eq_decide]; omega]
    simp only [Bool.and_assoc]
  have hso : couldB d b p = true → couldB (d.put i b mk) { b with mark := mk } p = true := by
    intro h
    rw [hall] at h
    rw [hs1]
    simp only [Bool.and_eq_true] at h ⊢
    exact ⟨h.1, hag2 h.2⟩
  have hop : couldB (d.put i b mk) { b with mark := mk } p = true → couldB ((d.put i b mk).put i { b with mark := mk } []) { b with mark := [] } p = true := by
    intro h
    rw [hs1] at h
    simp only [Bool.and_eq_true, decide_eq_true_eq] at h
    obtain ⟨⟨⟨⟨A1, A2⟩, A3⟩, A4⟩, A5⟩ := h
    unfold couldB dayB weightB within sealB
    simp only [List.reverse_nil, sealGo, Bool.and_true, Bool.and_eq_true, decide_eq_true_eq]
    exact ⟨⟨by show d.lo ≤ b.day - p.day; omega, by show b.day - p.day ≤ d.hi; omega⟩, A3, A4⟩
  generalize couldB ((d.put i b mk).put i { b with mark := mk } []) { b with mark := [] } p = op at HC2 hop
  generalize couldB (d.put i b mk) { b with mark := mk } p = so at HC1 hso hop
  generalize hcb : couldB d b p = is at HC hso hall
  clear hs1
  obtain rfl : is = true := hcb.symm.trans his
  have hs := hso rfl
  subst hs
  have ho := hop rfl
  subst ho
  simp only [Eq.comm (a := true), Bool.and_eq_true, decide_eq_true_eq] at hall
  obtain ⟨⟨⟨⟨A1, A2⟩, A3⟩, A4⟩, A5⟩ := hall
  conv => lhs; whnf
  repeat' ((first
    | refine tok_step hB hd.tp ?_
    | refine tok_step hB hd.tb ?_
    | refine purs_step hB (by simp [purs, pur, hd.tp, hd.tb, show purTok .any = true from rfl]) ?_
    | refine pans_step hB H35 ?_
    | refine pans_step hB H21 ?_
    | refine pans_step hB HS1 ?_
    | refine pans_step hB HS2 ?_
    | refine pans_step hB HC ?_
    | refine pans_step hB HO ?_
    | refine eq_tt hB (by simp only [Int.ofNat_eq_natCast]; omega) ?_
    | refine eq_ff hB (by simp only [Int.ofNat_eq_natCast]; omega) ?_
    | refine natOf_step hB hzi ?_
    | refine natOf_step hB hzk ?_
    | refine nth_step hB hxb ?_
    | refine nth_step hB hxp ?_
    | refine fl_step hB (x := [_, _, _, _, _, _]) rfl ?_
    | refine add_step hB (by omega) (by omega) ?_
    | refine sub_step hB (by omega) (by omega) ?_
    | refine le_tt hB (by omega) ?_
    | refine a9_L1_two hB d b p .nilP .nilP .nilP .nilP (d4 m) hml (Nat.le_of_ble_eq_true rfl) _ _ _ _ _ _ _ _ _ _ 0 _ (by omega) (by omega) (fun _ => ?_) (fun h => absurd (A5.symm.trans h) (by simp))
    | refine appo_step hB (appo_ok (rows := d.bs.map Box.c) (fun h => hb0 (by simpa using congrArg List.length h)) box_len (by omega) (by rw [List.length_map]; omega)) ?_
    | refine ifk_step hB (box_room hil) ?_
    | refine ifk_step hB (box_lt hil) ?_
    | refine pans_step hB HC1 ?_
    | refine pans_step hB HC2 ?_
    | refine fl_step hB (box_put2 hb mk) ?_
    | refine fl_step hB (box_put2 hb1 []) ?_
    | refine pans_step hB HS3 ?_
    | refine opt_step hB hq8 ?_
    | refine opt_step hB (slstr_hi hz3 (by omega)) ?_
    | refine opt_step hB (slstr_lo (z := z3 + 1) (m := i3 + 1) (by omega) (by omega)) ?_
    | refine opt_step hB hadd1 ?_
    | refine opt_step hB hadd2 ?_
    | refine ifk_step hB (box_room (bs := d.bs.set i { b with mark := mk }) (by simpa using hil)) ?_
    | refine osh_step hB (hand_os_ok (rows := (d.bs.set i { b with mark := mk }).map Box.c) (by simp) rfl (by omega) box_pur) ?_
    | refine osh_step hB (hand_os_ok (rows := ((d.bs.set i { b with mark := mk }).set i { b with mark := [] }).map Box.c) (by simp) rfl (by omega) box_pur) ?_
    | refine purs_step hB rfl ?_
    | refine lt_tt hB (by decide) ?_
    | refine lt_ff hB (by decide) ?_
    | refine le_tt hB (by decide) ?_
    | refine le_ff hB (by decide) ?_
    | refine eq_tt hB (by decide) ?_
    | refine eq_ff hB (by decide) ?_
    | refine fint_wrp hB (by omega) (by omega) ?_
    | refine fint_step hB ?_
    | refine fbool_tt hB ?_
    | refine fbool_ff hB ?_
    | refine fbool_split hB (fun _ => ?_) (fun _ => ?_)
    | refine ftok_step hB ?_
    | refine frows_step hB ?_
    | refine fstr_step hB ?_
    | refine len_map hB ?_
    | refine len_step hB ?_
    | refine lens_step hB ?_
    | refine byte_step hB ?_
    | refine drop_step hB rfl ?_
    | refine fl_step hB rfl ?_
    | refine add_one hB (by first | omega | decide) ?_
    | refine opt_step hB rfl ?_
    | refine fnat_step hB ?_
    | refine ifk_step hB rfl ?_
    | refine opt2_step hB rfl ?_
    ) <;> conv => lhs; whnf)

set_option maxHeartbeats 20000000 in
theorem could_c0 (d : Desk) (hd : d.ok) (n0 n1 : Int) (hck : d.check = false) :
    (evKR Bk Gx fsT 2000000000000000).1 0 9 [d.v, .agg [.int .i64 n0, .int .i64 n1]] [] ansK = some (.bool true, []) := by
  refine call_open (show fsT.find 9 = some a9 from rfl) (by omega) fun n B cl rd hn' hB hcl hrd => ?_
  have hn : n = 1999999999999999 := by omega
  have H21 : cl 0 21 [] [] ansK = some (.bool true, []) := by rw [hcl, hn]; exact works_ev
  have H35 := sound_ev (G := Gx) (n := n) d hd (by omega)
  have H13 := fun (d : Desk) (hd : d.ok) i k => Could_ev (n := n) d hd i k (by omega)
  have H42 := fun a b hb => Spin_ev (G := Gx) (n := n) (by omega) a b hb
  have H46 := fun m h (z : Int) hz => sealOf_ev (G := Gx) (n := n) (by omega) m h (z := z) hz
  rw [← hcl] at H35 H13 H42 H46
  have hbs := hd.bs
  have hps := hd.ps
  rw [hck] at H35
  conv => lhs; whnf
  repeat' ((first
    | refine tok_step hB hd.tp ?_
    | refine tok_step hB hd.tb ?_
    | refine purs_step hB (by simp [purs, pur, hd.tp, hd.tb]) ?_
    | refine pans_step hB H35 ?_
    | refine pans_step hB H21 ?_
    | refine purs_step hB rfl ?_
    | refine lt_tt hB (by decide) ?_
    | refine lt_ff hB (by decide) ?_
    | refine le_tt hB (by decide) ?_
    | refine le_ff hB (by decide) ?_
    | refine eq_tt hB (by decide) ?_
    | refine eq_ff hB (by decide) ?_
    | refine fint_wrp hB (by omega) (by omega) ?_
    | refine fint_step hB ?_
    | refine fbool_tt hB ?_
    | refine fbool_ff hB ?_
    | refine fbool_split hB (fun _ => ?_) (fun _ => ?_)
    | refine ftok_step hB ?_
    | refine frows_step hB ?_
    | refine fstr_step hB ?_
    | refine len_map hB ?_
    | refine len_step hB ?_
    | refine lens_step hB ?_
    | refine byte_step hB ?_
    | refine drop_step hB rfl ?_
    | refine fl_step hB rfl ?_
    | refine add_one hB (by first | omega | decide) ?_
    | refine opt_step hB rfl ?_
    | refine fnat_step hB ?_
    | refine ifk_step hB rfl ?_
    | refine opt2_step hB rfl ?_
    ) <;> conv => lhs; whnf)

set_option maxHeartbeats 20000000 in
theorem could_b0 (d : Desk) (hd : d.ok) (n0 n1 : Int) (hck : d.check = true) (hb0 : d.bs.length = 0) :
    (evKR Bk Gx fsT 2000000000000000).1 0 9 [d.v, .agg [.int .i64 n0, .int .i64 n1]] [] ansK = some (.bool true, []) := by
  refine call_open (show fsT.find 9 = some a9 from rfl) (by omega) fun n B cl rd hn' hB hcl hrd => ?_
  have hn : n = 1999999999999999 := by omega
  have H21 : cl 0 21 [] [] ansK = some (.bool true, []) := by rw [hcl, hn]; exact works_ev
  have H35 := sound_ev (G := Gx) (n := n) d hd (by omega)
  have H13 := fun (d : Desk) (hd : d.ok) i k => Could_ev (n := n) d hd i k (by omega)
  have H42 := fun a b hb => Spin_ev (G := Gx) (n := n) (by omega) a b hb
  have H46 := fun m h (z : Int) hz => sealOf_ev (G := Gx) (n := n) (by omega) m h (z := z) hz
  rw [← hcl] at H35 H13 H42 H46
  have hbs := hd.bs
  have hps := hd.ps
  rw [hck] at H35
  conv => lhs; whnf
  repeat' ((first
    | refine tok_step hB hd.tp ?_
    | refine tok_step hB hd.tb ?_
    | refine purs_step hB (by simp [purs, pur, hd.tp, hd.tb]) ?_
    | refine pans_step hB H35 ?_
    | refine pans_step hB H21 ?_
    | refine eq_tt hB (by simp only [Int.ofNat_eq_natCast]; omega) ?_
    | refine purs_step hB rfl ?_
    | refine lt_tt hB (by decide) ?_
    | refine lt_ff hB (by decide) ?_
    | refine le_tt hB (by decide) ?_
    | refine le_ff hB (by decide) ?_
    | refine eq_tt hB (by decide) ?_
    | refine eq_ff hB (by decide) ?_
    | refine fint_wrp hB (by omega) (by omega) ?_
    | refine fint_step hB ?_
    | refine fbool_tt hB ?_
    | refine fbool_ff hB ?_
    | refine fbool_split hB (fun _ => ?_) (fun _ => ?_)
    | refine ftok_step hB ?_
    | refine frows_step hB ?_
    | refine fstr_step hB ?_
    | refine len_map hB ?_
    | refine len_step hB ?_
    | refine lens_step hB ?_
    | refine byte_step hB ?_
    | refine drop_step hB rfl ?_
    | refine fl_step hB rfl ?_
    | refine add_one hB (by first | omega | decide) ?_
    | refine opt_step hB rfl ?_
    | refine fnat_step hB ?_
    | refine ifk_step hB rfl ?_
    | refine opt2_step hB rfl ?_
    ) <;> conv => lhs; whnf)

set_option maxHeartbeats 20000000 in
theorem could_p0 (d : Desk) (hd : d.ok) (n0 n1 : Int) (hck : d.check = true) (hb0 : ¬ d.bs.length = 0) (hp0 : d.ps.length = 0) :
    (evKR Bk Gx fsT 2000000000000000).1 0 9 [d.v, .agg [.int .i64 n0, .int .i64 n1]] [] ansK = some (.bool true, []) := by
  refine call_open (show fsT.find 9 = some a9 from rfl) (by omega) fun n B cl rd hn' hB hcl hrd => ?_
  have hn : n = 1999999999999999 := by omega
  have H21 : cl 0 21 [] [] ansK = some (.bool true, []) := by rw [hcl, hn]; exact works_ev
  have H35 := sound_ev (G := Gx) (n := n) d hd (by omega)
  have H13 := fun (d : Desk) (hd : d.ok) i k => Could_ev (n := n) d hd i k (by omega)
  have H42 := fun a b hb => Spin_ev (G := Gx) (n := n) (by omega) a b hb
  have H46 := fun m h (z : Int) hz => sealOf_ev (G := Gx) (n := n) (by omega) m h (z := z) hz
  rw [← hcl] at H35 H13 H42 H46
  have hbs := hd.bs
  have hps := hd.ps
  rw [hck] at H35
  conv => lhs; whnf
  repeat' ((first
    | refine tok_step hB hd.tp ?_
    | refine tok_step hB hd.tb ?_
    | refine purs_step hB (by simp [purs, pur, hd.tp, hd.tb]) ?_
    | refine pans_step hB H35 ?_
    | refine pans_step hB H21 ?_
    | refine eq_tt hB (by simp only [Int.ofNat_eq_natCast]; omega) ?_
    | refine eq_ff hB (by simp only [Int.ofNat_eq_natCast]; omega) ?_
    | refine purs_step hB rfl ?_
    | refine lt_tt hB (by decide) ?_
    | refine lt_ff hB (by decide) ?_
    | refine le_tt hB (by decide) ?_
    | refine le_ff hB (by decide) ?_
    | refine eq_tt hB (by decide) ?_
    | refine eq_ff hB (by decide) ?_
    | refine fint_wrp hB (by omega) (by omega) ?_
    | refine fint_step hB ?_
    | refine fbool_tt hB ?_
    | refine fbool_ff hB ?_
    | refine fbool_split hB (fun _ => ?_) (fun _ => ?_)
    | refine ftok_step hB ?_
    | refine frows_step hB ?_
    | refine fstr_step hB ?_
    | refine len_map hB ?_
    | refine len_step hB ?_
    | refine lens_step hB ?_
    | refine byte_step hB ?_
    | refine drop_step hB rfl ?_
    | refine fl_step hB rfl ?_
    | refine add_one hB (by first | omega | decide) ?_
    | refine opt_step hB rfl ?_
    | refine fnat_step hB ?_
    | refine ifk_step hB rfl ?_
    | refine opt2_step hB rfl ?_
    ) <;> conv => lhs; whnf)
end Go.Ab.Cl
