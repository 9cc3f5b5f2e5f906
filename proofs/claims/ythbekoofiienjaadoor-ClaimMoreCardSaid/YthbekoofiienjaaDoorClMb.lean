/-
  The claims: ClaimMore, on the abstract machine: its ways.
-/
import Derived.Test.YthbekoofiienjaaDoorClKa
import Derived.Test.YthbekoofiienjaaDoorClMa
import Derived.Test.YthbekoofiienjaaDoorWk
namespace Go.Ab.Cl
open Go.Ab

theorem a11_L1_two {B : Bnd} (hB : B = Bk) {cl : CallK} {rd : RoundK} (L M : List Int) (hL : L.length ≤ 1000000000000000) {tm tms t : Tok} (e : tms = tm) (htm : purTok tm = true) (H39 : ∀ z : Int, cl 0 39 [.sl (rowsI M) tm, .int .i64 z] [] ansK = some (.int .i64 (placeI M z 0), []))
    (n : Nat) (s : St) (k : Ex → Env → St → Ans) (r : Ans) (j : Nat) (ht : purTok t = true) (hj : L.length < j) (hsub : ∀ z ∈ L, z ∈ M) (k1 : ∀ e, k (.exit 1) e s = r) :
    B.loop (evCK B a11_L1) [6, 11, 13, 19] n j cl rd Gx 0 1 [(6, .bool false), (11, .sl (rowsI L) t), (13, .sl (rowsI M) tms), (19, .int .i64 0)] s k = r := by
  subst e
  exact a11_L1_step hB L M hL htm H39 n s k r j 0 t ht (by omega) (by omega) (by simpa using hsub) k1
theorem hi_ge2 (a b : Int) : a ≤ hiI a b ∧ b ≤ hiI a b := by unfold hiI; split <;> omega
theorem lo_le2 (a b : Int) : loI a b ≤ a ∧ loI a b ≤ b := by unfold loI; split <;> omega

set_option maxHeartbeats 40000000 in
theorem more_days (d : Desk) (hd : d.ok) (hck : d.check = true) (q : Parcel) (n0 n1 n2 by_ : Int) (i : Nat) (b : Box) (hb : d.bs[i]? = some b) (hz2 : spin n2 (Int.ofNat d.bs.length) = (i : Int)) (hz1 : spin n1 60 = by_) (hz0 : spin n0 5 = 0) :
    (evKR Bk Gx fsT 2000000000000000).1 0 11 [d.v, .agg q.c, .agg [.int .i64 n0, .int .i64 n1, .int .i64 n2]] [] ansK = some (.bool true, []) := by
  refine call_open (show fsT.find 11 = some a11 from rfl) (by omega) fun n B cl rd hn' hB hcl hrd => ?_
  have hn : n = 1999999999999999 := by omega
  have H21 : cl 0 21 [] [] ansK = some (.bool true, []) := by rw [hcl, hn]; exact works_ev
  have H35 := sound_ev (G := Gx) (n := n) d hd (by omega)
  have H42 := fun a b hb => Spin_ev (G := Gx) (n := n) (by omega) a b hb
  have HTo := fun a b => To_ev (n := n) (by omega) a b
  have HIn := fun a b c d => Inner_ev (n := n) (by omega) a b c d
  have H39 := fun (l : List Int) (hl : l.length ≤ 1000000000000000) (t : Tok) (ht : purTok t = true) (z : Int) => Place_ev (n := n) (by omega) l hl ht z
  have H15 := fun (d : Desk) (hd : d.ok) => Check_ev (G := Gx) (n := n) d hd (by omega)
  have H22 := fun (d : Desk) (hd : d.ok) z => Which_ev (n := n) (by omega) d hd z
  have H29 := fun (d : Desk) (hd : d.ok) => Worth_ev (n := n) (by omega) d hd
  have H22o := fun (d : Desk) (hd : d.ok) (ht : d.tb = .any) z (s : St) (hs : s.length = 1) {j : Nat} (hg : getObj s 0 j = some (.cells (bflat d.bs))) (kont : AV → St → Ans) => Which_os (n := n) (by omega) d hd ht z s (D := 1) hs.symm (l := 0) (i := j) (by omega) hg kont
  rw [← hcl] at H35 H42 HTo HIn H39 H15 H22 H29 H22o
  have hil : i < d.bs.length := (List.getElem?_eq_some_iff.1 hb).1
  have hb0 : d.bs.length ≠ 0 := by omega
  rw [hck] at H35
  have hbs := hd.bs
  have HS2 := H42 n2 (.ofNat d.bs.length) (by simp only [Int.ofNat_eq_natCast]; omega)
  have HS1 := H42 n1 60 (by omega)
  have HS0 := H42 n0 5 (by omega)
  have hby := spin_in (n := n1) (many := 60) (by omega)
  obtain ⟨zi, hzi⟩ : ∃ zi : Int, zi = (i : Int) := ⟨_, rfl⟩
  rw [hz2, ← hzi] at HS2
  rw [hz1] at HS1 hby
  rw [hz0] at HS0
  clear hz1 hz2 hz0 H42
  have hf := check_fine hck
  have hnb := hf.nb
  have hnp := hf.np
  have fb := hf.b b (List.mem_of_getElem? hb)
  have hxb : (d.bs.map Box.c)[i]? = some b.c := by simp [hb]
  have hml : b.mark.length ≤ 4 := by
    have := fb.2.2.2.1
    simp only [okSeal, Bool.and_eq_true, Bool.or_eq_true, beq_iff_eq, List.isEmpty_iff] at this
    rcases this.1 with h | h
    · rw [h]; simp
    · omega
  obtain ⟨s1, s2, s3, s4, s5⟩ := fb
  have w1 := hf.lo
  have w2 := hf.hi
  have w3 := hf.wear
  unfold Small at *
  have hck2 := hck
  simp only [Desk.check, Bool.and_eq_true, List.all_eq_true, isSpan, within, decide_eq_true_eq] at hck2
  obtain ⟨⟨⟨⟨⟨⟨c1, c2⟩, c3⟩, c4⟩, c5⟩, c6⟩, c7⟩ := hck2
  have cb := c7 b (List.mem_of_getElem? hb)
  simp only [okBox, isSpan, within, Bool.and_eq_true, decide_eq_true_eq] at cb
  obtain ⟨X, hX⟩ : ∃ X : Desk, X = moreX d (hiI 0 (d.lo - by_)) (loI 400 (d.hi + by_)) d.wear d.ps d.tp i b := ⟨_, rfl⟩
  have h1 := hi_ge2 0 (d.lo - by_)
  have h2 := lo_le2 400 (d.hi + by_)
  have h1' := hi_or 0 (d.lo - by_)
  have h2' := lo_or 400 (d.hi + by_)
  have hXc : X.check = true := by
    rw [hX]
    refine moreX_check hck ?_ ?_ hnp (List.all_eq_true.2 c6) ?_
    · simp [isSpan]; omega
    · simp [within]; omega
    · exact c7 b (List.mem_of_getElem? hb)

  have hXok : X.ok := by rw [hX]; exact moreX_ok hd hd.tp hd.ps (by omega)
  have hXw : Wider d X := by rw [hX]; exact moreX_wider (q := []) (by simp) hb (by omega) (by omega) (Int.le_refl _) rfl (Int.le_refl _) (Int.le_refl _) rfl (fun p _ h => h)
  have hXa : X.tb = .any := by rw [hX]; rfl
  have HCX := H15 X hXok
  rw [hXc] at HCX
  have HWd := H22 d hd zi
  have HWX : ∀ {s : St} {j nn : Nat} (_ : nn = X.bs.length) (_ : s.length = 1) (_ : getObj s 0 j = some (.cells (bflat X.bs))) (kont : AV → St → Ans), cl 1 22 [.agg (dcB X (.os 0 j 0 nn 5)), .int .i64 zi] s kont = kont (.tup [.sl (rowsI (whichL X zi)) (wtok (whichL X zi)), .int .i64 (whichE X zi)]) s := fun hn hs hg kont => by
    subst hn
    exact H22o X hXok hXa zi _ hs hg kont
  have HVd := H29 d hd
  have HVX := H29 X hXok
  have hwd : within zi 0 ((d.bs.length : Int) - 1) = true := by simp [within]; omega
  have hwx : within zi 0 ((X.bs.length : Int) - 1) = true := by rw [hXw.len]; exact hwd
  have e1 : whichE d zi = askE d true := by rw [whichE, hwd]
  have e2 : whichE X zi = askE X true := by rw [whichE, hwx]
  rw [e1] at HWd
  rw [e2] at HWX
  by_cases he : trueB d = true
  · have he2 := wider_true hXw hck hXc he
    have a1 : askE d true = 0 := by simp [askE, hck, he]
    have a2 : askE X true = 0 := by simp [askE, hXc, he2]
    have hL1 : whichL d zi = whichFrom d zi 0 := by rw [whichL, e1, if_pos a1]
    have hL2 : whichL X zi = whichFrom X zi 0 := by rw [whichL, e2, if_pos a2]
    rw [a1] at HWd HVd
    rw [a2] at HWX HVX
    rw [hL1] at HWd
    rw [hL2] at HWX
    have hII := HIn (worthLo d) (worthHi d) (worthLo X) (worthHi X)
    rw [wider_worth hXw hck hXc he] at hII
    have hsub := wider_which hXw hck hXc hil
    rw [← hzi] at hsub
    have hlenL : (whichFrom d zi 0).length ≤ 1000 := by
      unfold whichFrom
      rw [List.length_map]
      refine Nat.le_trans (List.length_filter_le ..) ?_
      simp; omega
    have hlenM : (whichFrom X zi 0).length ≤ 1000000 := by
      unfold whichFrom
      rw [List.length_map]
      refine Nat.le_trans (List.length_filter_le ..) ?_
      have := (check_fine hXc).np
      simp; omega
    have HPl := H39 (whichFrom X zi 0) (by omega) (wtok (whichFrom X zi 0)) (wtok_pur _)
    subst hX
    clear H39 H22 H22o H29 H15 HIn e1 e2 a1 a2 hL1 hL2 he he2 hwd hwx
    conv => lhs; whnf
    repeat' ((first | refine Qw hB ?_ | refine Qv hB hd.tp ?_ | refine Qv hB hd.tb ?_ | refine Qv hB (wtok_pur _) ?_ | refine Q0 hB (by simp [purs, pur, hd.tp, hd.tb, show purTok .any = true from rfl]) ?_ | refine Qx hB H35 ?_ | refine Qx hB H21 ?_ | refine Qx hB HS2 ?_ | refine Qx hB HS1 ?_ | refine Qx hB HS0 ?_ | refine Qx hB HCX ?_ | refine Qx hB HWd ?_ | refine (HWX (by simp [moreX]) rfl rfl _).trans ?_ | refine Qx hB HVd ?_ | refine Qx hB HVX ?_ | refine Qx hB (HTo _ _) ?_ | refine Q5 hB (by decide) ?_ | refine Q6 hB (by decide) ?_ | refine Q6 hB (by simp only [Int.ofNat_eq_natCast]; omega) ?_ | refine Q5 hB (by simp only [Int.ofNat_eq_natCast]; omega) ?_ | refine Q1 hB (by simp only [Int.ofNat_eq_natCast]; omega) ?_ | refine Q2 hB (by simp only [Int.ofNat_eq_natCast]; omega) ?_ | refine Qq hB (iarr_ok (k := 2) rfl rfl rfl (by decide)) ?_ | refine Qq hB (iarr_ok (k := 1) rfl rfl rfl (by decide)) ?_ | refine Qq hB (iarr_ok (k := 0) rfl rfl rfl (by decide)) ?_ | refine Qq hB (mx_ok rfl rfl) ?_ | refine Qq hB (mn_ok rfl rfl) ?_ | refine QC hB hzi ?_ | refine QB hB hxb ?_ | refine add_step hB (by omega) (by omega) ?_ | refine sub_step hB (by omega) (by omega) ?_ | refine appo_step hB (appo_ok (rows := d.bs.map Box.c) (fun h => hb0 (by simpa using congrArg List.length h)) box_len (by omega) (by rw [List.length_map]; omega)) ?_ | refine Qo hB (box_row_room hil) ?_ | refine Qo hB (box_lt hil) ?_ | refine Qk hB (box_row (b := b) hil) ?_ | refine osh_step hB (hand_os_ok (rows := (d.bs.set i b).map Box.c) (by simp) rfl (by omega) box_pur) ?_ | refine Qx hB hII ?_ | refine a11_L1_two hB (whichFrom d zi 0) _ (by omega) (clampTok_pur (wtok_pur _)) (wtok_pur _) HPl _ _ _ _ _ (purTok_clamp (wtok_pur _)) (by omega) hsub (fun e => ?_) | refine Q0 hB rfl ?_ | refine Q1 hB (by decide) ?_ | refine Q2 hB (by decide) ?_ | refine Q3 hB (by decide) ?_ | refine Q4 hB (by decide) ?_ | refine Q5 hB (by decide) ?_ | refine Q6 hB (by decide) ?_ | refine Q7 hB (by omega) (by omega) ?_ | refine Q8 hB ?_ | refine Q9 hB ?_ | refine Qa hB ?_ | refine Qb hB (fun _ => ?_) (fun _ => ?_) | refine Qc hB ?_ | refine Qd hB ?_ | refine Qe hB ?_ | refine Qf hB ?_ | refine Qg hB ?_ | refine Qh hB ?_ | refine Qi hB ?_ | refine Qj hB rfl ?_ | refine Qk hB rfl ?_ | refine Ql hB (by first | omega | decide) ?_ | refine Qm hB rfl ?_ | refine Qn hB ?_ | refine Qo hB rfl ?_ | refine Qo hB (Qp rfl) ?_ | refine Qq hB rfl ?_ | refine Qr hB ?_ | refine Qs hB ?_ | refine Qt hB ?_ | refine Qu hB ?_ | refine Qv hB rfl ?_) <;> conv => lhs; whnf)
    all_goals rfl
  · have he : trueB d = false := by simpa using he
    have a1 : askE d true = 92 := by simp [askE, hck, he]
    have hL1 : whichL d zi = [] := by rw [whichL, e1, a1]; rfl
    rw [a1] at HWd HVd
    rw [hL1] at HWd
    cases he2 : trueB X
    · have a2 : askE X true = 92 := by simp [askE, hXc, he2]
      rw [a2] at HWX HVX
      subst hX
      clear H39 H22 H22o H29 H15 HIn e1 e2 a1 a2 hL1 he he2 hwd hwx
      conv => lhs; whnf
      repeat' ((first | refine Qw hB ?_ | refine Qv hB hd.tp ?_ | refine Qv hB hd.tb ?_ | refine Qv hB (wtok_pur _) ?_ | refine Q0 hB (by simp [purs, pur, hd.tp, hd.tb, show purTok .any = true from rfl]) ?_ | refine Qx hB H35 ?_ | refine Qx hB H21 ?_ | refine Qx hB HS2 ?_ | refine Qx hB HS1 ?_ | refine Qx hB HS0 ?_ | refine Qx hB HCX ?_ | refine Qx hB HWd ?_ | refine (HWX (by simp [moreX]) rfl rfl _).trans ?_ | refine Qx hB HVd ?_ | refine Qx hB HVX ?_ | refine Qx hB (HTo _ _) ?_ | refine Q5 hB (by decide) ?_ | refine Q6 hB (by decide) ?_ | refine Q6 hB (by simp only [Int.ofNat_eq_natCast]; omega) ?_ | refine Q5 hB (by simp only [Int.ofNat_eq_natCast]; omega) ?_ | refine Q1 hB (by simp only [Int.ofNat_eq_natCast]; omega) ?_ | refine Q2 hB (by simp only [Int.ofNat_eq_natCast]; omega) ?_ | refine Qq hB (iarr_ok (k := 2) rfl rfl rfl (by decide)) ?_ | refine Qq hB (iarr_ok (k := 1) rfl rfl rfl (by decide)) ?_ | refine Qq hB (iarr_ok (k := 0) rfl rfl rfl (by decide)) ?_ | refine Qq hB (mx_ok rfl rfl) ?_ | refine Qq hB (mn_ok rfl rfl) ?_ | refine QC hB hzi ?_ | refine QB hB hxb ?_ | refine add_step hB (by omega) (by omega) ?_ | refine sub_step hB (by omega) (by omega) ?_ | refine appo_step hB (appo_ok (rows := d.bs.map Box.c) (fun h => hb0 (by simpa using congrArg List.length h)) box_len (by omega) (by rw [List.length_map]; omega)) ?_ | refine Qo hB (box_row_room hil) ?_ | refine Qo hB (box_lt hil) ?_ | refine Qk hB (box_row (b := b) hil) ?_ | refine osh_step hB (hand_os_ok (rows := (d.bs.set i b).map Box.c) (by simp) rfl (by omega) box_pur) ?_ | refine Q0 hB rfl ?_ | refine Q1 hB (by decide) ?_ | refine Q2 hB (by decide) ?_ | refine Q3 hB (by decide) ?_ | refine Q4 hB (by decide) ?_ | refine Q5 hB (by decide) ?_ | refine Q6 hB (by decide) ?_ | refine Q7 hB (by omega) (by omega) ?_ | refine Q8 hB ?_ | refine Q9 hB ?_ | refine Qa hB ?_ | refine Qb hB (fun _ => ?_) (fun _ => ?_) | refine Qc hB ?_ | refine Qd hB ?_ | refine Qe hB ?_ | refine Qf hB ?_ | refine Qg hB ?_ | refine Qh hB ?_ | refine Qi hB ?_ | refine Qj hB rfl ?_ | refine Qk hB rfl ?_ | refine Ql hB (by first | omega | decide) ?_ | refine Qm hB rfl ?_ | refine Qn hB ?_ | refine Qo hB rfl ?_ | refine Qo hB (Qp rfl) ?_ | refine Qq hB rfl ?_ | refine Qr hB ?_ | refine Qs hB ?_ | refine Qt hB ?_ | refine Qu hB ?_ | refine Qv hB rfl ?_) <;> conv => lhs; whnf)
      all_goals rfl
    · have a2 : askE X true = 0 := by simp [askE, hXc, he2]
      rw [a2] at HWX HVX
      subst hX
      clear H39 H22 H22o H29 H15 HIn e1 e2 a1 a2 hL1 he he2 hwd hwx
      conv => lhs; whnf
      repeat' ((first | refine Qw hB ?_ | refine Qv hB hd.tp ?_ | refine Qv hB hd.tb ?_ | refine Qv hB (wtok_pur _) ?_ | refine Q0 hB (by simp [purs, pur, hd.tp, hd.tb, show purTok .any = true from rfl]) ?_ | refine Qx hB H35 ?_ | refine Qx hB H21 ?_ | refine Qx hB HS2 ?_ | refine Qx hB HS1 ?_ | refine Qx hB HS0 ?_ | refine Qx hB HCX ?_ | refine Qx hB HWd ?_ | refine (HWX (by simp [moreX]) rfl rfl _).trans ?_ | refine Qx hB HVd ?_ | refine Qx hB HVX ?_ | refine Qx hB (HTo _ _) ?_ | refine Q5 hB (by decide) ?_ | refine Q6 hB (by decide) ?_ | refine Q6 hB (by simp only [Int.ofNat_eq_natCast]; omega) ?_ | refine Q5 hB (by simp only [Int.ofNat_eq_natCast]; omega) ?_ | refine Q1 hB (by simp only [Int.ofNat_eq_natCast]; omega) ?_ | refine Q2 hB (by simp only [Int.ofNat_eq_natCast]; omega) ?_ | refine Qq hB (iarr_ok (k := 2) rfl rfl rfl (by decide)) ?_ | refine Qq hB (iarr_ok (k := 1) rfl rfl rfl (by decide)) ?_ | refine Qq hB (iarr_ok (k := 0) rfl rfl rfl (by decide)) ?_ | refine Qq hB (mx_ok rfl rfl) ?_ | refine Qq hB (mn_ok rfl rfl) ?_ | refine QC hB hzi ?_ | refine QB hB hxb ?_ | refine add_step hB (by omega) (by omega) ?_ | refine sub_step hB (by omega) (by omega) ?_ | refine appo_step hB (appo_ok (rows := d.bs.map Box.c) (fun h => hb0 (by simpa using congrArg List.length h)) box_len (by omega) (by rw [List.length_map]; omega)) ?_ | refine Qo hB (box_row_room hil) ?_ | refine Qo hB (box_lt hil) ?_ | refine Qk hB (box_row (b := b) hil) ?_ | refine osh_step hB (hand_os_ok (rows := (d.bs.set i b).map Box.c) (by simp) rfl (by omega) box_pur) ?_ | refine Q0 hB rfl ?_ | refine Q1 hB (by decide) ?_ | refine Q2 hB (by decide) ?_ | refine Q3 hB (by decide) ?_ | refine Q4 hB (by decide) ?_ | refine Q5 hB (by decide) ?_ | refine Q6 hB (by decide) ?_ | refine Q7 hB (by omega) (by omega) ?_ | refine Q8 hB ?_ | refine Q9 hB ?_ | refine Qa hB ?_ | refine Qb hB (fun _ => ?_) (fun _ => ?_) | refine Qc hB ?_ | refine Qd hB ?_ | refine Qe hB ?_ | refine Qf hB ?_ | refine Qg hB ?_ | refine Qh hB ?_ | refine Qi hB ?_ | refine Qj hB rfl ?_ | refine Qk hB rfl ?_ | refine Ql hB (by first | omega | decide) ?_ | refine Qm hB rfl ?_ | refine Qn hB ?_ | refine Qo hB rfl ?_ | refine Qo hB (Qp rfl) ?_ | refine Qq hB rfl ?_ | refine Qr hB ?_ | refine Qs hB ?_ | refine Qt hB ?_ | refine Qu hB ?_ | refine Qv hB rfl ?_) <;> conv => lhs; whnf)
      all_goals rfl

set_option maxHeartbeats 40000000 in
theorem more_wear (d : Desk) (hd : d.ok) (hck : d.check = true) (q : Parcel) (n0 n1 n2 by_ : Int) (i : Nat) (b : Box) (hb : d.bs[i]? = some b) (hz2 : spin n2 (Int.ofNat d.bs.length) = (i : Int)) (hz1 : spin n1 60 = by_) (hz0 : spin n0 5 = 1) :
    (evKR Bk Gx fsT 2000000000000000).1 0 11 [d.v, .agg q.c, .agg [.int .i64 n0, .int .i64 n1, .int .i64 n2]] [] ansK = some (.bool true, []) := by
  refine call_open (show fsT.find 11 = some a11 from rfl) (by omega) fun n B cl rd hn' hB hcl hrd => ?_
  have hn : n = 1999999999999999 := by omega
  have H21 : cl 0 21 [] [] ansK = some (.bool true, []) := by rw [hcl, hn]; exact works_ev
  have H35 := sound_ev (G := Gx) (n := n) d hd (by omega)
  have H42 := fun a b hb => Spin_ev (G := Gx) (n := n) (by omega) a b hb
  have HTo := fun a b => To_ev (n := n) (by omega) a b
  have HIn := fun a b c d => Inner_ev (n := n) (by omega) a b c d
  have H39 := fun (l : List Int) (hl : l.length ≤ 1000000000000000) (t : Tok) (ht : purTok t = true) (z : Int) => Place_ev (n := n) (by omega) l hl ht z
  have H15 := fun (d : Desk) (hd : d.ok) => Check_ev (G := Gx) (n := n) d hd (by omega)
  have H22 := fun (d : Desk) (hd : d.ok) z => Which_ev (n := n) (by omega) d hd z
  have H29 := fun (d : Desk) (hd : d.ok) => Worth_ev (n := n) (by omega) d hd
  have H22o := fun (d : Desk) (hd : d.ok) (ht : d.tb = .any) z (s : St) (hs : s.length = 1) {j : Nat} (hg : getObj s 0 j = some (.cells (bflat d.bs))) (kont : AV → St → Ans) => Which_os (n := n) (by omega) d hd ht z s (D := 1) hs.symm (l := 0) (i := j) (by omega) hg kont
  rw [← hcl] at H35 H42 HTo HIn H39 H15 H22 H29 H22o
  have hil : i < d.bs.length := (List.getElem?_eq_some_iff.1 hb).1
  have hb0 : d.bs.length ≠ 0 := by omega
  rw [hck] at H35
  have hbs := hd.bs
  have HS2 := H42 n2 (.ofNat d.bs.length) (by simp only [Int.ofNat_eq_natCast]; omega)
  have HS1 := H42 n1 60 (by omega)
  have HS0 := H42 n0 5 (by omega)
  have hby := spin_in (n := n1) (many := 60) (by omega)
  obtain ⟨zi, hzi⟩ : ∃ zi : Int, zi = (i : Int) := ⟨_, rfl⟩
  rw [hz2, ← hzi] at HS2
  rw [hz1] at HS1 hby
  rw [hz0] at HS0
  clear hz1 hz2 hz0 H42
  have hf := check_fine hck
  have hnb := hf.nb
  have hnp := hf.np
  have fb := hf.b b (List.mem_of_getElem? hb)
  have hxb : (d.bs.map Box.c)[i]? = some b.c := by simp [hb]
  have hml : b.mark.length ≤ 4 := by
    have := fb.2.2.2.1
    simp only [okSeal, Bool.and_eq_true, Bool.or_eq_true, beq_iff_eq, List.isEmpty_iff] at this
    rcases this.1 with h | h
    · rw [h]; simp
    · omega
  obtain ⟨s1, s2, s3, s4, s5⟩ := fb
  have w1 := hf.lo
  have w2 := hf.hi
  have w3 := hf.wear
  unfold Small at *
  have hck2 := hck
  simp only [Desk.check, Bool.and_eq_true, List.all_eq_true, isSpan, within, decide_eq_true_eq] at hck2
  obtain ⟨⟨⟨⟨⟨⟨c1, c2⟩, c3⟩, c4⟩, c5⟩, c6⟩, c7⟩ := hck2
  have cb := c7 b (List.mem_of_getElem? hb)
  simp only [okBox, isSpan, within, Bool.and_eq_true, decide_eq_true_eq] at cb
  obtain ⟨X, hX⟩ : ∃ X : Desk, X = moreX d d.lo d.hi (loI 5000 (d.wear + by_)) d.ps d.tp i b := ⟨_, rfl⟩
  have h2 := lo_le2 5000 (d.wear + by_)
  have h2' := lo_or 5000 (d.wear + by_)
  have hXc : X.check = true := by
    rw [hX]
    refine moreX_check hck ?_ ?_ hnp (List.all_eq_true.2 c6) ?_
    · simp [isSpan]; omega
    · simp [within]; omega
    · exact c7 b (List.mem_of_getElem? hb)

  have hXok : X.ok := by rw [hX]; exact moreX_ok hd hd.tp hd.ps (by omega)
  have hXw : Wider d X := by rw [hX]; exact moreX_wider (q := []) (by simp) hb (Int.le_refl _) (Int.le_refl _) (by omega) rfl (Int.le_refl _) (Int.le_refl _) rfl (fun p _ h => h)
  have hXa : X.tb = .any := by rw [hX]; rfl
  have HCX := H15 X hXok
  rw [hXc] at HCX
  have HWd := H22 d hd zi
  have HWX : ∀ {s : St} {j nn : Nat} (_ : nn = X.bs.length) (_ : s.length = 1) (_ : getObj s 0 j = some (.cells (bflat X.bs))) (kont : AV → St → Ans), cl 1 22 [.agg (dcB X (.os 0 j 0 nn 5)), .int .i64 zi] s kont = kont (.tup [.sl (rowsI (whichL X zi)) (wtok (whichL X zi)), .int .i64 (whichE X zi)]) s := fun hn hs hg kont => by
    subst hn
    exact H22o X hXok hXa zi _ hs hg kont
  have HVd := H29 d hd
  have HVX := H29 X hXok
  have hwd : within zi 0 ((d.bs.length : Int) - 1) = true := by simp [within]; omega
  have hwx : within zi 0 ((X.bs.length : Int) - 1) = true := by rw [hXw.len]; exact hwd
  have e1 : whichE d zi = askE d true := by rw [whichE, hwd]
  have e2 : whichE X zi = askE X true := by rw [whichE, hwx]
  rw [e1] at HWd
  rw [e2] at HWX
  by_cases he : trueB d = true
  · have he2 := wider_true hXw hck hXc he
    have a1 : askE d true = 0 := by simp [askE, hck, he]
    have a2 : askE X true = 0 := by simp [askE, hXc, he2]
    have hL1 : whichL d zi = whichFrom d zi 0 := by rw [whichL, e1, if_pos a1]
    have hL2 : whichL X zi = whichFrom X zi 0 := by rw [whichL, e2, if_pos a2]
    rw [a1] at HWd HVd
    rw [a2] at HWX HVX
    rw [hL1] at HWd
    rw [hL2] at HWX
    have hII := HIn (worthLo d) (worthHi d) (worthLo X) (worthHi X)
    rw [wider_worth hXw hck hXc he] at hII
    have hsub := wider_which hXw hck hXc hil
    rw [← hzi] at hsub
    have hlenL : (whichFrom d zi 0).length ≤ 1000 := by
      unfold whichFrom
      rw [List.length_map]
      refine Nat.le_trans (List.length_filter_le ..) ?_
      simp; omega
    have hlenM : (whichFrom X zi 0).length ≤ 1000000 := by
      unfold whichFrom
      rw [List.length_map]
      refine Nat.le_trans (List.length_filter_le ..) ?_
      have := (check_fine hXc).np
      simp; omega
    have HPl := H39 (whichFrom X zi 0) (by omega) (wtok (whichFrom X zi 0)) (wtok_pur _)
    subst hX
    clear H39 H22 H22o H29 H15 HIn e1 e2 a1 a2 hL1 hL2 he he2 hwd hwx
    conv => lhs; whnf
    repeat' ((first | refine Qw hB ?_ | refine Qv hB hd.tp ?_ | refine Qv hB hd.tb ?_ | refine Qv hB (wtok_pur _) ?_ | refine Q0 hB (by simp [purs, pur, hd.tp, hd.tb, show purTok .any = true from rfl]) ?_ | refine Qx hB H35 ?_ | refine Qx hB H21 ?_ | refine Qx hB HS2 ?_ | refine Qx hB HS1 ?_ | refine Qx hB HS0 ?_ | refine Qx hB HCX ?_ | refine Qx hB HWd ?_ | refine (HWX (by simp [moreX]) rfl rfl _).trans ?_ | refine Qx hB HVd ?_ | refine Qx hB HVX ?_ | refine Qx hB (HTo _ _) ?_ | refine Q5 hB (by decide) ?_ | refine Q6 hB (by decide) ?_ | refine Q6 hB (by simp only [Int.ofNat_eq_natCast]; omega) ?_ | refine Q5 hB (by simp only [Int.ofNat_eq_natCast]; omega) ?_ | refine Q1 hB (by simp only [Int.ofNat_eq_natCast]; omega) ?_ | refine Q2 hB (by simp only [Int.ofNat_eq_natCast]; omega) ?_ | refine Qq hB (iarr_ok (k := 2) rfl rfl rfl (by decide)) ?_ | refine Qq hB (iarr_ok (k := 1) rfl rfl rfl (by decide)) ?_ | refine Qq hB (iarr_ok (k := 0) rfl rfl rfl (by decide)) ?_ | refine Qq hB (mx_ok rfl rfl) ?_ | refine Qq hB (mn_ok rfl rfl) ?_ | refine QC hB hzi ?_ | refine QB hB hxb ?_ | refine add_step hB (by omega) (by omega) ?_ | refine sub_step hB (by omega) (by omega) ?_ | refine appo_step hB (appo_ok (rows := d.bs.map Box.c) (fun h => hb0 (by simpa using congrArg List.length h)) box_len (by omega) (by rw [List.length_map]; omega)) ?_ | refine Qo hB (box_row_room hil) ?_ | refine Qo hB (box_lt hil) ?_ | refine Qk hB (box_row (b := b) hil) ?_ | refine osh_step hB (hand_os_ok (rows := (d.bs.set i b).map Box.c) (by simp) rfl (by omega) box_pur) ?_ | refine Qx hB hII ?_ | refine a11_L1_two hB (whichFrom d zi 0) _ (by omega) (clampTok_pur (wtok_pur _)) (wtok_pur _) HPl _ _ _ _ _ (purTok_clamp (wtok_pur _)) (by omega) hsub (fun e => ?_) | refine Q0 hB rfl ?_ | refine Q1 hB (by decide) ?_ | refine Q2 hB (by decide) ?_ | refine Q3 hB (by decide) ?_ | refine Q4 hB (by decide) ?_ | refine Q5 hB (by decide) ?_ | refine Q6 hB (by decide) ?_ | refine Q7 hB (by omega) (by omega) ?_ | refine Q8 hB ?_ | refine Q9 hB ?_ | refine Qa hB ?_ | refine Qb hB (fun _ => ?_) (fun _ => ?_) | refine Qc hB ?_ | refine Qd hB ?_ | refine Qe hB ?_ | refine Qf hB ?_ | refine Qg hB ?_ | refine Qh hB ?_ | refine Qi hB ?_ | refine Qj hB rfl ?_ | refine Qk hB rfl ?_ | refine Ql hB (by first | omega | decide) ?_ | refine Qm hB rfl ?_ | refine Qn hB ?_ | refine Qo hB rfl ?_ | refine Qo hB (Qp rfl) ?_ | refine Qq hB rfl ?_ | refine Qr hB ?_ | refine Qs hB ?_ | refine Qt hB ?_ | refine Qu hB ?_ | refine Qv hB rfl ?_) <;> conv => lhs; whnf)
    all_goals rfl
  · have he : trueB d = false := by simpa using he
    have a1 : askE d true = 92 := by simp [askE, hck, he]
    have hL1 : whichL d zi = [] := by rw [whichL, e1, a1]; rfl
    rw [a1] at HWd HVd
    rw [hL1] at HWd
    cases he2 : trueB X
    · have a2 : askE X true = 92 := by simp [askE, hXc, he2]
      rw [a2] at HWX HVX
      subst hX
      clear H39 H22 H22o H29 H15 HIn e1 e2 a1 a2 hL1 he he2 hwd hwx
      conv => lhs; whnf
      repeat' ((first | refine Qw hB ?_ | refine Qv hB hd.tp ?_ | refine Qv hB hd.tb ?_ | refine Qv hB (wtok_pur _) ?_ | refine Q0 hB (by simp [purs, pur, hd.tp, hd.tb, show purTok .any = true from rfl]) ?_ | refine Qx hB H35 ?_ | refine Qx hB H21 ?_ | refine Qx hB HS2 ?_ | refine Qx hB HS1 ?_ | refine Qx hB HS0 ?_ | refine Qx hB HCX ?_ | refine Qx hB HWd ?_ | refine (HWX (by simp [moreX]) rfl rfl _).trans ?_ | refine Qx hB HVd ?_ | refine Qx hB HVX ?_ | refine Qx hB (HTo _ _) ?_ | refine Q5 hB (by decide) ?_ | refine Q6 hB (by decide) ?_ | refine Q6 hB (by simp only [Int.ofNat_eq_natCast]; omega) ?_ | refine Q5 hB (by simp only [Int.ofNat_eq_natCast]; omega) ?_ | refine Q1 hB (by simp only [Int.ofNat_eq_natCast]; omega) ?_ | refine Q2 hB (by simp only [Int.ofNat_eq_natCast]; omega) ?_ | refine Qq hB (iarr_ok (k := 2) rfl rfl rfl (by decide)) ?_ | refine Qq hB (iarr_ok (k := 1) rfl rfl rfl (by decide)) ?_ | refine Qq hB (iarr_ok (k := 0) rfl rfl rfl (by decide)) ?_ | refine Qq hB (mx_ok rfl rfl) ?_ | refine Qq hB (mn_ok rfl rfl) ?_ | refine QC hB hzi ?_ | refine QB hB hxb ?_ | refine add_step hB (by omega) (by omega) ?_ | refine sub_step hB (by omega) (by omega) ?_ | refine appo_step hB (appo_ok (rows := d.bs.map Box.c) (fun h => hb0 (by simpa using congrArg List.length h)) box_len (by omega) (by rw [List.length_map]; omega)) ?_ | refine Qo hB (box_row_room hil) ?_ | refine Qo hB (box_lt hil) ?_ | refine Qk hB (box_row (b := b) hil) ?_ | refine osh_step hB (hand_os_ok (rows := (d.bs.set i b).map Box.c) (by simp) rfl (by omega) box_pur) ?_ | refine Q0 hB rfl ?_ | refine Q1 hB (by decide) ?_ | refine Q2 hB (by decide) ?_ | refine Q3 hB (by decide) ?_ | refine Q4 hB (by decide) ?_ | refine Q5 hB (by decide) ?_ | refine Q6 hB (by decide) ?_ | refine Q7 hB (by omega) (by omega) ?_ | refine Q8 hB ?_ | refine Q9 hB ?_ | refine Qa hB ?_ | refine Qb hB (fun _ => ?_) (fun _ => ?_) | refine Qc hB ?_ | refine Qd hB ?_ | refine Qe hB ?_ | refine Qf hB ?_ | refine Qg hB ?_ | refine Qh hB ?_ | refine Qi hB ?_ | refine Qj hB rfl ?_ | refine Qk hB rfl ?_ | refine Ql hB (by first | omega | decide) ?_ | refine Qm hB rfl ?_ | refine Qn hB ?_ | refine Qo hB rfl ?_ | refine Qo hB (Qp rfl) ?_ | refine Qq hB rfl ?_ | refine Qr hB ?_ | refine Qs hB ?_ | refine Qt hB ?_ | refine Qu hB ?_ | refine Qv hB rfl ?_) <;> conv => lhs; whnf)
      all_goals rfl
    · have a2 : askE X true = 0 := by simp [askE, hXc, he2]
      rw [a2] at HWX HVX
      subst hX
      clear H39 H22 H22o H29 H15 HIn e1 e2 a1 a2 hL1 he he2 hwd hwx
      conv => lhs; whnf
      repeat' ((first | refine Qw hB ?_ | refine Qv hB hd.tp ?_ | refine Qv hB hd.tb ?_ | refine Qv hB (wtok_pur _) ?_ | refine Q0 hB (by simp [purs, pur, hd.tp, hd.tb, show purTok .any = true from rfl]) ?_ | refine Qx hB H35 ?_ | refine Qx hB H21 ?_ | refine Qx hB HS2 ?_ | refine Qx hB HS1 ?_ | refine Qx hB HS0 ?_ | refine Qx hB HCX ?_ | refine Qx hB HWd ?_ | refine (HWX (by simp [moreX]) rfl rfl _).trans ?_ | refine Qx hB HVd ?_ | refine Qx hB HVX ?_ | refine Qx hB (HTo _ _) ?_ | refine Q5 hB (by decide) ?_ | refine Q6 hB (by decide) ?_ | refine Q6 hB (by simp only [Int.ofNat_eq_natCast]; omega) ?_ | refine Q5 hB (by simp only [Int.ofNat_eq_natCast]; omega) ?_ | refine Q1 hB (by simp only [Int.ofNat_eq_natCast]; omega) ?_ | refine Q2 hB (by simp only [Int.ofNat_eq_natCast]; omega) ?_ | refine Qq hB (iarr_ok (k := 2) rfl rfl rfl (by decide)) ?_ | refine Qq hB (iarr_ok (k := 1) rfl rfl rfl (by decide)) ?_ | refine Qq hB (iarr_ok (k := 0) rfl rfl rfl (by decide)) ?_ | refine Qq hB (mx_ok rfl rfl) ?_ | refine Qq hB (mn_ok rfl rfl) ?_ | refine QC hB hzi ?_ | refine QB hB hxb ?_ | refine add_step hB (by omega) (by omega) ?_ | refine sub_step hB (by omega) (by omega) ?_ | refine appo_step hB (appo_ok (rows := d.bs.map Box.c) (fun h => hb0 (by simpa using congrArg List.length h)) box_len (by omega) (by rw [List.length_map]; omega)) ?_ | refine Qo hB (box_row_room hil) ?_ | refine Qo hB (box_lt hil) ?_ | refine Qk hB (box_row (b := b) hil) ?_ | refine osh_step hB (hand_os_ok (rows := (d.bs.set i b).map Box.c) (by simp) rfl (by omega) box_pur) ?_ | refine Q0 hB rfl ?_ | refine Q1 hB (by decide) ?_ | refine Q2 hB (by decide) ?_ | refine Q3 hB (by decide) ?_ | refine Q4 hB (by decide) ?_ | refine Q5 hB (by decide) ?_ | refine Q6 hB (by decide) ?_ | refine Q7 hB (by omega) (by omega) ?_ | refine Q8 hB ?_ | refine Q9 hB ?_ | refine Qa hB ?_ | refine Qb hB (fun _ => ?_) (fun _ => ?_) | refine Qc hB ?_ | refine Qd hB ?_ | refine Qe hB ?_ | refine Qf hB ?_ | refine Qg hB ?_ | refine Qh hB ?_ | refine Qi hB ?_ | refine Qj hB rfl ?_ | refine Qk hB rfl ?_ | refine Ql hB (by first | omega | decide) ?_ | refine Qm hB rfl ?_ | refine Qn hB ?_ | refine Qo hB rfl ?_ | refine Qo hB (Qp rfl) ?_ | refine Qq hB rfl ?_ | refine Qr hB ?_ | refine Qs hB ?_ | refine Qt hB ?_ | refine Qu hB ?_ | refine Qv hB rfl ?_) <;> conv => lhs; whnf)
      all_goals rfl

set_option maxHeartbeats 40000000 in
theorem more_weight (d : Desk) (hd : d.ok) (hck : d.check = true) (q : Parcel) (n0 n1 n2 by_ : Int) (i : Nat) (b : Box) (hb : d.bs[i]? = some b) (hz2 : spin n2 (Int.ofNat d.bs.length) = (i : Int)) (hz1 : spin n1 60 = by_) (hz0 : spin n0 5 = 2) :
    (evKR Bk Gx fsT 2000000000000000).1 0 11 [d.v, .agg q.c, .agg [.int .i64 n0, .int .i64 n1, .int .i64 n2]] [] ansK = some (.bool true, []) := by
  refine call_open (show fsT.find 11 = some a11 from rfl) (by omega) fun n B cl rd hn' hB hcl hrd => ?_
  have hn : n = 1999999999999999 := by omega
  have H21 : cl 0 21 [] [] ansK = some (.bool true, []) := by rw [hcl, hn]; exact works_ev
  have H35 := sound_ev (G := Gx) (n := n) d hd (by omega)
  have H42 := fun a b hb => Spin_ev (G := Gx) (n := n) (by omega) a b hb
  have HTo := fun a b => To_ev (n := n) (by omega) a b
  have HIn := fun a b c d => Inner_ev (n := n) (by omega) a b c d
  have H39 := fun (l : List Int) (hl : l.length ≤ 1000000000000000) (t : Tok) (ht : purTok t = true) (z : Int) => Place_ev (n := n) (by omega) l hl ht z
  have H15 := fun (d : Desk) (hd : d.ok) => Check_ev (G := Gx) (n := n) d hd (by omega)
  have H22 := fun (d : Desk) (hd : d.ok) z => Which_ev (n := n) (by omega) d hd z
  have H29 := fun (d : Desk) (hd : d.ok) => Worth_ev (n := n) (by omega) d hd
  have H22o := fun (d : Desk) (hd : d.ok) (ht : d.tb = .any) z (s : St) (hs : s.length = 1) {j : Nat} (hg : getObj s 0 j = some (.cells (bflat d.bs))) (kont : AV → St → Ans) => Which_os (n := n) (by omega) d hd ht z s (D := 1) hs.symm (l := 0) (i := j) (by omega) hg kont
  rw [← hcl] at H35 H42 HTo HIn H39 H15 H22 H29 H22o
  have hil : i < d.bs.length := (List.getElem?_eq_some_iff.1 hb).1
  have hb0 : d.bs.length ≠ 0 := by omega
  rw [hck] at H35
  have hbs := hd.bs
  have HS2 := H42 n2 (.ofNat d.bs.length) (by simp only [Int.ofNat_eq_natCast]; omega)
  have HS1 := H42 n1 60 (by omega)
  have HS0 := H42 n0 5 (by omega)
  have hby := spin_in (n := n1) (many := 60) (by omega)
  obtain ⟨zi, hzi⟩ : ∃ zi : Int, zi = (i : Int) := ⟨_, rfl⟩
  rw [hz2, ← hzi] at HS2
  rw [hz1] at HS1 hby
  rw [hz0] at HS0
  clear hz1 hz2 hz0 H42
  have hf := check_fine hck
  have hnb := hf.nb
  have hnp := hf.np
  have fb := hf.b b (List.mem_of_getElem? hb)
  have hxb : (d.bs.map Box.c)[i]? = some b.c := by simp [hb]
  have hml : b.mark.length ≤ 4 := by
    have := fb.2.2.2.1
    simp only [okSeal, Bool.and_eq_true, Bool.or_eq_true, beq_iff_eq, List.isEmpty_iff] at this
    rcases this.1 with h | h
    · rw [h]; simp
    · omega
  obtain ⟨s1, s2, s3, s4, s5⟩ := fb
  have w1 := hf.lo
  have w2 := hf.hi
  have w3 := hf.wear
  unfold Small at *
  have hck2 := hck
  simp only [Desk.check, Bool.and_eq_true, List.all_eq_true, isSpan, within, decide_eq_true_eq] at hck2
  obtain ⟨⟨⟨⟨⟨⟨c1, c2⟩, c3⟩, c4⟩, c5⟩, c6⟩, c7⟩ := hck2
  have cb := c7 b (List.mem_of_getElem? hb)
  simp only [okBox, isSpan, within, Bool.and_eq_true, decide_eq_true_eq] at cb
  obtain ⟨X, hX⟩ : ∃ X : Desk, X = moreX d d.lo d.hi d.wear d.ps d.tp i { b with low := hiI 0 (b.low - by_), high := loI 50000 (b.high + by_) } := ⟨_, rfl⟩
  have h1 := hi_ge2 0 (b.low - by_)
  have h2 := lo_le2 50000 (b.high + by_)
  have h1' := hi_or 0 (b.low - by_)
  have h2' := lo_or 50000 (b.high + by_)
  have hXc : X.check = true := by
    rw [hX]
    refine moreX_check hck ?_ ?_ hnp (List.all_eq_true.2 c6) ?_
    · simp [isSpan]; omega
    · simp [within]; omega
    · simp only [okBox, isSpan, within, Bool.and_eq_true, decide_eq_true_eq]; exact ⟨⟨cb.1.1, ⟨by omega, by omega⟩, by omega⟩, cb.2⟩

  have hXok : X.ok := by rw [hX]; exact moreX_ok hd hd.tp hd.ps (show b.mark.length ≤ _ by omega)
  have hXw : Wider d X := by rw [hX]; exact moreX_wider (q := []) (by simp) hb (Int.le_refl _) (Int.le_refl _) (Int.le_refl _) rfl (show hiI 0 (b.low - by_) ≤ b.low by omega) (show b.high ≤ loI 50000 (b.high + by_) by omega) rfl (fun p _ h => h)
  have hXa : X.tb = .any := by rw [hX]; rfl
  have HCX := H15 X hXok
  rw [hXc] at HCX
  have HWd := H22 d hd zi
  have HWX : ∀ {s : St} {j nn : Nat} (_ : nn = X.bs.length) (_ : s.length = 1) (_ : getObj s 0 j = some (.cells (bflat X.bs))) (kont : AV → St → Ans), cl 1 22 [.agg (dcB X (.os 0 j 0 nn 5)), .int .i64 zi] s kont = kont (.tup [.sl (rowsI (whichL X zi)) (wtok (whichL X zi)), .int .i64 (whichE X zi)]) s := fun hn hs hg kont => by
    subst hn
    exact H22o X hXok hXa zi _ hs hg kont
  have HVd := H29 d hd
  have HVX := H29 X hXok
  have hwd : within zi 0 ((d.bs.length : Int) - 1) = true := by simp [within]; omega
  have hwx : within zi 0 ((X.bs.length : Int) - 1) = true := by rw [hXw.len]; exact hwd
  have e1 : whichE d zi = askE d true := by rw [whichE, hwd]
  have e2 : whichE X zi = askE X true := by rw [whichE, hwx]
  rw [e1] at HWd
  rw [e2] at HWX
  by_cases he : trueB d = true
  · have he2 := wider_true hXw hck hXc he
    have a1 : askE d true = 0 := by simp [askE, hck, he]
    have a2 : askE X true = 0 := by simp [askE, hXc, he2]
    have hL1 : whichL d zi = whichFrom d zi 0 := by rw [whichL, e1, if_pos a1]
    have hL2 : whichL X zi = whichFrom X zi 0 := by rw [whichL, e2, if_pos a2]
    rw [a1] at HWd HVd
    rw [a2] at HWX HVX
    rw [hL1] at HWd
    rw [hL2] at HWX
    have hII := HIn (worthLo d) (worthHi d) (worthLo X) (worthHi X)
    rw [wider_worth hXw hck hXc he] at hII
    have hsub := wider_which hXw hck hXc hil
    rw [← hzi] at hsub
    have hlenL : (whichFrom d zi 0).length ≤ 1000 := by
      unfold whichFrom
      rw [List.length_map]
      refine Nat.le_trans (List.length_filter_le ..) ?_
      simp; omega
    have hlenM : (whichFrom X zi 0).length ≤ 1000000 := by
      unfold whichFrom
      rw [List.length_map]
      refine Nat.le_trans (List.length_filter_le ..) ?_
      have := (check_fine hXc).np
      simp; omega
    have HPl := H39 (whichFrom X zi 0) (by omega) (wtok (whichFrom X zi 0)) (wtok_pur _)
    subst hX
    clear H39 H22 H22o H29 H15 HIn e1 e2 a1 a2 hL1 hL2 he he2 hwd hwx
    conv => lhs; whnf
    repeat' ((first | refine Qw hB ?_ | refine Qv hB hd.tp ?_ | refine Qv hB hd.tb ?_ | refine Qv hB (wtok_pur _) ?_ | refine Q0 hB (by simp [purs, pur, hd.tp, hd.tb, show purTok .any = true from rfl]) ?_ | refine Qx hB H35 ?_ | refine Qx hB H21 ?_ | refine Qx hB HS2 ?_ | refine Qx hB HS1 ?_ | refine Qx hB HS0 ?_ | refine Qx hB HCX ?_ | refine Qx hB HWd ?_ | refine (HWX (by simp [moreX]) rfl rfl _).trans ?_ | refine Qx hB HVd ?_ | refine Qx hB HVX ?_ | refine Qx hB (HTo _ _) ?_ | refine Q5 hB (by decide) ?_ | refine Q6 hB (by decide) ?_ | refine Q6 hB (by simp only [Int.ofNat_eq_natCast]; omega) ?_ | refine Q5 hB (by simp only [Int.ofNat_eq_natCast]; omega) ?_ | refine Q1 hB (by simp only [Int.ofNat_eq_natCast]; omega) ?_ | refine Q2 hB (by simp only [Int.ofNat_eq_natCast]; omega) ?_ | refine Qq hB (iarr_ok (k := 2) rfl rfl rfl (by decide)) ?_ | refine Qq hB (iarr_ok (k := 1) rfl rfl rfl (by decide)) ?_ | refine Qq hB (iarr_ok (k := 0) rfl rfl rfl (by decide)) ?_ | refine Qq hB (mx_ok rfl rfl) ?_ | refine Qq hB (mn_ok rfl rfl) ?_ | refine QC hB hzi ?_ | refine QB hB hxb ?_ | refine add_step hB (by omega) (by omega) ?_ | refine sub_step hB (by omega) (by omega) ?_ | refine appo_step hB (appo_ok (rows := d.bs.map Box.c) (fun h => hb0 (by simpa using congrArg List.length h)) box_len (by omega) (by rw [List.length_map]; omega)) ?_ | refine Qo hB (box_row_room hil) ?_ | refine Qo hB (box_lt hil) ?_ | refine Qk hB (box_row (b := { b with low := hiI 0 (b.low - by_), high := loI 50000 (b.high + by_) }) hil) ?_ | refine osh_step hB (hand_os_ok (rows := (d.bs.set i { b with low := hiI 0 (b.low - by_), high := loI 50000 (b.high + by_) }).map Box.c) (by simp) rfl (by omega) box_pur) ?_ | refine Qx hB hII ?_ | refine a11_L1_two hB (whichFrom d zi 0) _ (by omega) (clampTok_pur (wtok_pur _)) (wtok_pur _) HPl _ _ _ _ _ (purTok_clamp (wtok_pur _)) (by omega) hsub (fun e => ?_) | refine Q0 hB rfl ?_ | refine Q1 hB (by decide) ?_ | refine Q2 hB (by decide) ?_ | refine Q3 hB (by decide) ?_ | refine Q4 hB (by decide) ?_ | refine Q5 hB (by decide) ?_ | refine Q6 hB (by decide) ?_ | refine Q7 hB (by omega) (by omega) ?_ | refine Q8 hB ?_ | refine Q9 hB ?_ | refine Qa hB ?_ | refine Qb hB (fun _ => ?_) (fun _ => ?_) | refine Qc hB ?_ | refine Qd hB ?_ | refine Qe hB ?_ | refine Qf hB ?_ | refine Qg hB ?_ | refine Qh hB ?_ | refine Qi hB ?_ | refine Qj hB rfl ?_ | refine Qk hB rfl ?_ | refine Ql hB (by first | omega | decide) ?_ | refine Qm hB rfl ?_ | refine Qn hB ?_ | refine Qo hB rfl ?_ | refine Qo hB (Qp rfl) ?_ | refine Qq hB rfl ?_ | refine Qr hB ?_ | refine Qs hB ?_ | refine Qt hB ?_ | refine Qu hB ?_ | refine Qv hB rfl ?_) <;> conv => lhs; whnf)
    all_goals rfl
  · have he : trueB d = false := by simpa using he
    have a1 : askE d true = 92 := by simp [askE, hck, he]
    have hL1 : whichL d zi = [] := by rw [whichL, e1, a1]; rfl
    rw [a1] at HWd HVd
    rw [hL1] at HWd
    cases he2 : trueB X
    · have a2 : askE X true = 92 := by simp [askE, hXc, he2]
      rw [a2] at HWX HVX
      subst hX
      clear H39 H22 H22o H29 H15 HIn e1 e2 a1 a2 hL1 he he2 hwd hwx
      conv => lhs; whnf
      repeat' ((first | refine Qw hB ?_ | refine Qv hB hd.tp ?_ | refine Qv hB hd.tb ?_ | refine Qv hB (wtok_pur _) ?_ | refine Q0 hB (by simp [purs, pur, hd.tp, hd.tb, show purTok .any = true from rfl]) ?_ | refine Qx hB H35 ?_ | refine Qx hB H21 ?_ | refine Qx hB HS2 ?_ | refine Qx hB HS1 ?_ | refine Qx hB HS0 ?_ | refine Qx hB HCX ?_ | refine Qx hB HWd ?_ | refine (HWX (by simp [moreX]) rfl rfl _).trans ?_ | refine Qx hB HVd ?_ | refine Qx hB HVX ?_ | refine Qx hB (HTo _ _) ?_ | refine Q5 hB (by decide) ?_ | refine Q6 hB (by decide) ?_ | refine Q6 hB (by simp only [Int.ofNat_eq_natCast]; omega) ?_ | refine Q5 hB (by simp only [Int.ofNat_eq_natCast]; omega) ?_ | refine Q1 hB (by simp only [Int.ofNat_eq_natCast]; omega) ?_ | refine Q2 hB (by simp only [Int.ofNat_eq_natCast]; omega) ?_ | refine Qq hB (iarr_ok (k := 2) rfl rfl rfl (by decide)) ?_ | refine Qq hB (iarr_ok (k := 1) rfl rfl rfl (by decide)) ?_ | refine Qq hB (iarr_ok (k := 0) rfl rfl rfl (by decide)) ?_ | refine Qq hB (mx_ok rfl rfl) ?_ | refine Qq hB (mn_ok rfl rfl) ?_ | refine QC hB hzi ?_ | refine QB hB hxb ?_ | refine add_step hB (by omega) (by omega) ?_ | refine sub_step hB (by omega) (by omega) ?_ | refine appo_step hB (appo_ok (rows := d.bs.map Box.c) (fun h => hb0 (by simpa using congrArg List.length h)) box_len (by omega) (by rw [List.length_map]; omega)) ?_ | refine Qo hB (box_row_room hil) ?_ | refine Qo hB (box_lt hil) ?_ | refine Qk hB (box_row (b := { b with low := hiI 0 (b.low - by_), high := loI 50000 (b.high + by_) }) hil) ?_ | refine osh_step hB (hand_os_ok (rows := (d.bs.set i { b with low := hiI 0 (b.low - by_), high := loI 50000 (b.high + by_) }).map Box.c) (by simp) rfl (by omega) box_pur) ?_ | refine Q0 hB rfl ?_ | refine Q1 hB (by decide) ?_ | refine Q2 hB (by decide) ?_ | refine Q3 hB (by decide) ?_ | refine Q4 hB (by decide) ?_ | refine Q5 hB (by decide) ?_ | refine Q6 hB (by decide) ?_ | refine Q7 hB (by omega) (by omega) ?_ | refine Q8 hB ?_ | refine Q9 hB ?_ | refine Qa hB ?_ | refine Qb hB (fun _ => ?_) (fun _ => ?_) | refine Qc hB ?_ | refine Qd hB ?_ | refine Qe hB ?_ | refine Qf hB ?_ | refine Qg hB ?_ | refine Qh hB ?_ | refine Qi hB ?_ | refine Qj hB rfl ?_ | refine Qk hB rfl ?_ | refine Ql hB (by first | omega | decide) ?_ | refine Qm hB rfl ?_ | refine Qn hB ?_ | refine Qo hB rfl ?_ | refine Qo hB (Qp rfl) ?_ | refine Qq hB rfl ?_ | refine Qr hB ?_ | refine Qs hB ?_ | refine Qt hB ?_ | refine Qu hB ?_ | refine Qv hB rfl ?_) <;> conv => lhs; whnf)
      all_goals rfl
    · have a2 : askE X true = 0 := by simp [askE, hXc, he2]
      rw [a2] at HWX HVX
      subst hX
      clear H39 H22 H22o H29 H15 HIn e1 e2 a1 a2 hL1 he he2 hwd hwx
      conv => lhs; whnf
      repeat' ((first | refine Qw hB ?_ | refine Qv hB hd.tp ?_ | refine Qv hB hd.tb ?_ | refine Qv hB (wtok_pur _) ?_ | refine Q0 hB (by simp [purs, pur, hd.tp, hd.tb, show purTok .any = true from rfl]) ?_ | refine Qx hB H35 ?_ | refine Qx hB H21 ?_ | refine Qx hB HS2 ?_ | refine Qx hB HS1 ?_ | refine Qx hB HS0 ?_ | refine Qx hB HCX ?_ | refine Qx hB HWd ?_ | refine (HWX (by simp [moreX]) rfl rfl _).trans ?_ | refine Qx hB HVd ?_ | refine Qx hB HVX ?_ | refine Qx hB (HTo _ _) ?_ | refine Q5 hB (by decide) ?_ | refine Q6 hB (by decide) ?_ | refine Q6 hB (by simp only [Int.ofNat_eq_natCast]; omega) ?_ | refine Q5 hB (by simp only [Int.ofNat_eq_natCast]; omega) ?_ | refine Q1 hB (by simp only [Int.ofNat_eq_natCast]; omega) ?_ | refine Q2 hB (by simp only [Int.ofNat_eq_natCast]; omega) ?_ | refine Qq hB (iarr_ok (k := 2) rfl rfl rfl (by decide)) ?_ | refine Qq hB (iarr_ok (k := 1) rfl rfl rfl (by decide)) ?_ | refine Qq hB (iarr_ok (k := 0) rfl rfl rfl (by decide)) ?_ | refine Qq hB (mx_ok rfl rfl) ?_ | refine Qq hB (mn_ok rfl rfl) ?_ | refine QC hB hzi ?_ | refine QB hB hxb ?_ | refine add_step hB (by omega) (by omega) ?_ | refine sub_step hB (by omega) (by omega) ?_ | refine appo_step hB (appo_ok (rows := d.bs.map Box.c) (fun h => hb0 (by simpa using congrArg List.length h)) box_len (by omega) (by rw [List.length_map]; omega)) ?_ | refine Qo hB (box_row_room hil) ?_ | refine Qo hB (box_lt hil) ?_ | refine Qk hB (box_row (b := { b with low := hiI 0 (b.low - by_), high := loI 50000 (b.high + by_) }) hil) ?_ | refine osh_step hB (hand_os_ok (rows := (d.bs.set i { b with low := hiI 0 (b.low - by_), high := loI 50000 (b.high + by_) }).map Box.c) (by simp) rfl (by omega) box_pur) ?_ | refine Q0 hB rfl ?_ | refine Q1 hB (by decide) ?_ | refine Q2 hB (by decide) ?_ | refine Q3 hB (by decide) ?_ | refine Q4 hB (by decide) ?_ | refine Q5 hB (by decide) ?_ | refine Q6 hB (by decide) ?_ | refine Q7 hB (by omega) (by omega) ?_ | refine Q8 hB ?_ | refine Q9 hB ?_ | refine Qa hB ?_ | refine Qb hB (fun _ => ?_) (fun _ => ?_) | refine Qc hB ?_ | refine Qd hB ?_ | refine Qe hB ?_ | refine Qf hB ?_ | refine Qg hB ?_ | refine Qh hB ?_ | refine Qi hB ?_ | refine Qj hB rfl ?_ | refine Qk hB rfl ?_ | refine Ql hB (by first | omega | decide) ?_ | refine Qm hB rfl ?_ | refine Qn hB ?_ | refine Qo hB rfl ?_ | refine Qo hB (Qp rfl) ?_ | refine Qq hB rfl ?_ | refine Qr hB ?_ | refine Qs hB ?_ | refine Qt hB ?_ | refine Qu hB ?_ | refine Qv hB rfl ?_) <;> conv => lhs; whnf)
      all_goals rfl
end Go.Ab.Cl
