/-
  The claims: ClaimFalse, on the abstract machine.
-/
import Derived.Test.YthbekoofiienjaaDoorClKe
import Derived.Test.YthbekoofiienjaaDoorWk
namespace Go.Ab.Cl
open Go.Ab

theorem eqb_ok {b : Bool} : (eqK (.s .bool) (.bool b) (.bool b)).map (fun t => AV.bool (if true = true then !t else t)) = some (.bool false) := by simp [eqK, eqS]
theorem false_bad (d : Desk) (hd : d.ok) (zs : Int) (hc : d.check = false) : (evKR Bk Gx fsT 2000000000000000).1 0 10 [d.v, .int .i64 zs] [] ansK = some (.bool true, []) := by
  refine call_open (show fsT.find 10 = some a10 from rfl) (by omega) fun n B cl rd hn' hB hcl hrd => ?_
  have hn : n = 1999999999999999 := by omega
  have H21 : cl 0 21 [] [] ansK = some (.bool true, []) := by rw [hcl, hn]; exact works_ev
  have H33 := Wrong_ev (n := n) (by omega) d hd
  have H31 := Fewest_ev (n := n) (by omega) d hd
  have H35 := sound_ev (G := Gx) (n := n) d hd (by omega)
  have hW : wrongL d = [] := if_neg (by rw [hc]; decide)
  have hE : wrongE d = 90 := if_neg (by rw [hc]; decide)
  have hF : fewR d = (0, 90) := if_neg (by rw [hc]; decide)
  rw [hW, hE] at H33
  rw [hF] at H31
  rw [hc] at H35
  rw [← hcl] at H33 H31 H35
  conv => lhs; whnf
  repeat' ((first | refine fnat_pred hB ?_ | refine tok_step hB hd.tp ?_ | refine tok_step hB hd.tb ?_ | refine tok_step hB (ftok_pur _) ?_ | refine purs_step hB (by simp [purs, pur, hd.tp, hd.tb]) ?_ | refine pans_step hB H33 ?_ | refine pans_step hB H31 ?_ | refine pans_step hB H35 ?_ | refine pans_step hB H21 ?_ | refine len_map hB ?_ | refine purs_step hB rfl ?_ | refine lt_tt hB (by decide) ?_ | refine lt_ff hB (by decide) ?_ | refine le_tt hB (by decide) ?_ | refine le_ff hB (by decide) ?_ | refine eq_tt hB (by decide) ?_ | refine eq_ff hB (by decide) ?_ | refine fint_wrp hB (by omega) (by omega) ?_ | refine fint_step hB ?_ | refine fbool_tt hB ?_ | refine fbool_ff hB ?_ | refine fbool_split hB (fun _ => ?_) (fun _ => ?_) | refine ftok_step hB ?_ | refine frows_step hB ?_ | refine fstr_step hB ?_ | refine len_map hB ?_ | refine len_step hB ?_ | refine lens_step hB ?_ | refine byte_step hB ?_ | refine drop_step hB rfl ?_ | refine fl_step hB rfl ?_ | refine add_one hB (by first | omega | decide) ?_ | refine opt_step hB rfl ?_ | refine fnat_step hB ?_ | refine ifk_step hB rfl ?_ | refine ifk_step hB (flat_or rfl) ?_ | refine opt2_step hB rfl ?_ | refine obj_raw hB ?_ | refine sob_raw hB ?_ | refine fst_raw hB ?_ | refine optl_raw hB ?_ | refine tok_step hB rfl ?_) <;> conv => lhs; whnf)
  all_goals rfl

set_option maxHeartbeats 40000000 in
theorem law_false (d : Desk) (hd : d.ok) (zs : Int) : (evKR Bk Gx fsT 2000000000000000).1 0 10 [d.v, .int .i64 zs] [] ansK = some (.bool true, []) := by
  by_cases hc : d.check = true
  case neg => exact false_bad d hd zs (by simpa using hc)
  refine call_open (show fsT.find 10 = some a10 from rfl) (by omega) fun n B cl rd hn' hB hcl hrd => ?_
  have hn : n = 1999999999999999 := by omega
  have hnb := (check_fine hc).nb
  have hst := check_strange hc
  have H21 : cl 0 21 [] [] ansK = some (.bool true, []) := by rw [hcl, hn]; exact works_ev
  have H33 := Wrong_ev (n := n) (by omega) d hd
  have H31 := Fewest_ev (n := n) (by omega) d hd
  have H35 := sound_ev (G := Gx) (n := n) d hd (by omega)
  rw [hc] at H35
  have H19 := Truth_ev (n := n) (by omega) d hd
  have hLw : wrongL d = (wrongV d).getD [] := if_pos hc
  have hEw : wrongE d = if (wrongV d).isSome = true then 0 else 4 := if_pos hc
  have hwl : (wrongL d).length ≤ 100 := by
    rcases wrong_least d with ⟨h, _⟩ | ⟨l, h, h1, _⟩
    · rw [hLw, h]; simp
    · rw [hLw, h]
      have := h1.1.len (by omega)
      show l.length ≤ 100
      omega
  have hwa : Asc d 0 (wrongL d) := by
    rcases wrong_least d with ⟨h, _⟩ | ⟨l, h, h1, _⟩
    · rw [hLw, h]; trivial
    · rw [hLw, h]; exact h1.1
  have hwm : ∀ x ∈ wrongL d, x < d.bs.length ∧ stampB d x = true := fun x hx => (hwa.mem x hx).2
  have H37 := Climbs_ev (n := n) (by omega) (nats (wrongL d)) (by simp [nats]; omega) (d.bs.length : Int) (ftok_pur (wtk (wrongL d)))
  rw [asc_climbs hwa (by omega)] at H37
  have H45 := fun z => strange2_ev (n := n) (by omega) d hd z
  have H19s := fun z => Truth_ev (n := n) (by omega) (dS d z) (dS_ok hd z)
  have hsp := spin_in (n := zs) (many := 64) (by omega)
  obtain ⟨t, ht⟩ : ∃ t : Nat, spin zs 64 = (t : Int) := ⟨(spin zs 64).toNat, by omega⟩
  have H42 := Spin_ev (G := Gx) (n := n) (by omega) zs 64 (by omega)
  rw [ht] at H42 hsp
  have H40 : ∀ k : Nat, k < 9 → (evKR Bk Gx fsT n).1 0 40 [.int .i64 (t : Int), .int .i64 (k : Int)] [] ansK = some (.bool (t.testBit k), []) := fun k hk => In_ev (n := n) (by omega) t k (by omega) hk rfl rfl
  obtain ⟨oth, hoth⟩ : ∃ oth, oth = sel d (fun i => t.testBit i && stampB d i) 0 := ⟨_, rfl⟩
  have hoa : Asc d 0 oth := by rw [hoth]; exact sel_asc fun k _ h => by rw [Bool.and_eq_true] at h; exact h.2
  have hol : oth.length ≤ 100 := by rw [hoth]; exact sel_len hnb _ _
  obtain ⟨tbo, htbo, H47o⟩ := unstamped_ev (n := n) (by omega) d hd hnb oth (by omega) (fun x hx => (hoa.mem x hx).2.1) (er_pur2 (tk 0 173 (nats oth)))
  obtain ⟨tbw, htbw, H47w⟩ := unstamped_ev (n := n) (by omega) d hd hnb (wrongL d) (by omega) (fun x hx => (hwm x hx).1) (ftok_pur (wtk (wrongL d)))
  have H19o := Truth_ev (n := n) (by omega) (unS d (inL oth) tbo) (unS_ok hd htbo)
  have H19w := Truth_ev (n := n) (by omega) (unS d (inL (wrongL d)) tbw) (unS_ok hd htbw)
  have hto := tW_tok hc (inL oth) tbo
  have htw := tW_tok hc (inL (wrongL d)) tbw
  have hco : (unS d (inL oth) tbo).check = true := by rw [unS_check]; exact hc
  have hcw : (unS d (inL (wrongL d)) tbw).check = true := by rw [unS_check]; exact hc
  have H48 := fun {t t' : Tok} (h : purTok t = true) (h' : purTok t' = true) => Ahead_ev (n := n) (by omega) (nats oth) (nats (wrongL d)) (by simp [nats]; omega) (by simp [nats]; omega) h h'
  rw [ahead_nats] at H48
  have hno : (nats oth).length = oth.length := by simp [nats]
  have hnw : (nats (wrongL d)).length = (wrongL d).length := by simp [nats]
  rw [← hcl] at H33 H31 H35 H19 H37 H45 H19s H42 H40 H47o H47w H19o H19w H48
  have HL1 : ∀ {e5 : AV} (_ : e5 = .sl (rowsI (nats (wrongL d))) (ftok (wtk (wrongL d)))) (k : Ex → Env → St → Ans) (r : Ans), (∀ x, k (.exit 0) [(1, .int .i64 zs), (2, .ptr 0 0 0), (5, .sl (rowsI (nats (wrongL d))) (ftok (wtk (wrongL d)))), (6, .int .i64 (wrongE d)), (15, .sl (rowsI (nats oth)) (tk 0 173 (nats oth))), (16, .int .i64 x)] [⟨[.cells d.c], tks 173 (nats oth)⟩] = r) →
      B.loop (evCK B a10_L1) [1, 2, 5, 6, 15, 16] n n cl rd Gx 0 1 [(1, .int .i64 zs), (2, .ptr 0 0 0), (5, e5), (6, .int .i64 (wrongE d)), (15, .sl [] .nil), (16, .int .i64 0)] [⟨[.cells d.c], []⟩] k = r := by
    intro e5 h5 k r K
    subst h5
    refine a10_L1_step hB (rd := rd) d hd hnb t _ _ ⟨_, _, ftok_pur _, rfl⟩ ⟨_, rfl⟩ H42 H40 n k r n 0 [] (by omega) (by omega) (by simp) fun x => ?_
    rw [List.nil_append, ← hoth]
    exact K x
  have HL2 : ∀ {e5 e15 : AV} (_ : e5 = .sl (rowsI (nats (wrongL d))) (ftok (wtk (wrongL d)))) (_ : e15 = .sl (rowsI (nats oth)) (tk 0 173 (nats oth))) {z : Int} {T : List (Nat × Nat × Nat)} (k : Ex → Env → St → Ans) (r : Ans), (∀ x, k (.exit 2) [(2, .ptr 0 0 0), (5, .sl (rowsI (nats (wrongL d))) (ftok (wtk (wrongL d)))), (15, .sl (rowsI (nats oth)) (tk 0 173 (nats oth))), (18, .int .i64 z), (19, .int .i64 x)] [⟨[.cells d.c], T⟩] = r) →
      B.loop (evCK B a10_L2) [2, 4, 5, 15, 18, 19] n n cl rd Gx 0 1 [(2, .ptr 0 0 0), (5, e5), (15, e15), (18, .int .i64 z), (19, .int .i64 0)] [⟨[.cells d.c], T⟩] k = r := by
    intro e5 e15 h5 h15 z T k r K
    subst h5 h15
    exact a10_L2_step hB (rd := rd) d hd (wrongL d) hwm hwl (ftok_pur _) (nats oth) z T n k r n 0 (by omega) (by omega) K

  cases htd : trueB d
  · rw [ask_f hc htd] at H19
    cases hw : wrongV d with
    | none =>
      have hE : wrongE d = 4 := by rw [hEw, hw]; rfl
      have hL : wrongL d = [] := by rw [hLw, hw]; rfl
      rw [hE] at H33 HL1
      have hlz : (nats (wrongL d)).length = 0 := by rw [hL]; rfl
      rcases few_spec hc with ⟨n0, hn6, hf, hf1, hf2⟩ | ⟨hf, hf2⟩
      · simp only [hf] at H31
        have H38 := Tween_ev (G := Gx) (n := n) (by omega) (n0 : Int) 0 6
        rw [show within (n0 : Int) 0 6 = true by simp [within]; omega, ← hcl] at H38
        have hiff := few_true hc hn6 hf1 hf2
        have Ha := H19s (n0 : Int)
        rw [ask_t (dS_check hc (by omega) (by omega)) hf1] at Ha
        have hle : ¬ (n0 : Int) ≤ d.strange := fun h => by rw [hiff.2 h] at htd; cases htd
        have hz' : 0 < n0 := by omega
        have Hb := H19s ((n0 : Int) - 1)
        rw [ask_f (dS_check hc (by omega) (by omega)) (by have := hf2 (n0 - 1) (by omega); rwa [show ((n0 - 1 : Nat) : Int) = (n0 : Int) - 1 by omega] at this)] at Hb
        have htf : tW d (inL oth) = false := by
          cases h : tW d (inL oth)
          · rfl
          · exact absurd ⟨hoa, h⟩ (wrong_no hw oth)
        rw [ask_f hco (by rw [hto, htf])] at H19o
        conv => lhs; whnf
        repeat' ((first | refine fnat_pred hB ?_ | refine tok_step hB hd.tp ?_ | refine tok_step hB hd.tb ?_ | refine tok_step hB (ftok_pur _) ?_ | refine tok_step hB (ttok_pur _) ?_ | refine tok_step hB htbo ?_ | refine tok_step hB htbw ?_ | refine purs_step hB (by simp [purs, pur, hd.tp, hd.tb, htbo, htbw, ftok_pur, er_pur2, ttok_pur, dS, unS]) ?_ | refine pans_step hB H33 ?_ | refine pans_step hB H31 ?_ | refine pans_step hB H35 ?_ | refine pans_step hB H19 ?_ | refine pans_step hB H37 ?_ | refine pans_step hB H21 ?_ | refine pans_step hB H38 ?_ | refine pans_step hB (H45 _) ?_ | refine pans_step hB Ha ?_ | refine pans_step hB Hb ?_ | refine pans_step hB H47o ?_ | refine pans_step hB H19o ?_ | refine pans_step hB H47w ?_ | refine pans_step hB H19w ?_ | refine opt_step hB eqb_ok ?_ | refine HL1 (congrArg (AV.sl _) (clampTok_pur (ftok_pur _))) _ _ (fun x => ?_) | refine HL2 (congrArg (AV.sl _) (clampTok_pur (ftok_pur _))) (congrArg (AV.sl _) (clamp_tk (Nat.zero_le _) _)) _ _ (fun x => ?_) | refine tokE_step hB ?_ | refine eq_tt hB (by rw [hlz]; rfl) ?_ | refine len_map hB ?_ | refine sub_step hB (by omega) (by omega) ?_ | refine le_ff hB hle ?_ | refine lt_tt hB (show (0 : Int) < (n0 : Int) by omega) ?_ | refine purs_step hB rfl ?_ | refine lt_tt hB (by decide) ?_ | refine lt_ff hB (by decide) ?_ | refine le_tt hB (by decide) ?_ | refine le_ff hB (by decide) ?_ | refine eq_tt hB (by decide) ?_ | refine eq_ff hB (by decide) ?_ | refine fint_wrp hB (by omega) (by omega) ?_ | refine fint_step hB ?_ | refine fbool_tt hB ?_ | refine fbool_ff hB ?_ | refine fbool_split hB (fun _ => ?_) (fun _ => ?_) | refine ftok_step hB ?_ | refine frows_step hB ?_ | refine fstr_step hB ?_ | refine len_map hB ?_ | refine len_step hB ?_ | refine lens_step hB ?_ | refine byte_step hB ?_ | refine drop_step hB rfl ?_ | refine fl_step hB rfl ?_ | refine add_one hB (by first | omega | decide) ?_ | refine opt_step hB rfl ?_ | refine fnat_step hB ?_ | refine ifk_step hB rfl ?_ | refine ifk_step hB (flat_or rfl) ?_ | refine opt2_step hB rfl ?_ | refine obj_raw hB ?_ | refine sob_raw hB ?_ | refine fst_raw hB ?_ | refine optl_raw hB ?_ | refine tok_step hB rfl ?_) <;> conv => lhs; whnf)
        all_goals rfl
      · simp only [hf] at H31
        have H38 := trivial
        have Ha := H19s 6
        rw [ask_f (dS_check hc (by omega) (by omega)) (show trueB (dS d 6) = false from hf2 6 (by omega))] at Ha
        have htf : tW d (inL oth) = false := by
          cases h : tW d (inL oth)
          · rfl
          · exact absurd ⟨hoa, h⟩ (wrong_no hw oth)
        rw [ask_f hco (by rw [hto, htf])] at H19o
        conv => lhs; whnf
        repeat' ((first | refine fnat_pred hB ?_ | refine tok_step hB hd.tp ?_ | refine tok_step hB hd.tb ?_ | refine tok_step hB (ftok_pur _) ?_ | refine tok_step hB (ttok_pur _) ?_ | refine tok_step hB htbo ?_ | refine tok_step hB htbw ?_ | refine purs_step hB (by simp [purs, pur, hd.tp, hd.tb, htbo, htbw, ftok_pur, er_pur2, ttok_pur, dS, unS]) ?_ | refine pans_step hB H33 ?_ | refine pans_step hB H31 ?_ | refine pans_step hB H35 ?_ | refine pans_step hB H19 ?_ | refine pans_step hB H37 ?_ | refine pans_step hB H21 ?_ | refine pans_step hB H38 ?_ | refine pans_step hB (H45 _) ?_ | refine pans_step hB Ha ?_ | refine pans_step hB H47o ?_ | refine pans_step hB H19o ?_ | refine pans_step hB H47w ?_ | refine pans_step hB H19w ?_ | refine opt_step hB eqb_ok ?_ | refine HL1 (congrArg (AV.sl _) (clampTok_pur (ftok_pur _))) _ _ (fun x => ?_) | refine HL2 (congrArg (AV.sl _) (clampTok_pur (ftok_pur _))) (congrArg (AV.sl _) (clamp_tk (Nat.zero_le _) _)) _ _ (fun x => ?_) | refine tokE_step hB ?_ | refine eq_tt hB (by rw [hlz]; rfl) ?_ | refine len_map hB ?_ | refine sub_step hB (by omega) (by omega) ?_ | refine purs_step hB rfl ?_ | refine lt_tt hB (by decide) ?_ | refine lt_ff hB (by decide) ?_ | refine le_tt hB (by decide) ?_ | refine le_ff hB (by decide) ?_ | refine eq_tt hB (by decide) ?_ | refine eq_ff hB (by decide) ?_ | refine fint_wrp hB (by omega) (by omega) ?_ | refine fint_step hB ?_ | refine fbool_tt hB ?_ | refine fbool_ff hB ?_ | refine fbool_split hB (fun _ => ?_) (fun _ => ?_) | refine ftok_step hB ?_ | refine frows_step hB ?_ | refine fstr_step hB ?_ | refine len_map hB ?_ | refine len_step hB ?_ | refine lens_step hB ?_ | refine byte_step hB ?_ | refine drop_step hB rfl ?_ | refine fl_step hB rfl ?_ | refine add_one hB (by first | omega | decide) ?_ | refine opt_step hB rfl ?_ | refine fnat_step hB ?_ | refine ifk_step hB rfl ?_ | refine ifk_step hB (flat_or rfl) ?_ | refine opt2_step hB rfl ?_ | refine obj_raw hB ?_ | refine sob_raw hB ?_ | refine fst_raw hB ?_ | refine optl_raw hB ?_ | refine tok_step hB rfl ?_) <;> conv => lhs; whnf)
        all_goals rfl
    | some l =>
      have hE : wrongE d = 0 := by rw [hEw, hw]; rfl
      have hL : wrongL d = l := by rw [hLw, hw]; rfl
      rw [hE] at H33 HL1
      obtain ⟨⟨_, hcand⟩, hleast⟩ := wrong_cand hw
      rw [← hL] at hcand hleast
      have hlz : ¬ (nats (wrongL d)).length = 0 := by
        rw [hL]; intro h
        refine wrong_f hc htd ?_
        rw [hw]; congr 1
        cases l with
        | nil => rfl
        | cons a l => simp [nats] at h
      rcases few_spec hc with ⟨n0, hn6, hf, hf1, hf2⟩ | ⟨hf, hf2⟩
      · simp only [hf] at H31
        have H38 := Tween_ev (G := Gx) (n := n) (by omega) (n0 : Int) 0 6
        rw [show within (n0 : Int) 0 6 = true by simp [within]; omega, ← hcl] at H38
        have hiff := few_true hc hn6 hf1 hf2
        have Ha := H19s (n0 : Int)
        rw [ask_t (dS_check hc (by omega) (by omega)) hf1] at Ha
        have hle : ¬ (n0 : Int) ≤ d.strange := fun h => by rw [hiff.2 h] at htd; cases htd
        have hz' : 0 < n0 := by omega
        have Hb := H19s ((n0 : Int) - 1)
        rw [ask_f (dS_check hc (by omega) (by omega)) (by have := hf2 (n0 - 1) (by omega); rwa [show ((n0 - 1 : Nat) : Int) = (n0 : Int) - 1 by omega] at this)] at Hb
        rw [ask_t hcw (by rw [htw]; exact hcand)] at H19w
        cases htf : tW d (inL oth)
        · rw [ask_f hco (by rw [hto, htf])] at H19o
          conv => lhs; whnf
          repeat' ((first | refine fnat_pred hB ?_ | refine tok_step hB hd.tp ?_ | refine tok_step hB hd.tb ?_ | refine tok_step hB (ftok_pur _) ?_ | refine tok_step hB (ttok_pur _) ?_ | refine tok_step hB htbo ?_ | refine tok_step hB htbw ?_ | refine purs_step hB (by simp [purs, pur, hd.tp, hd.tb, htbo, htbw, ftok_pur, er_pur2, ttok_pur, dS, unS]) ?_ | refine pans_step hB H33 ?_ | refine pans_step hB H31 ?_ | refine pans_step hB H35 ?_ | refine pans_step hB H19 ?_ | refine pans_step hB H37 ?_ | refine pans_step hB H21 ?_ | refine pans_step hB H38 ?_ | refine pans_step hB (H45 _) ?_ | refine pans_step hB Ha ?_ | refine pans_step hB Hb ?_ | refine pans_step hB H47o ?_ | refine pans_step hB H19o ?_ | refine pans_step hB H47w ?_ | refine pans_step hB H19w ?_ | refine opt_step hB eqb_ok ?_ | refine HL1 (congrArg (AV.sl _) (clampTok_pur (ftok_pur _))) _ _ (fun x => ?_) | refine HL2 (congrArg (AV.sl _) (clampTok_pur (ftok_pur _))) (congrArg (AV.sl _) (clamp_tk (Nat.zero_le _) _)) _ _ (fun x => ?_) | refine tokE_step hB ?_ | refine eq_ff hB (by simp only [Int.ofNat_eq_natCast]; omega) ?_ | refine len_map hB ?_ | refine sub_step hB (by omega) (by omega) ?_ | refine le_ff hB hle ?_ | refine lt_tt hB (show (0 : Int) < (n0 : Int) by omega) ?_ | refine purs_step hB rfl ?_ | refine lt_tt hB (by decide) ?_ | refine lt_ff hB (by decide) ?_ | refine le_tt hB (by decide) ?_ | refine le_ff hB (by decide) ?_ | refine eq_tt hB (by decide) ?_ | refine eq_ff hB (by decide) ?_ | refine fint_wrp hB (by omega) (by omega) ?_ | refine fint_step hB ?_ | refine fbool_tt hB ?_ | refine fbool_ff hB ?_ | refine fbool_split hB (fun _ => ?_) (fun _ => ?_) | refine ftok_step hB ?_ | refine frows_step hB ?_ | refine fstr_step hB ?_ | refine len_map hB ?_ | refine len_step hB ?_ | refine lens_step hB ?_ | refine byte_step hB ?_ | refine drop_step hB rfl ?_ | refine fl_step hB rfl ?_ | refine add_one hB (by first | omega | decide) ?_ | refine opt_step hB rfl ?_ | refine fnat_step hB ?_ | refine ifk_step hB rfl ?_ | refine ifk_step hB (flat_or rfl) ?_ | refine opt2_step hB rfl ?_ | refine obj_raw hB ?_ | refine sob_raw hB ?_ | refine fst_raw hB ?_ | refine optl_raw hB ?_ | refine tok_step hB rfl ?_) <;> conv => lhs; whnf)
          all_goals rfl
        · rw [ask_t hco (by rw [hto, htf])] at H19o
          have hcmp := hleast oth ⟨hoa, htf⟩
          by_cases hlen : (wrongL d).length < oth.length
          · conv => lhs; whnf
            repeat' ((first | refine fnat_pred hB ?_ | refine tok_step hB hd.tp ?_ | refine tok_step hB hd.tb ?_ | refine tok_step hB (ftok_pur _) ?_ | refine tok_step hB (ttok_pur _) ?_ | refine tok_step hB htbo ?_ | refine tok_step hB htbw ?_ | refine purs_step hB (by simp [purs, pur, hd.tp, hd.tb, htbo, htbw, ftok_pur, er_pur2, ttok_pur, dS, unS]) ?_ | refine pans_step hB H33 ?_ | refine pans_step hB H31 ?_ | refine pans_step hB H35 ?_ | refine pans_step hB H19 ?_ | refine pans_step hB H37 ?_ | refine pans_step hB H21 ?_ | refine pans_step hB H38 ?_ | refine pans_step hB (H45 _) ?_ | refine pans_step hB Ha ?_ | refine pans_step hB Hb ?_ | refine pans_step hB H47o ?_ | refine pans_step hB H19o ?_ | refine pans_step hB H47w ?_ | refine pans_step hB H19w ?_ | refine opt_step hB eqb_ok ?_ | refine HL1 (congrArg (AV.sl _) (clampTok_pur (ftok_pur _))) _ _ (fun x => ?_) | refine HL2 (congrArg (AV.sl _) (clampTok_pur (ftok_pur _))) (congrArg (AV.sl _) (clamp_tk (Nat.zero_le _) _)) _ _ (fun x => ?_) | refine tokE_step hB ?_ | refine eq_ff hB (by simp only [Int.ofNat_eq_natCast]; omega) ?_ | refine len_map hB ?_ | refine sub_step hB (by omega) (by omega) ?_ | refine le_ff hB hle ?_ | refine lt_tt hB (show (0 : Int) < (n0 : Int) by omega) ?_ | refine lt_tt hB (by rw [hno, hnw]; exact Int.ofNat_lt.2 hlen) ?_ | refine purs_step hB rfl ?_ | refine lt_tt hB (by decide) ?_ | refine lt_ff hB (by decide) ?_ | refine le_tt hB (by decide) ?_ | refine le_ff hB (by decide) ?_ | refine eq_tt hB (by decide) ?_ | refine eq_ff hB (by decide) ?_ | refine fint_wrp hB (by omega) (by omega) ?_ | refine fint_step hB ?_ | refine fbool_tt hB ?_ | refine fbool_ff hB ?_ | refine fbool_split hB (fun _ => ?_) (fun _ => ?_) | refine ftok_step hB ?_ | refine frows_step hB ?_ | refine fstr_step hB ?_ | refine len_map hB ?_ | refine len_step hB ?_ | refine lens_step hB ?_ | refine byte_step hB ?_ | refine drop_step hB rfl ?_ | refine fl_step hB rfl ?_ | refine add_one hB (by first | omega | decide) ?_ | refine opt_step hB rfl ?_ | refine fnat_step hB ?_ | refine ifk_step hB rfl ?_ | refine ifk_step hB (flat_or rfl) ?_ | refine opt2_step hB rfl ?_ | refine obj_raw hB ?_ | refine sob_raw hB ?_ | refine fst_raw hB ?_ | refine optl_raw hB ?_ | refine tok_step hB rfl ?_) <;> conv => lhs; whnf)
            all_goals rfl
          · have hleq : oth.length = (wrongL d).length ∧ aheadN oth (wrongL d) = false := by
              rcases hcmp with h | h
              · rw [h]; exact ⟨rfl, ahead_irr _⟩
              · rw [less_iff] at h
                rcases h with h | ⟨h, h'⟩
                · exact absurd h hlen
                · exact ⟨h.symm, ahead_asym h'⟩
            rw [hleq.2] at H48
            conv => lhs; whnf
            repeat' ((first | refine fnat_pred hB ?_ | refine tok_step hB hd.tp ?_ | refine tok_step hB hd.tb ?_ | refine tok_step hB (ftok_pur _) ?_ | refine tok_step hB (ttok_pur _) ?_ | refine tok_step hB htbo ?_ | refine tok_step hB htbw ?_ | refine purs_step hB (by simp [purs, pur, hd.tp, hd.tb, htbo, htbw, ftok_pur, er_pur2, ttok_pur, dS, unS]) ?_ | refine pans_step hB H33 ?_ | refine pans_step hB H31 ?_ | refine pans_step hB H35 ?_ | refine pans_step hB H19 ?_ | refine pans_step hB H37 ?_ | refine pans_step hB H21 ?_ | refine pans_step hB H38 ?_ | refine pans_step hB (H45 _) ?_ | refine pans_step hB Ha ?_ | refine pans_step hB Hb ?_ | refine pans_step hB H47o ?_ | refine pans_step hB H19o ?_ | refine pans_step hB H47w ?_ | refine pans_step hB H19w ?_ | refine opt_step hB eqb_ok ?_ | refine HL1 (congrArg (AV.sl _) (clampTok_pur (ftok_pur _))) _ _ (fun x => ?_) | refine HL2 (congrArg (AV.sl _) (clampTok_pur (ftok_pur _))) (congrArg (AV.sl _) (clamp_tk (Nat.zero_le _) _)) _ _ (fun x => ?_) | refine tokE_step hB ?_ | refine eq_ff hB (by simp only [Int.ofNat_eq_natCast]; omega) ?_ | refine len_map hB ?_ | refine sub_step hB (by omega) (by omega) ?_ | refine le_ff hB hle ?_ | refine lt_tt hB (show (0 : Int) < (n0 : Int) by omega) ?_ | refine lt_ff hB (by rw [hno, hnw]; exact fun h => hlen (Int.ofNat_lt.1 h)) ?_ | refine eq_tt hB (by rw [hno, hnw, hleq.1]) ?_ | refine pans_step hB (H48 (er_pur2 _) (ftok_pur _)) ?_ | refine purs_step hB rfl ?_ | refine lt_tt hB (by decide) ?_ | refine lt_ff hB (by decide) ?_ | refine le_tt hB (by decide) ?_ | refine le_ff hB (by decide) ?_ | refine eq_tt hB (by decide) ?_ | refine eq_ff hB (by decide) ?_ | refine fint_wrp hB (by omega) (by omega) ?_ | refine fint_step hB ?_ | refine fbool_tt hB ?_ | refine fbool_ff hB ?_ | refine fbool_split hB (fun _ => ?_) (fun _ => ?_) | refine ftok_step hB ?_ | refine frows_step hB ?_ | refine fstr_step hB ?_ | refine len_map hB ?_ | refine len_step hB ?_ | refine lens_step hB ?_ | refine byte_step hB ?_ | refine drop_step hB rfl ?_ | refine fl_step hB rfl ?_ | refine add_one hB (by first | omega | decide) ?_ | refine opt_step hB rfl ?_ | refine fnat_step hB ?_ | refine ifk_step hB rfl ?_ | refine ifk_step hB (flat_or rfl) ?_ | refine opt2_step hB rfl ?_ | refine obj_raw hB ?_ | refine sob_raw hB ?_ | refine fst_raw hB ?_ | refine optl_raw hB ?_ | refine tok_step hB rfl ?_) <;> conv => lhs; whnf)
            all_goals rfl
      · simp only [hf] at H31
        have H38 := trivial
        have Ha := H19s 6
        rw [ask_f (dS_check hc (by omega) (by omega)) (show trueB (dS d 6) = false from hf2 6 (by omega))] at Ha
        rw [ask_t hcw (by rw [htw]; exact hcand)] at H19w
        cases htf : tW d (inL oth)
        · rw [ask_f hco (by rw [hto, htf])] at H19o
          conv => lhs; whnf
          repeat' ((first | refine fnat_pred hB ?_ | refine tok_step hB hd.tp ?_ | refine tok_step hB hd.tb ?_ | refine tok_step hB (ftok_pur _) ?_ | refine tok_step hB (ttok_pur _) ?_ | refine tok_step hB htbo ?_ | refine tok_step hB htbw ?_ | refine purs_step hB (by simp [purs, pur, hd.tp, hd.tb, htbo, htbw, ftok_pur, er_pur2, ttok_pur, dS, unS]) ?_ | refine pans_step hB H33 ?_ | refine pans_step hB H31 ?_ | refine pans_step hB H35 ?_ | refine pans_step hB H19 ?_ | refine pans_step hB H37 ?_ | refine pans_step hB H21 ?_ | refine pans_step hB H38 ?_ | refine pans_step hB (H45 _) ?_ | refine pans_step hB Ha ?_ | refine pans_step hB H47o ?_ | refine pans_step hB H19o ?_ | refine pans_step hB H47w ?_ | refine pans_step hB H19w ?_ | refine opt_step hB eqb_ok ?_ | refine HL1 (congrArg (AV.sl _) (clampTok_pur (ftok_pur _))) _ _ (fun x => ?_) | refine HL2 (congrArg (AV.sl _) (clampTok_pur (ftok_pur _))) (congrArg (AV.sl _) (clamp_tk (Nat.zero_le _) _)) _ _ (fun x => ?_) | refine tokE_step hB ?_ | refine eq_ff hB (by simp only [Int.ofNat_eq_natCast]; omega) ?_ | refine len_map hB ?_ | refine sub_step hB (by omega) (by omega) ?_ | refine purs_step hB rfl ?_ | refine lt_tt hB (by decide) ?_ | refine lt_ff hB (by decide) ?_ | refine le_tt hB (by decide) ?_ | refine le_ff hB (by decide) ?_ | refine eq_tt hB (by decide) ?_ | refine eq_ff hB (by decide) ?_ | refine fint_wrp hB (by omega) (by omega) ?_ | refine fint_step hB ?_ | refine fbool_tt hB ?_ | refine fbool_ff hB ?_ | refine fbool_split hB (fun _ => ?_) (fun _ => ?_) | refine ftok_step hB ?_ | refine frows_step hB ?_ | refine fstr_step hB ?_ | refine len_map hB ?_ | refine len_step hB ?_ | refine lens_step hB ?_ | refine byte_step hB ?_ | refine drop_step hB rfl ?_ | refine fl_step hB rfl ?_ | refine add_one hB (by first | omega | decide) ?_ | refine opt_step hB rfl ?_ | refine fnat_step hB ?_ | refine ifk_step hB rfl ?_ | refine ifk_step hB (flat_or rfl) ?_ | refine opt2_step hB rfl ?_ | refine obj_raw hB ?_ | refine sob_raw hB ?_ | refine fst_raw hB ?_ | refine optl_raw hB ?_ | refine tok_step hB rfl ?_) <;> conv => lhs; whnf)
          all_goals rfl
        · rw [ask_t hco (by rw [hto, htf])] at H19o
          have hcmp := hleast oth ⟨hoa, htf⟩
          by_cases hlen : (wrongL d).length < oth.length
          · conv => lhs; whnf
            repeat' ((first | refine fnat_pred hB ?_ | refine tok_step hB hd.tp ?_ | refine tok_step hB hd.tb ?_ | refine tok_step hB (ftok_pur _) ?_ | refine tok_step hB (ttok_pur _) ?_ | refine tok_step hB htbo ?_ | refine tok_step hB htbw ?_ | refine purs_step hB (by simp [purs, pur, hd.tp, hd.tb, htbo, htbw, ftok_pur, er_pur2, ttok_pur, dS, unS]) ?_ | refine pans_step hB H33 ?_ | refine pans_step hB H31 ?_ | refine pans_step hB H35 ?_ | refine pans_step hB H19 ?_ | refine pans_step hB H37 ?_ | refine pans_step hB H21 ?_ | refine pans_step hB H38 ?_ | refine pans_step hB (H45 _) ?_ | refine pans_step hB Ha ?_ | refine pans_step hB H47o ?_ | refine pans_step hB H19o ?_ | refine pans_step hB H47w ?_ | refine pans_step hB H19w ?_ | refine opt_step hB eqb_ok ?_ | refine HL1 (congrArg (AV.sl _) (clampTok_pur (ftok_pur _))) _ _ (fun x => ?_) | refine HL2 (congrArg (AV.sl _) (clampTok_pur (ftok_pur _))) (congrArg (AV.sl _) (clamp_tk (Nat.zero_le _) _)) _ _ (fun x => ?_) | refine tokE_step hB ?_ | refine eq_ff hB (by simp only [Int.ofNat_eq_natCast]; omega) ?_ | refine len_map hB ?_ | refine sub_step hB (by omega) (by omega) ?_ | refine lt_tt hB (by rw [hno, hnw]; exact Int.ofNat_lt.2 hlen) ?_ | refine purs_step hB rfl ?_ | refine lt_tt hB (by decide) ?_ | refine lt_ff hB (by decide) ?_ | refine le_tt hB (by decide) ?_ | refine le_ff hB (by decide) ?_ | refine eq_tt hB (by decide) ?_ | refine eq_ff hB (by decide) ?_ | refine fint_wrp hB (by omega) (by omega) ?_ | refine fint_step hB ?_ | refine fbool_tt hB ?_ | refine fbool_ff hB ?_ | refine fbool_split hB (fun _ => ?_) (fun _ => ?_) | refine ftok_step hB ?_ | refine frows_step hB ?_ | refine fstr_step hB ?_ | refine len_map hB ?_ | refine len_step hB ?_ | refine lens_step hB ?_ | refine byte_step hB ?_ | refine drop_step hB rfl ?_ | refine fl_step hB rfl ?_ | refine add_one hB (by first | omega | decide) ?_ | refine opt_step hB rfl ?_ | refine fnat_step hB ?_ | refine ifk_step hB rfl ?_ | refine ifk_step hB (flat_or rfl) ?_ | refine opt2_step hB rfl ?_ | refine obj_raw hB ?_ | refine sob_raw hB ?_ | refine fst_raw hB ?_ | refine optl_raw hB ?_ | refine tok_step hB rfl ?_) <;> conv => lhs; whnf)
            all_goals rfl
          · have hleq : oth.length = (wrongL d).length ∧ aheadN oth (wrongL d) = false := by
              rcases hcmp with h | h
              · rw [h]; exact ⟨rfl, ahead_irr _⟩
              · rw [less_iff] at h
                rcases h with h | ⟨h, h'⟩
                · exact absurd h hlen
                · exact ⟨h.symm, ahead_asym h'⟩
            rw [hleq.2] at H48
            conv => lhs; whnf
            repeat' ((first | refine fnat_pred hB ?_ | refine tok_step hB hd.tp ?_ | refine tok_step hB hd.tb ?_ | refine tok_step hB (ftok_pur _) ?_ | refine tok_step hB (ttok_pur _) ?_ | refine tok_step hB htbo ?_ | refine tok_step hB htbw ?_ | refine purs_step hB (by simp [purs, pur, hd.tp, hd.tb, htbo, htbw, ftok_pur, er_pur2, ttok_pur, dS, unS]) ?_ | refine pans_step hB H33 ?_ | refine pans_step hB H31 ?_ | refine pans_step hB H35 ?_ | refine pans_step hB H19 ?_ | refine pans_step hB H37 ?_ | refine pans_step hB H21 ?_ | refine pans_step hB H38 ?_ | refine pans_step hB (H45 _) ?_ | refine pans_step hB Ha ?_ | refine pans_step hB H47o ?_ | refine pans_step hB H19o ?_ | refine pans_step hB H47w ?_ | refine pans_step hB H19w ?_ | refine opt_step hB eqb_ok ?_ | refine HL1 (congrArg (AV.sl _) (clampTok_pur (ftok_pur _))) _ _ (fun x => ?_) | refine HL2 (congrArg (AV.sl _) (clampTok_pur (ftok_pur _))) (congrArg (AV.sl _) (clamp_tk (Nat.zero_le _) _)) _ _ (fun x => ?_) | refine tokE_step hB ?_ | refine eq_ff hB (by simp only [Int.ofNat_eq_natCast]; omega) ?_ | refine len_map hB ?_ | refine sub_step hB (by omega) (by omega) ?_ | refine lt_ff hB (by rw [hno, hnw]; exact fun h => hlen (Int.ofNat_lt.1 h)) ?_ | refine eq_tt hB (by rw [hno, hnw, hleq.1]) ?_ | refine pans_step hB (H48 (er_pur2 _) (ftok_pur _)) ?_ | refine purs_step hB rfl ?_ | refine lt_tt hB (by decide) ?_ | refine lt_ff hB (by decide) ?_ | refine le_tt hB (by decide) ?_ | refine le_ff hB (by decide) ?_ | refine eq_tt hB (by decide) ?_ | refine eq_ff hB (by decide) ?_ | refine fint_wrp hB (by omega) (by omega) ?_ | refine fint_step hB ?_ | refine fbool_tt hB ?_ | refine fbool_ff hB ?_ | refine fbool_split hB (fun _ => ?_) (fun _ => ?_) | refine ftok_step hB ?_ | refine frows_step hB ?_ | refine fstr_step hB ?_ | refine len_map hB ?_ | refine len_step hB ?_ | refine lens_step hB ?_ | refine byte_step hB ?_ | refine drop_step hB rfl ?_ | refine fl_step hB rfl ?_ | refine add_one hB (by first | omega | decide) ?_ | refine opt_step hB rfl ?_ | refine fnat_step hB ?_ | refine ifk_step hB rfl ?_ | refine ifk_step hB (flat_or rfl) ?_ | refine opt2_step hB rfl ?_ | refine obj_raw hB ?_ | refine sob_raw hB ?_ | refine fst_raw hB ?_ | refine optl_raw hB ?_ | refine tok_step hB rfl ?_) <;> conv => lhs; whnf)
            all_goals rfl
  · rw [ask_t hc htd] at H19
    have hw := wrong_t hc htd
    have hE : wrongE d = 0 := by rw [hEw, hw]; rfl
    have hL : wrongL d = [] := by rw [hLw, hw]; rfl
    rw [hE] at H33 HL1
    obtain ⟨⟨_, hcand⟩, hleast⟩ := wrong_cand hw
    rw [← hL] at hcand hleast
    have hlz : (nats (wrongL d)).length = 0 := by rw [hL]; rfl
    rcases few_spec hc with ⟨n0, hn6, hf, hf1, hf2⟩ | ⟨hf, hf2⟩
    · simp only [hf] at H31
      have H38 := Tween_ev (G := Gx) (n := n) (by omega) (n0 : Int) 0 6
      rw [show within (n0 : Int) 0 6 = true by simp [within]; omega, ← hcl] at H38
      have hiff := few_true hc hn6 hf1 hf2
      have Ha := H19s (n0 : Int)
      rw [ask_t (dS_check hc (by omega) (by omega)) hf1] at Ha
      have hle : (n0 : Int) ≤ d.strange := hiff.1 htd
      by_cases hz : n0 = 0
      · subst hz
        rw [ask_t hcw (by rw [htw]; exact hcand)] at H19w
        cases htf : tW d (inL oth)
        · rw [ask_f hco (by rw [hto, htf])] at H19o
          conv => lhs; whnf
          repeat' ((first | refine fnat_pred hB ?_ | refine tok_step hB hd.tp ?_ | refine tok_step hB hd.tb ?_ | refine tok_step hB (ftok_pur _) ?_ | refine tok_step hB (ttok_pur _) ?_ | refine tok_step hB htbo ?_ | refine tok_step hB htbw ?_ | refine purs_step hB (by simp [purs, pur, hd.tp, hd.tb, htbo, htbw, ftok_pur, er_pur2, ttok_pur, dS, unS]) ?_ | refine pans_step hB H33 ?_ | refine pans_step hB H31 ?_ | refine pans_step hB H35 ?_ | refine pans_step hB H19 ?_ | refine pans_step hB H37 ?_ | refine pans_step hB H21 ?_ | refine pans_step hB H38 ?_ | refine pans_step hB (H45 _) ?_ | refine pans_step hB Ha ?_ | refine pans_step hB H47o ?_ | refine pans_step hB H19o ?_ | refine pans_step hB H47w ?_ | refine pans_step hB H19w ?_ | refine opt_step hB eqb_ok ?_ | refine HL1 (congrArg (AV.sl _) (clampTok_pur (ftok_pur _))) _ _ (fun x => ?_) | refine HL2 (congrArg (AV.sl _) (clampTok_pur (ftok_pur _))) (congrArg (AV.sl _) (clamp_tk (Nat.zero_le _) _)) _ _ (fun x => ?_) | refine tokE_step hB ?_ | refine eq_tt hB (by rw [hlz]; rfl) ?_ | refine len_map hB ?_ | refine sub_step hB (by omega) (by omega) ?_ | refine le_tt hB hle ?_ | refine lt_ff hB (by omega) ?_ | refine purs_step hB rfl ?_ | refine lt_tt hB (by decide) ?_ | refine lt_ff hB (by decide) ?_ | refine le_tt hB (by decide) ?_ | refine le_ff hB (by decide) ?_ | refine eq_tt hB (by decide) ?_ | refine eq_ff hB (by decide) ?_ | refine fint_wrp hB (by omega) (by omega) ?_ | refine fint_step hB ?_ | refine fbool_tt hB ?_ | refine fbool_ff hB ?_ | refine fbool_split hB (fun _ => ?_) (fun _ => ?_) | refine ftok_step hB ?_ | refine frows_step hB ?_ | refine fstr_step hB ?_ | refine len_map hB ?_ | refine len_step hB ?_ | refine lens_step hB ?_ | refine byte_step hB ?_ | refine drop_step hB rfl ?_ | refine fl_step hB rfl ?_ | refine add_one hB (by first | omega | decide) ?_ | refine opt_step hB rfl ?_ | refine fnat_step hB ?_ | refine ifk_step hB rfl ?_ | refine ifk_step hB (flat_or rfl) ?_ | refine opt2_step hB rfl ?_ | refine obj_raw hB ?_ | refine sob_raw hB ?_ | refine fst_raw hB ?_ | refine optl_raw hB ?_ | refine tok_step hB rfl ?_) <;> conv => lhs; whnf)
          all_goals rfl
        · rw [ask_t hco (by rw [hto, htf])] at H19o
          have hcmp := hleast oth ⟨hoa, htf⟩
          by_cases hlen : (wrongL d).length < oth.length
          · conv => lhs; whnf
            repeat' ((first | refine fnat_pred hB ?_ | refine tok_step hB hd.tp ?_ | refine tok_step hB hd.tb ?_ | refine tok_step hB (ftok_pur _) ?_ | refine tok_step hB (ttok_pur _) ?_ | refine tok_step hB htbo ?_ | refine tok_step hB htbw ?_ | refine purs_step hB (by simp [purs, pur, hd.tp, hd.tb, htbo, htbw, ftok_pur, er_pur2, ttok_pur, dS, unS]) ?_ | refine pans_step hB H33 ?_ | refine pans_step hB H31 ?_ | refine pans_step hB H35 ?_ | refine pans_step hB H19 ?_ | refine pans_step hB H37 ?_ | refine pans_step hB H21 ?_ | refine pans_step hB H38 ?_ | refine pans_step hB (H45 _) ?_ | refine pans_step hB Ha ?_ | refine pans_step hB H47o ?_ | refine pans_step hB H19o ?_ | refine pans_step hB H47w ?_ | refine pans_step hB H19w ?_ | refine opt_step hB eqb_ok ?_ | refine HL1 (congrArg (AV.sl _) (clampTok_pur (ftok_pur _))) _ _ (fun x => ?_) | refine HL2 (congrArg (AV.sl _) (clampTok_pur (ftok_pur _))) (congrArg (AV.sl _) (clamp_tk (Nat.zero_le _) _)) _ _ (fun x => ?_) | refine tokE_step hB ?_ | refine eq_tt hB (by rw [hlz]; rfl) ?_ | refine len_map hB ?_ | refine sub_step hB (by omega) (by omega) ?_ | refine le_tt hB hle ?_ | refine lt_ff hB (by omega) ?_ | refine lt_tt hB (by rw [hno, hnw]; exact Int.ofNat_lt.2 hlen) ?_ | refine purs_step hB rfl ?_ | refine lt_tt hB (by decide) ?_ | refine lt_ff hB (by decide) ?_ | refine le_tt hB (by decide) ?_ | refine le_ff hB (by decide) ?_ | refine eq_tt hB (by decide) ?_ | refine eq_ff hB (by decide) ?_ | refine fint_wrp hB (by omega) (by omega) ?_ | refine fint_step hB ?_ | refine fbool_tt hB ?_ | refine fbool_ff hB ?_ | refine fbool_split hB (fun _ => ?_) (fun _ => ?_) | refine ftok_step hB ?_ | refine frows_step hB ?_ | refine fstr_step hB ?_ | refine len_map hB ?_ | refine len_step hB ?_ | refine lens_step hB ?_ | refine byte_step hB ?_ | refine drop_step hB rfl ?_ | refine fl_step hB rfl ?_ | refine add_one hB (by first | omega | decide) ?_ | refine opt_step hB rfl ?_ | refine fnat_step hB ?_ | refine ifk_step hB rfl ?_ | refine ifk_step hB (flat_or rfl) ?_ | refine opt2_step hB rfl ?_ | refine obj_raw hB ?_ | refine sob_raw hB ?_ | refine fst_raw hB ?_ | refine optl_raw hB ?_ | refine tok_step hB rfl ?_) <;> conv => lhs; whnf)
            all_goals rfl
          · have hleq : oth.length = (wrongL d).length ∧ aheadN oth (wrongL d) = false := by
              rcases hcmp with h | h
              · rw [h]; exact ⟨rfl, ahead_irr _⟩
              · rw [less_iff] at h
                rcases h with h | ⟨h, h'⟩
                · exact absurd h hlen
                · exact ⟨h.symm, ahead_asym h'⟩
            rw [hleq.2] at H48
            conv => lhs; whnf
            repeat' ((first | refine fnat_pred hB ?_ | refine tok_step hB hd.tp ?_ | refine tok_step hB hd.tb ?_ | refine tok_step hB (ftok_pur _) ?_ | refine tok_step hB (ttok_pur _) ?_ | refine tok_step hB htbo ?_ | refine tok_step hB htbw ?_ | refine purs_step hB (by simp [purs, pur, hd.tp, hd.tb, htbo, htbw, ftok_pur, er_pur2, ttok_pur, dS, unS]) ?_ | refine pans_step hB H33 ?_ | refine pans_step hB H31 ?_ | refine pans_step hB H35 ?_ | refine pans_step hB H19 ?_ | refine pans_step hB H37 ?_ | refine pans_step hB H21 ?_ | refine pans_step hB H38 ?_ | refine pans_step hB (H45 _) ?_ | refine pans_step hB Ha ?_ | refine pans_step hB H47o ?_ | refine pans_step hB H19o ?_ | refine pans_step hB H47w ?_ | refine pans_step hB H19w ?_ | refine opt_step hB eqb_ok ?_ | refine HL1 (congrArg (AV.sl _) (clampTok_pur (ftok_pur _))) _ _ (fun x => ?_) | refine HL2 (congrArg (AV.sl _) (clampTok_pur (ftok_pur _))) (congrArg (AV.sl _) (clamp_tk (Nat.zero_le _) _)) _ _ (fun x => ?_) | refine tokE_step hB ?_ | refine eq_tt hB (by rw [hlz]; rfl) ?_ | refine len_map hB ?_ | refine sub_step hB (by omega) (by omega) ?_ | refine le_tt hB hle ?_ | refine lt_ff hB (by omega) ?_ | refine lt_ff hB (by rw [hno, hnw]; exact fun h => hlen (Int.ofNat_lt.1 h)) ?_ | refine eq_tt hB (by rw [hno, hnw, hleq.1]) ?_ | refine pans_step hB (H48 (er_pur2 _) (ftok_pur _)) ?_ | refine purs_step hB rfl ?_ | refine lt_tt hB (by decide) ?_ | refine lt_ff hB (by decide) ?_ | refine le_tt hB (by decide) ?_ | refine le_ff hB (by decide) ?_ | refine eq_tt hB (by decide) ?_ | refine eq_ff hB (by decide) ?_ | refine fint_wrp hB (by omega) (by omega) ?_ | refine fint_step hB ?_ | refine fbool_tt hB ?_ | refine fbool_ff hB ?_ | refine fbool_split hB (fun _ => ?_) (fun _ => ?_) | refine ftok_step hB ?_ | refine frows_step hB ?_ | refine fstr_step hB ?_ | refine len_map hB ?_ | refine len_step hB ?_ | refine lens_step hB ?_ | refine byte_step hB ?_ | refine drop_step hB rfl ?_ | refine fl_step hB rfl ?_ | refine add_one hB (by first | omega | decide) ?_ | refine opt_step hB rfl ?_ | refine fnat_step hB ?_ | refine ifk_step hB rfl ?_ | refine ifk_step hB (flat_or rfl) ?_ | refine opt2_step hB rfl ?_ | refine obj_raw hB ?_ | refine sob_raw hB ?_ | refine fst_raw hB ?_ | refine optl_raw hB ?_ | refine tok_step hB rfl ?_) <;> conv => lhs; whnf)
            all_goals rfl
      · have hz' : 0 < n0 := by omega
        have Hb := H19s ((n0 : Int) - 1)
        rw [ask_f (dS_check hc (by omega) (by omega)) (by have := hf2 (n0 - 1) (by omega); rwa [show ((n0 - 1 : Nat) : Int) = (n0 : Int) - 1 by omega] at this)] at Hb
        rw [ask_t hcw (by rw [htw]; exact hcand)] at H19w
        cases htf : tW d (inL oth)
        · rw [ask_f hco (by rw [hto, htf])] at H19o
          conv => lhs; whnf
          repeat' ((first | refine fnat_pred hB ?_ | refine tok_step hB hd.tp ?_ | refine tok_step hB hd.tb ?_ | refine tok_step hB (ftok_pur _) ?_ | refine tok_step hB (ttok_pur _) ?_ | refine tok_step hB htbo ?_ | refine tok_step hB htbw ?_ | refine purs_step hB (by simp [purs, pur, hd.tp, hd.tb, htbo, htbw, ftok_pur, er_pur2, ttok_pur, dS, unS]) ?_ | refine pans_step hB H33 ?_ | refine pans_step hB H31 ?_ | refine pans_step hB H35 ?_ | refine pans_step hB H19 ?_ | refine pans_step hB H37 ?_ | refine pans_step hB H21 ?_ | refine pans_step hB H38 ?_ | refine pans_step hB (H45 _) ?_ | refine pans_step hB Ha ?_ | refine pans_step hB Hb ?_ | refine pans_step hB H47o ?_ | refine pans_step hB H19o ?_ | refine pans_step hB H47w ?_ | refine pans_step hB H19w ?_ | refine opt_step hB eqb_ok ?_ | refine HL1 (congrArg (AV.sl _) (clampTok_pur (ftok_pur _))) _ _ (fun x => ?_) | refine HL2 (congrArg (AV.sl _) (clampTok_pur (ftok_pur _))) (congrArg (AV.sl _) (clamp_tk (Nat.zero_le _) _)) _ _ (fun x => ?_) | refine tokE_step hB ?_ | refine eq_tt hB (by rw [hlz]; rfl) ?_ | refine len_map hB ?_ | refine sub_step hB (by omega) (by omega) ?_ | refine le_tt hB hle ?_ | refine lt_tt hB (show (0 : Int) < (n0 : Int) by omega) ?_ | refine purs_step hB rfl ?_ | refine lt_tt hB (by decide) ?_ | refine lt_ff hB (by decide) ?_ | refine le_tt hB (by decide) ?_ | refine le_ff hB (by decide) ?_ | refine eq_tt hB (by decide) ?_ | refine eq_ff hB (by decide) ?_ | refine fint_wrp hB (by omega) (by omega) ?_ | refine fint_step hB ?_ | refine fbool_tt hB ?_ | refine fbool_ff hB ?_ | refine fbool_split hB (fun _ => ?_) (fun _ => ?_) | refine ftok_step hB ?_ | refine frows_step hB ?_ | refine fstr_step hB ?_ | refine len_map hB ?_ | refine len_step hB ?_ | refine lens_step hB ?_ | refine byte_step hB ?_ | refine drop_step hB rfl ?_ | refine fl_step hB rfl ?_ | refine add_one hB (by first | omega | decide) ?_ | refine opt_step hB rfl ?_ | refine fnat_step hB ?_ | refine ifk_step hB rfl ?_ | refine ifk_step hB (flat_or rfl) ?_ | refine opt2_step hB rfl ?_ | refine obj_raw hB ?_ | refine sob_raw hB ?_ | refine fst_raw hB ?_ | refine optl_raw hB ?_ | refine tok_step hB rfl ?_) <;> conv => lhs; whnf)
          all_goals rfl
        · rw [ask_t hco (by rw [hto, htf])] at H19o
          have hcmp := hleast oth ⟨hoa, htf⟩
          by_cases hlen : (wrongL d).length < oth.length
          · conv => lhs; whnf
            repeat' ((first | refine fnat_pred hB ?_ | refine tok_step hB hd.tp ?_ | refine tok_step hB hd.tb ?_ | refine tok_step hB (ftok_pur _) ?_ | refine tok_step hB (ttok_pur _) ?_ | refine tok_step hB htbo ?_ | refine tok_step hB htbw ?_ | refine purs_step hB (by simp [purs, pur, hd.tp, hd.tb, htbo, htbw, ftok_pur, er_pur2, ttok_pur, dS, unS]) ?_ | refine pans_step hB H33 ?_ | refine pans_step hB H31 ?_ | refine pans_step hB H35 ?_ | refine pans_step hB H19 ?_ | refine pans_step hB H37 ?_ | refine pans_step hB H21 ?_ | refine pans_step hB H38 ?_ | refine pans_step hB (H45 _) ?_ | refine pans_step hB Ha ?_ | refine pans_step hB Hb ?_ | refine pans_step hB H47o ?_ | refine pans_step hB H19o ?_ | refine pans_step hB H47w ?_ | refine pans_step hB H19w ?_ | refine opt_step hB eqb_ok ?_ | refine HL1 (congrArg (AV.sl _) (clampTok_pur (ftok_pur _))) _ _ (fun x => ?_) | refine HL2 (congrArg (AV.sl _) (clampTok_pur (ftok_pur _))) (congrArg (AV.sl _) (clamp_tk (Nat.zero_le _) _)) _ _ (fun x => ?_) | refine tokE_step hB ?_ | refine eq_tt hB (by rw [hlz]; rfl) ?_ | refine len_map hB ?_ | refine sub_step hB (by omega) (by omega) ?_ | refine le_tt hB hle ?_ | refine lt_tt hB (show (0 : Int) < (n0 : Int) by omega) ?_ | refine lt_tt hB (by rw [hno, hnw]; exact Int.ofNat_lt.2 hlen) ?_ | refine purs_step hB rfl ?_ | refine lt_tt hB (by decide) ?_ | refine lt_ff hB (by decide) ?_ | refine le_tt hB (by decide) ?_ | refine le_ff hB (by decide) ?_ | refine eq_tt hB (by decide) ?_ | refine eq_ff hB (by decide) ?_ | refine fint_wrp hB (by omega) (by omega) ?_ | refine fint_step hB ?_ | refine fbool_tt hB ?_ | refine fbool_ff hB ?_ | refine fbool_split hB (fun _ => ?_) (fun _ => ?_) | refine ftok_step hB ?_ | refine frows_step hB ?_ | refine fstr_step hB ?_ | refine len_map hB ?_ | refine len_step hB ?_ | refine lens_step hB ?_ | refine byte_step hB ?_ | refine drop_step hB rfl ?_ | refine fl_step hB rfl ?_ | refine add_one hB (by first | omega | decide) ?_ | refine opt_step hB rfl ?_ | refine fnat_step hB ?_ | refine ifk_step hB rfl ?_ | refine ifk_step hB (flat_or rfl) ?_ | refine opt2_step hB rfl ?_ | refine obj_raw hB ?_ | refine sob_raw hB ?_ | refine fst_raw hB ?_ | refine optl_raw hB ?_ | refine tok_step hB rfl ?_) <;> conv => lhs; whnf)
            all_goals rfl
          · have hleq : oth.length = (wrongL d).length ∧ aheadN oth (wrongL d) = false := by
              rcases hcmp with h | h
              · rw [h]; exact ⟨rfl, ahead_irr _⟩
              · rw [less_iff] at h
                rcases h with h | ⟨h, h'⟩
                · exact absurd h hlen
                · exact ⟨h.symm, ahead_asym h'⟩
            rw [hleq.2] at H48
            conv => lhs; whnf
            repeat' ((first | refine fnat_pred hB ?_ | refine tok_step hB hd.tp ?_ | refine tok_step hB hd.tb ?_ | refine tok_step hB (ftok_pur _) ?_ | refine tok_step hB (ttok_pur _) ?_ | refine tok_step hB htbo ?_ | refine tok_step hB htbw ?_ | refine purs_step hB (by simp [purs, pur, hd.tp, hd.tb, htbo, htbw, ftok_pur, er_pur2, ttok_pur, dS, unS]) ?_ | refine pans_step hB H33 ?_ | refine pans_step hB H31 ?_ | refine pans_step hB H35 ?_ | refine pans_step hB H19 ?_ | refine pans_step hB H37 ?_ | refine pans_step hB H21 ?_ | refine pans_step hB H38 ?_ | refine pans_step hB (H45 _) ?_ | refine pans_step hB Ha ?_ | refine pans_step hB Hb ?_ | refine pans_step hB H47o ?_ | refine pans_step hB H19o ?_ | refine pans_step hB H47w ?_ | refine pans_step hB H19w ?_ | refine opt_step hB eqb_ok ?_ | refine HL1 (congrArg (AV.sl _) (clampTok_pur (ftok_pur _))) _ _ (fun x => ?_) | refine HL2 (congrArg (AV.sl _) (clampTok_pur (ftok_pur _))) (congrArg (AV.sl _) (clamp_tk (Nat.zero_le _) _)) _ _ (fun x => ?_) | refine tokE_step hB ?_ | refine eq_tt hB (by rw [hlz]; rfl) ?_ | refine len_map hB ?_ | refine sub_step hB (by omega) (by omega) ?_ | refine le_tt hB hle ?_ | refine lt_tt hB (show (0 : Int) < (n0 : Int) by omega) ?_ | refine lt_ff hB (by rw [hno, hnw]; exact fun h => hlen (Int.ofNat_lt.1 h)) ?_ | refine eq_tt hB (by rw [hno, hnw, hleq.1]) ?_ | refine pans_step hB (H48 (er_pur2 _) (ftok_pur _)) ?_ | refine purs_step hB rfl ?_ | refine lt_tt hB (by decide) ?_ | refine lt_ff hB (by decide) ?_ | refine le_tt hB (by decide) ?_ | refine le_ff hB (by decide) ?_ | refine eq_tt hB (by decide) ?_ | refine eq_ff hB (by decide) ?_ | refine fint_wrp hB (by omega) (by omega) ?_ | refine fint_step hB ?_ | refine fbool_tt hB ?_ | refine fbool_ff hB ?_ | refine fbool_split hB (fun _ => ?_) (fun _ => ?_) | refine ftok_step hB ?_ | refine frows_step hB ?_ | refine fstr_step hB ?_ | refine len_map hB ?_ | refine len_step hB ?_ | refine lens_step hB ?_ | refine byte_step hB ?_ | refine drop_step hB rfl ?_ | refine fl_step hB rfl ?_ | refine add_one hB (by first | omega | decide) ?_ | refine opt_step hB rfl ?_ | refine fnat_step hB ?_ | refine ifk_step hB rfl ?_ | refine ifk_step hB (flat_or rfl) ?_ | refine opt2_step hB rfl ?_ | refine obj_raw hB ?_ | refine sob_raw hB ?_ | refine fst_raw hB ?_ | refine optl_raw hB ?_ | refine tok_step hB rfl ?_) <;> conv => lhs; whnf)
            all_goals rfl
    · rw [few_none hc hf2] at htd
      cases htd
end Go.Ab.Cl
