/-
  The claims: Truth, the walk.
-/
import Derived.Test.YthbekoofiienjaaDoorClTa
import Derived.Test.YthbekoofiienjaaDoorClF
import Derived.Test.YthbekoofiienjaaDoorClKd
import Derived.Test.YthbekoofiienjaaDoorClZ
namespace Go.Ab.Cl
open Go.Ab

def loT (env : Env) (asg body : C) (stopped : Bool) : AObj := .loop env 0 [30] asg body (!stopped) (if stopped = true then .exit 2 else .nrm)
/-- What a round of Truth does. -/
def RT (d : Desk) (zi z : Int) (x : List (Int × Int) × List Int × Bool) (b : Bool) (x' : List (Int × Int) × List Int × Bool) : Prop :=
  x.2.1.length ≤ 1000 ∧ ((b = true ∧ best d hiI (setI x.1 zi z) = -1 ∧ x' = (setI x.1 zi z, x.2.1, false)) ∨ (b = false ∧ best d hiI (setI x.1 zi z) ≠ -1 ∧ x' = (setI x.1 zi z, x.2.1 ++ [z], true)))

theorem meantT {n : Nat} (hn : 1000000000000006 ≤ n) (d : Desk) (hd : d.ok) (hf : d.fine) (i : Nat) {zi : Int} (hzi : zi = (i : Int)) (hi : i < d.bs.length) (env : Env) (asg body : C) (ge : List (Int × Int)) (out : List Int) (hlen : out.length ≤ 1000) (kont : AV → St → Ans) (r : Ans)
    (HR : ∀ z ∈ opts d i 0, RoundIs (evKR Bk Gx fsT n).2 2 1 1 (fun x => TS d zi (loT env asg body x.2.2) x.1 x.2.1 x.2.1) (fun x => x.2.2 = false ∧ x.2.1.length ≤ 1000) (RT d zi) z)
    (K : ∀ x', Runs (RT d zi) (opts d i 0) (ge, out, false) x' → kont (.tup []) (TS d zi (loT env asg body x'.2.2) x'.1 x'.2.1 x'.2.1) = r) :
    (evKR Bk Gx fsT (n + 1)).1 2 84 [.yl 1 1, .rp d.c, .rp [.int .i64 zi], .rp [.int .i64 0]] (TS d zi (loT env asg body false) ge out out) kont = r :=
  meant1_ev hn d hd hf i 0 hzi (zt := 0) rfl (by omega) hi (fun x : List (Int × Int) × List Int × Bool => TS d zi (loT env asg body x.2.2) x.1 x.2.1 x.2.1) (fun x => rfl) (by omega) (fun x => x.2.2 = false ∧ x.2.1.length ≤ 1000) (RT d zi)
    (fun z x x' h => by
      obtain ⟨h1, ⟨_, _, rfl⟩ | ⟨h2, _⟩⟩ := h
      · exact ⟨rfl, h1⟩
      · cases h2) (ge, out, false) ⟨rfl, hlen⟩ kont r HR K

set_option maxHeartbeats 2000000 in
theorem a19_L1_step {B : Bnd} (hB : B = Bk) {n2 : Nat} (hn2 : 1000000000000200 ≤ n2) (d : Desk) (hd : d.ok) (hc : d.check = true) (Inv : Nat → List (Int × Int) → List Int → Prop) (hI : ∀ i ge out, Inv i ge out → out.length ≤ 6)
    (hInv : ∀ (i : Nat) ge out x', i < d.bs.length → Inv i ge out → Runs (RT d (i : Int)) (opts d i 0) (ge, out, false) x' → Inv (i + 1) x'.1 x'.2.1) (n : Nat) (k : Ex → Env → St → Ans) (r : Ans) :
    ∀ (j i0 : Nat) (ge : List (Int × Int)) (out : List Int), d.bs.length < i0 + j → i0 ≤ d.bs.length → Inv i0 ge out →
    (∀ ge' out' x, Inv d.bs.length ge' out' → k (.exit 0) [(2, .sl [] .nil), (3, .int .i64 0), (4, .ptr 0 1 0), (6, .ptr 0 2 0), (7, .ptr 0 4 0), (23, .int .i64 (.ofNat d.bs.length)), (24, .int .i64 x)] [⟨[.cells d.c, .cells d.c, .cells [.sl (rowsI out') (tkf out')], .map (intsE ge'), .cells [.mp 0 3]], tks 44 out'⟩] = r) →
    B.loop (evCK B a19_L1) [2, 3, 4, 6, 7, 23, 24] n j (evKR Bk Gx fsT (n2 + 1)).1 (evKR Bk Gx fsT (n2 + 1)).2 Gx 0 1 [(2, .sl [] .nil), (3, .int .i64 0), (4, .ptr 0 1 0), (6, .ptr 0 2 0), (7, .ptr 0 4 0), (23, .int .i64 (.ofNat d.bs.length)), (24, .int .i64 (.ofNat i0))] [⟨[.cells d.c, .cells d.c, .cells [.sl (rowsI out) (tkf out)], .map (intsE ge), .cells [.mp 0 3]], tks 44 out⟩] k = r := by
  intro j
  induction j with
  | zero => intro i0 ge out h1 h2; omega
  | succ j ih =>
    intro i0 ge out h1 h2 hinv k1
    have hf := check_fine hc
    have hnb := hf.nb
    have hol := hI _ _ _ hinv
    refine loop_succ hB ?_
    obtain ⟨cl, hcl⟩ : ∃ cl, cl = (evKR Bk Gx fsT (n2 + 1)).1 := ⟨_, rfl⟩
    rw [← hcl]
    have H65 := meant_ev (n := n2 + 1) (by omega) d hd (i0 : Int) 0
    rw [← hcl] at H65
    conv => lhs; whnf
    refine lt_nat hB (fun h => ?_) (fun h => ?_) <;> conv => lhs; whnf
    · repeat' ((first | refine fnat_pred hB ?_ | refine tok_step hB hd.tp ?_ | refine tok_step hB hd.tb ?_ | refine purs_step hB (by simp [purs, pur, hd.tp, hd.tb]) ?_ | refine pans_step hB H65 ?_ | refine purs_step hB rfl ?_ | refine lt_tt hB (by decide) ?_ | refine lt_ff hB (by decide) ?_ | refine le_tt hB (by decide) ?_ | refine le_ff hB (by decide) ?_ | refine eq_tt hB (by decide) ?_ | refine eq_ff hB (by decide) ?_ | refine fint_wrp hB (by omega) (by omega) ?_ | refine fint_step hB ?_ | refine fbool_tt hB ?_ | refine fbool_ff hB ?_ | refine fbool_split hB (fun _ => ?_) (fun _ => ?_) | refine ftok_step hB ?_ | refine frows_step hB ?_ | refine fstr_step hB ?_ | refine len_map hB ?_ | refine len_step hB ?_ | refine lens_step hB ?_ | refine byte_step hB ?_ | refine drop_step hB rfl ?_ | refine fl_step hB rfl ?_ | refine add_one hB (by first | omega | decide) ?_ | refine opt_step hB rfl ?_ | refine fnat_step hB ?_ | refine ifk_step hB rfl ?_ | refine ifk_step hB (flat_or rfl) ?_ | refine opt2_step hB rfl ?_ | refine obj_raw hB ?_ | refine sob_raw hB ?_ | refine fst_raw hB ?_ | refine optl_raw hB ?_ | refine tok_step hB rfl ?_) <;> conv => lhs; whnf)
      subst hcl
      refine meantT (n := n2) (by omega) d hd hf i0 rfl h _ _ _ ge out (by omega) _ _ (fun z hz => ?_) (fun x' hR => ?_)
      · intro fr x kont2 r2 hP K2
        obtain ⟨ge1, out1, st1⟩ := x
        obtain ⟨hP1, hP2⟩ := hP
        dsimp only at hP1 hP2
        subst hP1
        dsimp only
        refine round_open TS_len TS_getl (by omega) rfl fun n3 B2 cl2 rd2 hn3 hB2 hcl2 hrd2 => ?_
        clear hB
        have hB := hB2
        have H67 := most_ev (n := n3) (by omega)
        have H66 := fun os t s kont => found_ev (n := n3) (by omega) d hd (gv := .mp 0 3) 85 os t s (D := s.length + 1) rfl (.inr ⟨0, 3, rfl, by omega⟩) kont
        rw [← hcl2] at H67
        have hs0 : ∀ lo ge out tout, 0 < (fr ++ TS d (i0 : Int) lo ge out tout).length := fun lo ge out tout => by rw [← TS_len]; omega
        have hs1 : ∀ lo ge out tout, 1 < (fr ++ TS d (i0 : Int) lo ge out tout).length := fun lo ge out tout => by rw [← TS_len]; omega
        have H66 : ∀ lo ge out tout kont, cl2 (2 + fr.length + 1) 66 [d.v, .mp 0 3, .agg [.fn 85 [] []]] (⟨[], []⟩ :: (fr ++ TS d (i0 : Int) lo ge out tout)) kont = kont (srch d (.mp 0 3) (2 + fr.length) 3 85) (⟨fnd d (.mp 0 3) (2 + fr.length) 85 [] [], []⟩ :: (fr ++ TS d (i0 : Int) lo ge out tout)) := by
          intro lo ge out tout kont
          rw [hcl2]
          exact found_ev (n := n3) (by omega) d hd (gv := .mp 0 3) 85 [] [] (fr ++ TS d (i0 : Int) lo ge out tout) (D := 2 + fr.length + 1) (by rw [TS_len]) (.inr ⟨0, 3, rfl, by omega⟩) kont
        have H68 : ∀ lo ge out tout kont r, (∀ es', kont (.int .i64 (best d hiI ge)) (⟨fnd d (.mp 0 3) (2 + fr.length) 85 [] es', []⟩ :: (fr ++ TS d (i0 : Int) lo ge out tout)) = r) →
            cl2 (2 + fr.length + 1) 68 [srch d (.mp 0 3) (2 + fr.length) 3 85, keyV 0 0 0] (⟨fnd d (.mp 0 3) (2 + fr.length) 85 [] [], []⟩ :: (fr ++ TS d (i0 : Int) lo ge out tout)) kont = r := by
          intro lo ge out tout kont r K
          rw [hcl2]
          exact search_ev (n := n3) (by omega) hi_or hiHB d hd hc ge (gv := .mp 0 3) [] [] (fr ++ TS d (i0 : Int) lo ge out tout) (D := 2 + fr.length + 1) (by rw [TS_len]) (.inr ⟨0, 3, rfl, by omega⟩)
            (mapAt_mp ((getObj_sub (hs0 _ _ _ _)).trans TS_get3)) kont r K
        conv => lhs; whnf
        repeat' ((first | refine fnat_pred hB ?_ | refine tok_step hB hd.tp ?_ | refine tok_step hB hd.tb ?_ | refine obj_step hB (congrArg (· + 1) TS_len) ((getObj_sub (hs0 _ _ _ _)).trans TS_get1) ?_ | refine obj_step hB (congrArg (· + 1) TS_len) ((getObj_sub (hs0 _ _ _ _)).trans TS_get2) ?_ | refine obj_step hB (congrArg (· + 1) TS_len) ((getObj_sub (hs0 _ _ _ _)).trans TS_get4) ?_ | refine obj_step hB (congrArg (· + 1) TS_len) ((getObj_sub (hs1 _ _ _ _)).trans TS_geti) ?_ | refine obj_step hB (congrArg (· + 1) TS_len) ((getObj_sub (hs1 _ _ _ _)).trans TS_getl) ?_ | refine sob_step hB (congrArg (· + 1) TS_len) ((setObj_sub (hs1 _ _ _ _)).trans (congrArg (_ :: ·) TS_setl)) ?_ | refine opt2_step hB (upd_ok rfl ((getObj_sub (hs0 _ _ _ _)).trans TS_get3) rfl rfl (setI_ok _ _ _)) ?_ | refine fst_step hB ((setObj_sub (hs0 _ _ _ _)).trans (congrArg (_ :: ·) TS_set3)) ?_ | refine pans_step hB H67 ?_ | refine (H66 _ _ _ _ _).trans ?_ | refine H68 _ _ _ _ _ _ (fun es' => ?_) | refine eq_split hB (fun heq => ?_) (fun heq => ?_) | refine opt2_step hB (TS_app (by omega) z) ?_ | refine fbool_other hB (by omega) ?_ | refine fst_step hB rfl ?_ | refine fl_step hB (x := [.sl (rowsI (out1 ++ [z])) (tkf (out1 ++ [z]))]) (by show [AV.sl _ (clampTok 0 (tkf _))] = _; rw [clamp_tkf]) ?_ | refine sob_step hB (congrArg (· + 1) TS_len) ((setObj_sub (hs0 _ _ _ _)).trans (congrArg (_ :: ·) TS_set2)) ?_ | refine purs_step hB rfl ?_ | refine lt_tt hB (by decide) ?_ | refine lt_ff hB (by decide) ?_ | refine le_tt hB (by decide) ?_ | refine le_ff hB (by decide) ?_ | refine eq_tt hB (by decide) ?_ | refine eq_ff hB (by decide) ?_ | refine fint_wrp hB (by omega) (by omega) ?_ | refine fint_step hB ?_ | refine fbool_tt hB ?_ | refine fbool_ff hB ?_ | refine fbool_split hB (fun _ => ?_) (fun _ => ?_) | refine ftok_step hB ?_ | refine frows_step hB ?_ | refine fstr_step hB ?_ | refine len_map hB ?_ | refine len_step hB ?_ | refine lens_step hB ?_ | refine byte_step hB ?_ | refine drop_step hB rfl ?_ | refine fl_step hB rfl ?_ | refine add_one hB (by first | omega | decide) ?_ | refine opt_step hB rfl ?_ | refine fnat_step hB ?_ | refine ifk_step hB rfl ?_ | refine ifk_step hB (flat_or rfl) ?_ | refine opt2_step hB rfl ?_ | refine obj_raw hB ?_ | refine sob_raw hB ?_ | refine fst_raw hB ?_ | refine optl_raw hB ?_ | refine tok_step hB rfl ?_) <;> conv => lhs; whnf)
        · exact K2 true (setI ge1 (i0 : Int) z, out1, false) ⟨hP2, .inl ⟨rfl, heq, rfl⟩⟩
        · exact K2 false (setI ge1 (i0 : Int) z, out1 ++ [z], true) ⟨hP2, .inr ⟨rfl, heq, rfl⟩⟩
      · have hnext := hInv i0 ge out x' h hinv hR
        obtain ⟨ge', out', st'⟩ := x'
        dsimp only at hnext ⊢
        cases st'
        · conv => lhs; whnf
          repeat' ((first | refine fnat_pred hB ?_ | refine add_step hB (by simp only [Int.ofNat_eq_natCast]; omega) (by simp only [Int.ofNat_eq_natCast]; omega) ?_ | refine purs_step hB rfl ?_ | refine lt_tt hB (by decide) ?_ | refine lt_ff hB (by decide) ?_ | refine le_tt hB (by decide) ?_ | refine le_ff hB (by decide) ?_ | refine eq_tt hB (by decide) ?_ | refine eq_ff hB (by decide) ?_ | refine fint_wrp hB (by omega) (by omega) ?_ | refine fint_step hB ?_ | refine fbool_tt hB ?_ | refine fbool_ff hB ?_ | refine fbool_split hB (fun _ => ?_) (fun _ => ?_) | refine ftok_step hB ?_ | refine frows_step hB ?_ | refine fstr_step hB ?_ | refine len_map hB ?_ | refine len_step hB ?_ | refine lens_step hB ?_ | refine byte_step hB ?_ | refine drop_step hB rfl ?_ | refine fl_step hB rfl ?_ | refine add_one hB (by first | omega | decide) ?_ | refine opt_step hB rfl ?_ | refine fnat_step hB ?_ | refine ifk_step hB rfl ?_ | refine ifk_step hB (flat_or rfl) ?_ | refine opt2_step hB rfl ?_ | refine obj_raw hB ?_ | refine sob_raw hB ?_ | refine fst_raw hB ?_ | refine optl_raw hB ?_ | refine tok_step hB rfl ?_) <;> conv => lhs; whnf)
          exact ih (i0 + 1) ge' out' (by omega) (by omega) hnext k1
        · conv => lhs; whnf
          repeat' ((first | refine fnat_pred hB ?_ | refine add_step hB (by simp only [Int.ofNat_eq_natCast]; omega) (by simp only [Int.ofNat_eq_natCast]; omega) ?_ | refine purs_step hB rfl ?_ | refine lt_tt hB (by decide) ?_ | refine lt_ff hB (by decide) ?_ | refine le_tt hB (by decide) ?_ | refine le_ff hB (by decide) ?_ | refine eq_tt hB (by decide) ?_ | refine eq_ff hB (by decide) ?_ | refine fint_wrp hB (by omega) (by omega) ?_ | refine fint_step hB ?_ | refine fbool_tt hB ?_ | refine fbool_ff hB ?_ | refine fbool_split hB (fun _ => ?_) (fun _ => ?_) | refine ftok_step hB ?_ | refine frows_step hB ?_ | refine fstr_step hB ?_ | refine len_map hB ?_ | refine len_step hB ?_ | refine lens_step hB ?_ | refine byte_step hB ?_ | refine drop_step hB rfl ?_ | refine fl_step hB rfl ?_ | refine add_one hB (by first | omega | decide) ?_ | refine opt_step hB rfl ?_ | refine fnat_step hB ?_ | refine ifk_step hB rfl ?_ | refine ifk_step hB (flat_or rfl) ?_ | refine opt2_step hB rfl ?_ | refine obj_raw hB ?_ | refine sob_raw hB ?_ | refine fst_raw hB ?_ | refine optl_raw hB ?_ | refine tok_step hB rfl ?_) <;> conv => lhs; whnf)
          exact ih (i0 + 1) ge' out' (by omega) (by omega) hnext k1
    · repeat' ((first | refine purs_step hB rfl ?_ | refine lt_tt hB (by decide) ?_ | refine lt_ff hB (by decide) ?_ | refine le_tt hB (by decide) ?_ | refine le_ff hB (by decide) ?_ | refine eq_tt hB (by decide) ?_ | refine eq_ff hB (by decide) ?_ | refine fint_wrp hB (by omega) (by omega) ?_ | refine fint_step hB ?_ | refine fbool_tt hB ?_ | refine fbool_ff hB ?_ | refine fbool_split hB (fun _ => ?_) (fun _ => ?_) | refine ftok_step hB ?_ | refine frows_step hB ?_ | refine fstr_step hB ?_ | refine len_map hB ?_ | refine len_step hB ?_ | refine lens_step hB ?_ | refine byte_step hB ?_ | refine drop_step hB rfl ?_ | refine fl_step hB rfl ?_ | refine add_one hB (by first | omega | decide) ?_ | refine opt_step hB rfl ?_ | refine fnat_step hB ?_ | refine ifk_step hB rfl ?_ | refine ifk_step hB (flat_or rfl) ?_ | refine opt2_step hB rfl ?_ | refine obj_raw hB ?_ | refine sob_raw hB ?_ | refine fst_raw hB ?_ | refine optl_raw hB ?_ | refine tok_step hB rfl ?_) <;> conv => lhs; whnf)
      have hi : i0 = d.bs.length := by omega
      subst hi
      rw [hcl] at *
      exact k1 ge out _ hinv
end Go.Ab.Cl

namespace Go.Ab.Cl
open Go.Ab

def pickT (d : Desk) (zi : Int) : List Int → List (Int × Int) → List Int → List (Int × Int) × List Int × Bool
  | [], ge, out => (ge, out, false)
  | z :: l, ge, out => if best d hiI (setI ge zi z) = -1 then pickT d zi l (setI ge zi z) out else (setI ge zi z, out ++ [z], true)
theorem pick_runs {d : Desk} {zi : Int} : ∀ {l : List Int} {ge : List (Int × Int)} {out : List Int} {x' : List (Int × Int) × List Int × Bool}, Runs (RT d zi) l (ge, out, false) x' → x' = pickT d zi l ge out
  | [], ge, out, x', h => by cases h; rfl
  | z :: l, ge, out, x', h => by
    cases h with
    | stop h =>
      obtain ⟨_, ⟨h1, _⟩ | ⟨_, h2, h3⟩⟩ := h
      · cases h1
      · simp only [pickT]
        rw [if_neg h2]; exact h3
    | more h hr =>
      obtain ⟨_, ⟨_, h2, rfl⟩ | ⟨h1, _⟩⟩ := h
      · simp only [pickT]
        rw [if_pos h2]; exact pick_runs hr
      · cases h1
/-- What Truth has found of the first boxes. -/
def seqT (d : Desk) : Nat → List (Int × Int) × List Int
  | 0 => ([], [])
  | i + 1 => ((pickT d (i : Int) (opts d i 0) (seqT d i).1 (seqT d i).2).1, (pickT d (i : Int) (opts d i 0) (seqT d i).1 (seqT d i).2).2.1)
def truthL (d : Desk) : List Int := if askE d true = 0 then (seqT d d.bs.length).2 else []
theorem pick_len {d : Desk} {zi : Int} : ∀ {l : List Int} {ge : List (Int × Int)} {out : List Int}, (pickT d zi l ge out).2.1.length ≤ out.length + 1
  | [], ge, out => by simp [pickT]
  | z :: l, ge, out => by
    simp only [pickT]
    split
    · exact pick_len
    · simp
theorem seq_len {d : Desk} : ∀ i : Nat, (seqT d i).2.length ≤ i
  | 0 => by simp [seqT]
  | i + 1 => by
    have := seq_len (d := d) i
    have h := pick_len (d := d) (zi := (i : Int)) (l := opts d i 0) (ge := (seqT d i).1) (out := (seqT d i).2)
    simp only [seqT]; omega

theorem best_look {d : Desk} {by_ : Int → Int → Int} {ge ge' : List (Int × Int)} (h : ∀ i : Nat, look ge i = look ge' i) : best d by_ ge = best d by_ ge' := by
  unfold best
  rw [show (fun i : Nat => look ge (i : Int)) = fun i : Nat => look ge' (i : Int) from funext h]
theorem pick_good {d : Desk} {i : Nat} : ∀ {l : List Int} {ge ge0 : List (Int × Int)} {out : List Int}, (∀ j : Nat, j ≠ i → look ge j = look ge0 j) → (∃ z ∈ l, best d hiI (setI ge0 (i : Int) z) ≠ -1) →
    ∃ z, best d hiI (setI ge0 (i : Int) z) ≠ -1 ∧ (pickT d (i : Int) l ge out).2.1 = out ++ [z] ∧ ∀ j : Nat, look (pickT d (i : Int) l ge out).1 j = look (setI ge0 (i : Int) z) j
  | [], ge, ge0, out, hg, h => by obtain ⟨z, hz, _⟩ := h; cases hz
  | z :: l, ge, ge0, out, hg, h => by
    have hs : ∀ z : Int, ∀ j : Nat, look (setI ge (i : Int) z) j = look (setI ge0 (i : Int) z) j := fun z j => by
      rw [look_set, look_set]
      by_cases hj : (j : Int) = (i : Int)
      · rw [if_pos hj, if_pos hj]
      · rw [if_neg hj, if_neg hj]; exact hg j (by omega)
    simp only [pickT]
    rw [best_look (hs z)]
    by_cases hb : best d hiI (setI ge0 (i : Int) z) = -1
    · rw [if_pos hb]
      obtain ⟨z', hz', hb'⟩ := h
      have hz' : z' ∈ l := by
        rcases List.mem_cons.1 hz' with rfl | h
        · exact absurd hb hb'
        · exact h
      refine pick_good (fun j hj => ?_) ⟨z', hz', hb'⟩
      rw [look_set, if_neg (by omega)]; exact hg j hj
    · rw [if_neg hb]
      exact ⟨z, hb, rfl, hs z⟩
/-- What is found is how a truth begins. -/
theorem seq_good {d : Desk} (hc : d.check = true) (ht : trueB d = true) : ∀ i : Nat, i ≤ d.bs.length → (seqT d i).2.length = i ∧ (∀ j : Nat, look (seqT d i).1 j = (seqT d i).2[j]?) ∧ ∃ l, Tr d l ∧ l.take i = (seqT d i).2
  | 0, _ => by
    obtain ⟨l, hl⟩ := (true_iff hc).1 ht
    exact ⟨rfl, fun j => rfl, l, hl, rfl⟩
  | i + 1, hi => by
    obtain ⟨h1, h2, l, hl, h3⟩ := seq_good hc ht i (by omega)
    have key : ∀ (z : Int) (l' : List Int), Tr d l' → ((∀ (j : Nat) (k : Int), l'[j]? = some k → clash (fun m => look (setI (seqT d i).1 (i : Int) z) m) j k = false) ↔ l'.take (i + 1) = (seqT d i).2 ++ [z]) := by
      intro z l' hl'
      have hlen := hl'.len
      have hlk : ∀ m : Nat, look (setI (seqT d i).1 (i : Int) z) m = ((seqT d i).2 ++ [z])[m]? := fun m => by
        rw [look_set]
        by_cases hm : (m : Int) = (i : Int)
        · have : m = i := by omega
          subst this
          rw [if_pos rfl, List.getElem?_append_right (by omega), h1]; simp
        · rw [if_neg hm, h2]
          by_cases h5 : m < i
          · rw [List.getElem?_append_left (by omega)]
          · rw [List.getElem?_eq_none (by omega), List.getElem?_eq_none (by simp; omega)]
      constructor
      · intro h
        refine List.ext_getElem? fun j => ?_
        by_cases hj : j < i + 1
        · have hjl : j < l'.length := by omega
          have := h j l'[j] (by simp [hjl])
          unfold clash at this
          simp only [hlk] at this
          rw [List.getElem?_take_of_lt hj]
          cases hs : ((seqT d i).2 ++ [z])[j]? with
          | none =>
            have := List.getElem?_eq_none_iff.1 hs
            simp at this; omega
          | some y =>
            rw [hs] at this
            simp only [decide_eq_false_iff_not, ne_eq, Decidable.not_not] at this
            rw [this]; simp [hjl]
        · rw [List.getElem?_eq_none (by simp; omega), List.getElem?_eq_none (by simp; omega)]
      · intro h j k hk
        unfold clash
        simp only [hlk]
        rw [← h]
        by_cases hj : j < i + 1
        · rw [List.getElem?_take_of_lt hj, hk]; simp
        · rw [List.getElem?_eq_none (by simp; omega)]
    have hex : ∃ z ∈ opts d i 0, best d hiI (setI (seqT d i).1 (i : Int) z) ≠ -1 := by
      have hil : i < l.length := by rw [hl.len]; omega
      refine ⟨l[i], ?_, ?_⟩
      · rcases hl.ok i l[i] (by simp [hil]) with h | ⟨n, h, h'⟩
        · exact opts_iff.2 (.inl h)
        · exact opts_iff.2 (.inr ⟨n, h, by rw [fits_fit, h']; simp⟩)
      · rw [best_never hi_better hc]
        exact ⟨l, hl, (key _ l hl).2 (by rw [List.take_add_one, h3]; simp [hil])⟩
    obtain ⟨z, g1, g2, g3⟩ := pick_good (d := d) (out := (seqT d i).2) (fun j _ => rfl) hex
    obtain ⟨l', hl', hcl'⟩ := (best_never hi_better hc _).1 g1
    have g4 := (key z l' hl').1 hcl'
    simp only [seqT]
    refine ⟨by rw [g2]; simp [h1], fun j => ?_, l', hl', by rw [g2]; exact g4⟩
    rw [g3, g2, look_set]
    by_cases hm : (j : Int) = (i : Int)
    · have : j = i := by omega
      subst this
      rw [if_pos rfl, List.getElem?_append_right (by omega), h1]; simp
    · rw [if_neg hm, h2]
      by_cases h5 : j < i
      · rw [List.getElem?_append_left (by omega)]
      · rw [List.getElem?_eq_none (by omega), List.getElem?_eq_none (by simp; omega)]
theorem truthL_Tr {d : Desk} (he : askE d true = 0) : Tr d (truthL d) := by
  have hc := ask_check he
  have ht : trueB d = true := by
    cases h : trueB d
    · simp [askE, hc, h] at he
    · rfl
  obtain ⟨h1, _, l, hl, h3⟩ := seq_good hc ht d.bs.length (Nat.le_refl _)
  rw [truthL, if_pos he, ← h3, ← hl.len, List.take_length]
  exact hl

theorem slice_tkf (l : List Int) : sliceAV 1 (.sl (rowsI l) (tkf l)) none (some (.int .i64 (.ofNat l.length))) (some (.int .i64 (.ofNat l.length))) = some (.sl (rowsI l) .full) := by
  cases l with
  | nil => rfl
  | cons a l =>
    have h : (0 : Int) ≤ (l.length : Int) + 1 := by omega
    simp [sliceAV, rowsI, headFit, bound, optBound, tkf, h]
    exact List.take_of_length_le (by simp)
def ttok (d : Desk) : Tok := if askE d true = 0 then .full else .nil
theorem ttok_pur (d : Desk) : purTok (ttok d) = true := by unfold ttok; split <;> rfl
set_option maxHeartbeats 2000000 in
theorem Truth_ev {n : Nat} (hn : 1000000000000500 ≤ n) (d : Desk) (hd : d.ok) : (evKR Bk Gx fsT n).1 0 19 [d.v] [] ansK = some (.tup [.sl (rowsI (truthL d)) (ttok d), .int .i64 (askE d true)], []) := by
  refine call_open (show fsT.find 19 = some a19 from rfl) (by omega) fun n' B cl rd hn' hB hcl hrd => ?_
  obtain ⟨n2, rfl⟩ : ∃ n2, n' = n2 + 1 := ⟨n' - 1, by omega⟩
  have H63 := asked0_ev (n := n2 + 1) (by omega) d hd
  rw [← hcl] at H63
  by_cases he : askE d true = 0
  · have hck := ask_check he
    have hf := check_fine hck
    have hnb := hf.nb
    rw [show askD d true = d from if_pos he, he] at H63
    rw [show truthL d = (seqT d d.bs.length).2 from if_pos he, show ttok d = .full from if_pos he, he]
    conv => lhs; whnf
    repeat' ((first | refine fnat_pred hB ?_ | refine tok_step hB hd.tp ?_ | refine tok_step hB hd.tb ?_ | refine purs_step hB (by simp [purs, pur, hd.tp, hd.tb]) ?_ | refine pans_step hB H63 ?_ | refine opt2_step hB mkmap_ok ?_ | refine purs_step hB rfl ?_ | refine lt_tt hB (by decide) ?_ | refine lt_ff hB (by decide) ?_ | refine le_tt hB (by decide) ?_ | refine le_ff hB (by decide) ?_ | refine eq_tt hB (by decide) ?_ | refine eq_ff hB (by decide) ?_ | refine fint_wrp hB (by omega) (by omega) ?_ | refine fint_step hB ?_ | refine fbool_tt hB ?_ | refine fbool_ff hB ?_ | refine fbool_split hB (fun _ => ?_) (fun _ => ?_) | refine ftok_step hB ?_ | refine frows_step hB ?_ | refine fstr_step hB ?_ | refine len_map hB ?_ | refine len_step hB ?_ | refine lens_step hB ?_ | refine byte_step hB ?_ | refine drop_step hB rfl ?_ | refine fl_step hB rfl ?_ | refine add_one hB (by first | omega | decide) ?_ | refine opt_step hB rfl ?_ | refine fnat_step hB ?_ | refine ifk_step hB rfl ?_ | refine ifk_step hB (flat_or rfl) ?_ | refine opt2_step hB rfl ?_ | refine obj_raw hB ?_ | refine sob_raw hB ?_ | refine fst_raw hB ?_ | refine optl_raw hB ?_ | refine tok_step hB rfl ?_) <;> conv => lhs; whnf)
    subst hcl hrd
    refine a19_L1_step hB (n2 := n2) (by omega) d hd hck (fun i ge out => i ≤ d.bs.length ∧ (ge, out) = seqT d i) (fun i ge out h => by
      have := seq_len (d := d) i
      rw [← h.2] at this
      have := h.1
      simp only at *; omega) (fun i ge out x' hi h hr => by
      refine ⟨hi, ?_⟩
      rw [pick_runs hr]
      show _ = seqT d (i + 1)
      simp only [seqT]
      rw [← h.2]) _ _ _ _ 0 [] [] (by omega) (by omega) ⟨by omega, rfl⟩ (fun ge out x h => ?_)
    obtain ⟨_, h⟩ := h
    rw [show (seqT d d.bs.length).2 = out by rw [← h]]
    conv => lhs; whnf
    repeat' ((first | refine fnat_pred hB ?_ | refine opt_step hB (slice_tkf _) ?_ | refine purs_step hB rfl ?_ | refine lt_tt hB (by decide) ?_ | refine lt_ff hB (by decide) ?_ | refine le_tt hB (by decide) ?_ | refine le_ff hB (by decide) ?_ | refine eq_tt hB (by decide) ?_ | refine eq_ff hB (by decide) ?_ | refine fint_wrp hB (by omega) (by omega) ?_ | refine fint_step hB ?_ | refine fbool_tt hB ?_ | refine fbool_ff hB ?_ | refine fbool_split hB (fun _ => ?_) (fun _ => ?_) | refine ftok_step hB ?_ | refine frows_step hB ?_ | refine fstr_step hB ?_ | refine len_map hB ?_ | refine len_step hB ?_ | refine lens_step hB ?_ | refine byte_step hB ?_ | refine drop_step hB rfl ?_ | refine fl_step hB rfl ?_ | refine add_one hB (by first | omega | decide) ?_ | refine opt_step hB rfl ?_ | refine fnat_step hB ?_ | refine ifk_step hB rfl ?_ | refine ifk_step hB (flat_or rfl) ?_ | refine opt2_step hB rfl ?_ | refine obj_raw hB ?_ | refine sob_raw hB ?_ | refine fst_raw hB ?_ | refine optl_raw hB ?_ | refine tok_step hB rfl ?_) <;> conv => lhs; whnf)
    all_goals rfl
  · rw [show truthL d = [] from if_neg he, show ttok d = .nil from if_neg he]
    conv => lhs; whnf
    repeat' ((first | refine fnat_pred hB ?_ | refine tok_step hB hd.tp ?_ | refine tok_step hB hd.tb ?_ | refine tok_step hB (askD_ok hd true).tp ?_ | refine tok_step hB (askD_ok hd true).tb ?_ | refine purs_step hB (by simp [purs, pur, hd.tp, hd.tb]) ?_ | refine pans_step hB H63 ?_ | refine eq_ff hB he ?_ | refine purs_step hB rfl ?_ | refine lt_tt hB (by decide) ?_ | refine lt_ff hB (by decide) ?_ | refine le_tt hB (by decide) ?_ | refine le_ff hB (by decide) ?_ | refine eq_tt hB (by decide) ?_ | refine eq_ff hB (by decide) ?_ | refine fint_wrp hB (by omega) (by omega) ?_ | refine fint_step hB ?_ | refine fbool_tt hB ?_ | refine fbool_ff hB ?_ | refine fbool_split hB (fun _ => ?_) (fun _ => ?_) | refine ftok_step hB ?_ | refine frows_step hB ?_ | refine fstr_step hB ?_ | refine len_map hB ?_ | refine len_step hB ?_ | refine lens_step hB ?_ | refine byte_step hB ?_ | refine drop_step hB rfl ?_ | refine fl_step hB rfl ?_ | refine add_one hB (by first | omega | decide) ?_ | refine opt_step hB rfl ?_ | refine fnat_step hB ?_ | refine ifk_step hB rfl ?_ | refine ifk_step hB (flat_or rfl) ?_ | refine opt2_step hB rfl ?_ | refine obj_raw hB ?_ | refine sob_raw hB ?_ | refine fst_raw hB ?_ | refine optl_raw hB ?_ | refine tok_step hB rfl ?_) <;> conv => lhs; whnf)
    all_goals rfl
end Go.Ab.Cl

namespace Go.Ab.Cl
open Go.Ab

theorem er_pur2 (t : Tok) : purTok (eraseTok t) = true := by cases t <;> rfl
theorem strange2_ev {n : Nat} (hn : 2 ≤ n) (d : Desk) (hd : d.ok) (z : Int) : (evKR Bk Gx fsT n).1 0 45 [d.v, .int .i64 z] [] ansK = some ((dS d z).v, []) := by
  refine call_open (show fsT.find 45 = some a45 from rfl) (by omega) fun n' B cl rd hn' hB hcl hrd => ?_
  conv => lhs; whnf
  repeat' ((first | refine fnat_pred hB ?_ | refine tok_step hB hd.tp ?_ | refine tok_step hB hd.tb ?_ | refine purs_step hB rfl ?_ | refine lt_tt hB (by decide) ?_ | refine lt_ff hB (by decide) ?_ | refine le_tt hB (by decide) ?_ | refine le_ff hB (by decide) ?_ | refine eq_tt hB (by decide) ?_ | refine eq_ff hB (by decide) ?_ | refine fint_wrp hB (by omega) (by omega) ?_ | refine fint_step hB ?_ | refine fbool_tt hB ?_ | refine fbool_ff hB ?_ | refine fbool_split hB (fun _ => ?_) (fun _ => ?_) | refine ftok_step hB ?_ | refine frows_step hB ?_ | refine fstr_step hB ?_ | refine len_map hB ?_ | refine len_step hB ?_ | refine lens_step hB ?_ | refine byte_step hB ?_ | refine drop_step hB rfl ?_ | refine fl_step hB rfl ?_ | refine add_one hB (by first | omega | decide) ?_ | refine opt_step hB rfl ?_ | refine fnat_step hB ?_ | refine ifk_step hB rfl ?_ | refine ifk_step hB (flat_or rfl) ?_ | refine opt2_step hB rfl ?_ | refine obj_raw hB ?_ | refine sob_raw hB ?_ | refine fst_raw hB ?_ | refine optl_raw hB ?_ | refine tok_step hB rfl ?_) <;> conv => lhs; whnf)
  all_goals rfl
/-! ### Climbs -/
def climbsZ : Int → List Int → Int → Bool
  | _, [], _ => true
  | b, x :: l, P => decide (b < x) && decide (x < P) && climbsZ x l P
theorem a37_L1_step {B : Bnd} (hB : B = Bk) {cl : CallK} {rd : RoundK} (l : List Int) (hl : l.length ≤ 1000000000000000) (P : Int) {t : Tok} (ht : purTok t = true) (n : Nat) (k : Ex → Env → St → Ans) (r : Ans) :
    ∀ (j i : Nat) (b : Int), l.length < i + j → i ≤ l.length →
    (climbsZ b (l.drop i) P = true → ∀ e, k (.exit 0) e [⟨[], []⟩] = r) →
    (climbsZ b (l.drop i) P = false → ∀ x y e, k .ret ((0, x) :: (1, y) :: (4, .bool false) :: e) [⟨[], []⟩] = r) →
    B.loop (evCK B a37_L1) [0, 1, 4, 5, 6] n j cl rd Gx 0 1 [(0, .sl (rowsI l) t), (1, .int .i64 P), (4, .bool false), (5, .int .i64 b), (6, .int .i64 (.ofNat i))] [⟨[], []⟩] k = r := by
  intro j
  induction j with
  | zero => intro i b h1 h2; omega
  | succ j ih =>
    intro i b h1 h2 k1 k2
    refine loop_succ hB ?_
    conv => lhs; whnf
    (repeat' ((first | refine fnat_step hB ?_ | refine obj_raw hB ?_ | refine drop_step hB rfl ?_ | refine len_map hB ?_) <;> conv => lhs; whnf))
    refine lt_nat hB (fun h => ?_) (fun h => ?_) <;> conv => lhs; whnf
    · have hx := row_get h
      have hdl : l.drop i = l[i] :: l.drop (i + 1) := List.drop_eq_getElem_cons h
      rw [hdl] at k1 k2
      generalize l[i] = x at hx k1 k2
      have e : climbsZ b (x :: l.drop (i + 1)) P = (decide (b < x) && decide (x < P) && climbsZ x (l.drop (i + 1)) P) := rfl
      rw [e] at k1 k2
      by_cases h3 : x ≤ b
      · rw [decide_eq_false (by omega)] at k2
        repeat' ((first | refine fnat_pred hB ?_ | refine tok_step hB ht ?_ | refine natOf_step hB (m := i) rfl ?_ | refine nth_step hB hx ?_ | refine le_tt hB h3 ?_ | refine purs_step hB rfl ?_ | refine lt_tt hB (by decide) ?_ | refine lt_ff hB (by decide) ?_ | refine le_tt hB (by decide) ?_ | refine le_ff hB (by decide) ?_ | refine eq_tt hB (by decide) ?_ | refine eq_ff hB (by decide) ?_ | refine fint_wrp hB (by omega) (by omega) ?_ | refine fint_step hB ?_ | refine fbool_tt hB ?_ | refine fbool_ff hB ?_ | refine fbool_split hB (fun _ => ?_) (fun _ => ?_) | refine ftok_step hB ?_ | refine frows_step hB ?_ | refine fstr_step hB ?_ | refine len_map hB ?_ | refine len_step hB ?_ | refine lens_step hB ?_ | refine byte_step hB ?_ | refine drop_step hB rfl ?_ | refine fl_step hB rfl ?_ | refine add_one hB (by first | omega | decide) ?_ | refine opt_step hB rfl ?_ | refine fnat_step hB ?_ | refine ifk_step hB rfl ?_ | refine ifk_step hB (flat_or rfl) ?_ | refine opt2_step hB rfl ?_ | refine obj_raw hB ?_ | refine sob_raw hB ?_ | refine fst_raw hB ?_ | refine optl_raw hB ?_ | refine tok_step hB rfl ?_) <;> conv => lhs; whnf)
        exact k2 rfl _ _ _
      · by_cases h4 : P ≤ x
        · rw [decide_eq_false (p := x < P) (by omega), Bool.and_false] at k2
          repeat' ((first | refine fnat_pred hB ?_ | refine tok_step hB ht ?_ | refine natOf_step hB (m := i) rfl ?_ | refine nth_step hB hx ?_ | refine le_ff hB h3 ?_ | refine le_tt hB h4 ?_ | refine purs_step hB rfl ?_ | refine lt_tt hB (by decide) ?_ | refine lt_ff hB (by decide) ?_ | refine le_tt hB (by decide) ?_ | refine le_ff hB (by decide) ?_ | refine eq_tt hB (by decide) ?_ | refine eq_ff hB (by decide) ?_ | refine fint_wrp hB (by omega) (by omega) ?_ | refine fint_step hB ?_ | refine fbool_tt hB ?_ | refine fbool_ff hB ?_ | refine fbool_split hB (fun _ => ?_) (fun _ => ?_) | refine ftok_step hB ?_ | refine frows_step hB ?_ | refine fstr_step hB ?_ | refine len_map hB ?_ | refine len_step hB ?_ | refine lens_step hB ?_ | refine byte_step hB ?_ | refine drop_step hB rfl ?_ | refine fl_step hB rfl ?_ | refine add_one hB (by first | omega | decide) ?_ | refine opt_step hB rfl ?_ | refine fnat_step hB ?_ | refine ifk_step hB rfl ?_ | refine ifk_step hB (flat_or rfl) ?_ | refine opt2_step hB rfl ?_ | refine obj_raw hB ?_ | refine sob_raw hB ?_ | refine fst_raw hB ?_ | refine optl_raw hB ?_ | refine tok_step hB rfl ?_) <;> conv => lhs; whnf)
          exact k2 rfl _ _ _
        · rw [decide_eq_true (p := b < x) (by omega), decide_eq_true (p := x < P) (by omega)] at k1 k2
          repeat' ((first | refine fnat_pred hB ?_ | refine tok_step hB ht ?_ | refine natOf_step hB (m := i) rfl ?_ | refine nth_step hB hx ?_ | refine le_ff hB h3 ?_ | refine le_ff hB h4 ?_ | refine purs_step hB rfl ?_ | refine lt_tt hB (by decide) ?_ | refine lt_ff hB (by decide) ?_ | refine le_tt hB (by decide) ?_ | refine le_ff hB (by decide) ?_ | refine eq_tt hB (by decide) ?_ | refine eq_ff hB (by decide) ?_ | refine fint_wrp hB (by omega) (by omega) ?_ | refine fint_step hB ?_ | refine fbool_tt hB ?_ | refine fbool_ff hB ?_ | refine fbool_split hB (fun _ => ?_) (fun _ => ?_) | refine ftok_step hB ?_ | refine frows_step hB ?_ | refine fstr_step hB ?_ | refine len_map hB ?_ | refine len_step hB ?_ | refine lens_step hB ?_ | refine byte_step hB ?_ | refine drop_step hB rfl ?_ | refine fl_step hB rfl ?_ | refine add_one hB (by first | omega | decide) ?_ | refine opt_step hB rfl ?_ | refine fnat_step hB ?_ | refine ifk_step hB rfl ?_ | refine ifk_step hB (flat_or rfl) ?_ | refine opt2_step hB rfl ?_ | refine obj_raw hB ?_ | refine sob_raw hB ?_ | refine fst_raw hB ?_ | refine optl_raw hB ?_ | refine tok_step hB rfl ?_) <;> conv => lhs; whnf)
          rw [clampTok_pur ht]
          exact ih (i + 1) x (by omega) (by omega) k1 k2
    · repeat' ((first | refine fnat_pred hB ?_ | refine tok_step hB ht ?_ | refine purs_step hB rfl ?_ | refine lt_tt hB (by decide) ?_ | refine lt_ff hB (by decide) ?_ | refine le_tt hB (by decide) ?_ | refine le_ff hB (by decide) ?_ | refine eq_tt hB (by decide) ?_ | refine eq_ff hB (by decide) ?_ | refine fint_wrp hB (by omega) (by omega) ?_ | refine fint_step hB ?_ | refine fbool_tt hB ?_ | refine fbool_ff hB ?_ | refine fbool_split hB (fun _ => ?_) (fun _ => ?_) | refine ftok_step hB ?_ | refine frows_step hB ?_ | refine fstr_step hB ?_ | refine len_map hB ?_ | refine len_step hB ?_ | refine lens_step hB ?_ | refine byte_step hB ?_ | refine drop_step hB rfl ?_ | refine fl_step hB rfl ?_ | refine add_one hB (by first | omega | decide) ?_ | refine opt_step hB rfl ?_ | refine fnat_step hB ?_ | refine ifk_step hB rfl ?_ | refine ifk_step hB (flat_or rfl) ?_ | refine opt2_step hB rfl ?_ | refine obj_raw hB ?_ | refine sob_raw hB ?_ | refine fst_raw hB ?_ | refine optl_raw hB ?_ | refine tok_step hB rfl ?_) <;> conv => lhs; whnf)
      rw [List.drop_of_length_le (by omega)] at k1
      exact k1 rfl _
theorem Climbs_ev {n : Nat} (hn : 1000000000000002 ≤ n) (l : List Int) (hl : l.length ≤ 1000000000000000) (P : Int) {t : Tok} (ht : purTok t = true) :
    (evKR Bk Gx fsT n).1 0 37 [.sl (rowsI l) t, .int .i64 P] [] ansK = some (.bool (climbsZ (-1) l P), []) := by
  refine call_open (show fsT.find 37 = some a37 from rfl) (by omega) fun n' B cl rd hn' hB hcl hrd => ?_
  conv => lhs; whnf
  repeat' ((first | refine fnat_pred hB ?_ | refine tok_step hB ht ?_ | refine a37_L1_step hB l hl P (purTok_clamp ht) _ _ _ _ 0 (-1) (by omega) (by omega) (fun e en => ?_) (fun e x y en => ?_) | refine purs_step hB rfl ?_ | refine lt_tt hB (by decide) ?_ | refine lt_ff hB (by decide) ?_ | refine le_tt hB (by decide) ?_ | refine le_ff hB (by decide) ?_ | refine eq_tt hB (by decide) ?_ | refine eq_ff hB (by decide) ?_ | refine fint_wrp hB (by omega) (by omega) ?_ | refine fint_step hB ?_ | refine fbool_tt hB ?_ | refine fbool_ff hB ?_ | refine fbool_split hB (fun _ => ?_) (fun _ => ?_) | refine ftok_step hB ?_ | refine frows_step hB ?_ | refine fstr_step hB ?_ | refine len_map hB ?_ | refine len_step hB ?_ | refine lens_step hB ?_ | refine byte_step hB ?_ | refine drop_step hB rfl ?_ | refine fl_step hB rfl ?_ | refine add_one hB (by first | omega | decide) ?_ | refine opt_step hB rfl ?_ | refine fnat_step hB ?_ | refine ifk_step hB rfl ?_ | refine ifk_step hB (flat_or rfl) ?_ | refine opt2_step hB rfl ?_ | refine obj_raw hB ?_ | refine sob_raw hB ?_ | refine fst_raw hB ?_ | refine optl_raw hB ?_ | refine tok_step hB rfl ?_) <;> conv => lhs; whnf)
  · rw [List.drop_zero] at e
    rw [e]
  · rw [List.drop_zero] at e
    rw [e]
theorem asc_climbs {d : Desk} : ∀ {l : List Nat} {j : Nat} {b : Int}, Asc d j l → b < (j : Int) → climbsZ b (nats l) (d.bs.length : Int) = true
  | [], _, _, _, _ => rfl
  | k :: l, j, b, ⟨h1, h2, _, h3⟩, hb => by
    show (decide (b < (k : Int)) && decide ((k : Int) < (d.bs.length : Int)) && climbsZ (k : Int) (nats l) (d.bs.length : Int)) = true
    rw [asc_climbs h3 (by omega), decide_eq_true (by omega), decide_eq_true (by omega)]
    rfl

/-! ### a desk without some stamps -/
theorem appo_bf {s : St} {D : Nat} (hD : D = s.length) {f : Fr} {bs : List Box} {t : Tok} (hne : bs ≠ []) (hl : bs.length ≤ 1000) : appoAt (f :: s) 5 48 (.sl [] .full) (.sl (bs.map Box.c) t) = some (.os D f.objs.length 0 bs.length 5, ⟨f.objs ++ [.cells (bflat bs)], f.toks⟩ :: s) := by
  subst hD
  obtain ⟨os, tk⟩ := f
  have h2 : bs.length * 48 ≤ 140737488355328 := by omega
  have h1 : headFit 5 (bs.map Box.c) = true := by cases bs <;> rfl
  simp [appoAt, rowsAt, newObj, h1, h2, hne, show headFit 5 [] = true from rfl, bflat]
theorem a47_L1_step {B : Bnd} (hB : B = Bk) {cl : CallK} {rd : RoundK} (d : Desk) (hd : d.ok) (l : List Nat) (hll : l.length ≤ 1000) (hl : ∀ x ∈ l, x < d.bs.length) {t : Tok} (ht : purTok t = true) (o0 o1 : AObj) (n : Nat) (k : Ex → Env → St → Ans) (r : Ans) :
    ∀ (j i : Nat), l.length < i + j → i ≤ l.length →
    (∀ x, k (.exit 0) [(1, .sl (rowsI (nats l)) t), (4, .ptr 0 1 0), (5, .ptr 0 2 0), (6, .int .i64 x)] [⟨[o0, o1, .cells (dcB d (.os 0 3 0 d.bs.length 5)), .cells (bflat (unsB d.bs (inL l)))], []⟩] = r) →
    B.loop (evCK B a47_L1) [1, 4, 5, 6] n j cl rd Gx 0 1 [(1, .sl (rowsI (nats l)) t), (4, .ptr 0 1 0), (5, .ptr 0 2 0), (6, .int .i64 (.ofNat i))] [⟨[o0, o1, .cells (dcB d (.os 0 3 0 d.bs.length 5)), .cells (bflat (unsB d.bs (inL (l.take i))))], []⟩] k = r := by
  intro j
  induction j with
  | zero => intro i h1 h2; omega
  | succ j ih =>
    intro i h1 h2 k1
    have hnl : (nats l).length = l.length := by simp [nats]
    refine loop_succ hB ?_
    conv => lhs; whnf
    (repeat' ((first | refine fnat_step hB ?_ | refine obj_raw hB ?_ | refine drop_step hB rfl ?_ | refine len_map hB ?_) <;> conv => lhs; whnf))
    refine lt_nat hB (fun h => ?_) (fun h => ?_) <;> rw [hnl] at h <;> conv => lhs; whnf
    · have hx : (rowsI (nats l))[i]? = some [.int .i64 ((l[i] : Nat) : Int)] := by simp [rowsI, nats, h]
      have htk : l.take (i + 1) = l.take i ++ [l[i]] := by rw [List.take_succ_eq_append_getElem h]
      have hlt := hl l[i] (List.getElem_mem _)
      generalize l[i] = y at hx htk hlt
      obtain ⟨b, hb⟩ : ∃ b, (unsB d.bs (inL (l.take i)))[y]? = some b := ⟨(unsB d.bs (inL (l.take i)))[y]'(by rw [unsB_len]; exact hlt), by simp⟩
      have hroom : y + 1 ≤ d.bs.length := hlt
      have hroom2 : y < (unsB d.bs (inL (l.take i))).length := by rw [unsB_len]; exact hlt
      repeat' ((first | refine fnat_pred hB ?_ | refine tok_step hB ht ?_ | refine natOf_step hB (m := i) rfl ?_ | refine nth_step hB hx ?_ | refine natOf_step hB (m := y) rfl ?_ | refine ifk_step hB (Nat.ble_eq_true_of_le hroom) ?_ | refine ifk_step hB (bflat_room hroom2) ?_ | refine fl_step hB ((bflat_put hb false).trans (congrArg bflat (uns_set hb))) ?_ | refine purs_step hB rfl ?_ | refine lt_tt hB (by decide) ?_ | refine lt_ff hB (by decide) ?_ | refine le_tt hB (by decide) ?_ | refine le_ff hB (by decide) ?_ | refine eq_tt hB (by decide) ?_ | refine eq_ff hB (by decide) ?_ | refine fint_wrp hB (by omega) (by omega) ?_ | refine fint_step hB ?_ | refine fbool_tt hB ?_ | refine fbool_ff hB ?_ | refine fbool_split hB (fun _ => ?_) (fun _ => ?_) | refine ftok_step hB ?_ | refine frows_step hB ?_ | refine fstr_step hB ?_ | refine len_map hB ?_ | refine len_step hB ?_ | refine lens_step hB ?_ | refine byte_step hB ?_ | refine drop_step hB rfl ?_ | refine fl_step hB rfl ?_ | refine add_one hB (by first | omega | decide) ?_ | refine opt_step hB rfl ?_ | refine fnat_step hB ?_ | refine ifk_step hB rfl ?_ | refine ifk_step hB (flat_or rfl) ?_ | refine opt2_step hB rfl ?_ | refine obj_raw hB ?_ | refine sob_raw hB ?_ | refine fst_raw hB ?_ | refine optl_raw hB ?_ | refine tok_step hB rfl ?_) <;> conv => lhs; whnf)
      rw [clampTok_pur ht, ← htk]
      exact ih (i + 1) (by omega) (by omega) k1
    · repeat' ((first | refine fnat_pred hB ?_ | refine tok_step hB ht ?_ | refine purs_step hB rfl ?_ | refine lt_tt hB (by decide) ?_ | refine lt_ff hB (by decide) ?_ | refine le_tt hB (by decide) ?_ | refine le_ff hB (by decide) ?_ | refine eq_tt hB (by decide) ?_ | refine eq_ff hB (by decide) ?_ | refine fint_wrp hB (by omega) (by omega) ?_ | refine fint_step hB ?_ | refine fbool_tt hB ?_ | refine fbool_ff hB ?_ | refine fbool_split hB (fun _ => ?_) (fun _ => ?_) | refine ftok_step hB ?_ | refine frows_step hB ?_ | refine fstr_step hB ?_ | refine len_map hB ?_ | refine len_step hB ?_ | refine lens_step hB ?_ | refine byte_step hB ?_ | refine drop_step hB rfl ?_ | refine fl_step hB rfl ?_ | refine add_one hB (by first | omega | decide) ?_ | refine opt_step hB rfl ?_ | refine fnat_step hB ?_ | refine ifk_step hB rfl ?_ | refine ifk_step hB (flat_or rfl) ?_ | refine opt2_step hB rfl ?_ | refine obj_raw hB ?_ | refine sob_raw hB ?_ | refine fst_raw hB ?_ | refine optl_raw hB ?_ | refine tok_step hB rfl ?_) <;> conv => lhs; whnf)
      rw [clampTok_pur ht, List.take_of_length_le (by omega)]
      exact k1 _
theorem a47_L1_nil {B : Bnd} (hB : B = Bk) {cl : CallK} {rd : RoundK} {t : Tok} (ht : purTok t = true) (o : List AObj) (n : Nat) (k : Ex → Env → St → Ans) (r : Ans) (j : Nat) (hj : 1 ≤ j)
    (k1 : k (.exit 0) [(1, .sl (rowsI []) t), (4, .ptr 0 1 0), (5, .ptr 0 2 0), (6, .int .i64 0)] [⟨o, []⟩] = r) :
    B.loop (evCK B a47_L1) [1, 4, 5, 6] n j cl rd Gx 0 1 [(1, .sl (rowsI []) t), (4, .ptr 0 1 0), (5, .ptr 0 2 0), (6, .int .i64 0)] [⟨o, []⟩] k = r := by
  obtain ⟨j, rfl⟩ : ∃ j', j = j' + 1 := ⟨j - 1, by omega⟩
  refine loop_succ hB ?_
  conv => lhs; whnf
  repeat' ((first | refine fnat_pred hB ?_ | refine tok_step hB ht ?_ | refine purs_step hB rfl ?_ | refine lt_tt hB (by decide) ?_ | refine lt_ff hB (by decide) ?_ | refine le_tt hB (by decide) ?_ | refine le_ff hB (by decide) ?_ | refine eq_tt hB (by decide) ?_ | refine eq_ff hB (by decide) ?_ | refine fint_wrp hB (by omega) (by omega) ?_ | refine fint_step hB ?_ | refine fbool_tt hB ?_ | refine fbool_ff hB ?_ | refine fbool_split hB (fun _ => ?_) (fun _ => ?_) | refine ftok_step hB ?_ | refine frows_step hB ?_ | refine fstr_step hB ?_ | refine len_map hB ?_ | refine len_step hB ?_ | refine lens_step hB ?_ | refine byte_step hB ?_ | refine drop_step hB rfl ?_ | refine fl_step hB rfl ?_ | refine add_one hB (by first | omega | decide) ?_ | refine opt_step hB rfl ?_ | refine fnat_step hB ?_ | refine ifk_step hB rfl ?_ | refine ifk_step hB (flat_or rfl) ?_ | refine opt2_step hB rfl ?_ | refine obj_raw hB ?_ | refine sob_raw hB ?_ | refine fst_raw hB ?_ | refine optl_raw hB ?_ | refine tok_step hB rfl ?_) <;> conv => lhs; whnf)
  rw [clampTok_pur ht]
  exact k1
def PlainV (v : AV) : Prop := ∀ (S : St) (D m : Nat), frz S D (m + 1) v = some v
theorem frzs_plain {S : St} {D : Nat} : ∀ (l : List AV) (n : Nat), (∀ v ∈ l, PlainV v) → l.length + 1 ≤ n → frzs S D n l = some l
  | [], n, _, _ => by cases n <;> rfl
  | x :: l, n, h, hn => by
    obtain ⟨n, rfl⟩ : ∃ m, n = m + 2 := ⟨n - 2, by simp at hn; omega⟩
    have ih := frzs_plain (S := S) (D := D) l (n + 1) (fun v hv => h v (List.mem_cons_of_mem _ hv)) (by simp at hn; omega)
    show (frz S D (n + 1) x).bind (fun v' => (frzs S D (n + 1) l).map (v' :: ·)) = _
    rw [ih, h x (List.mem_cons_self ..) S D n]
    rfl
theorem bflat_plain (bs : List Box) : ∀ v ∈ bflat bs, PlainV v := by
  intro v hv
  unfold bflat at hv
  obtain ⟨r, hr, hv⟩ := List.mem_flatten.1 hv
  obtain ⟨b, _, rfl⟩ := List.mem_map.1 hr
  simp only [Box.c, List.mem_cons, List.not_mem_nil, or_false] at hv
  rcases hv with rfl | rfl | rfl | rfl | rfl <;> exact fun _ _ _ => rfl
theorem frz_bx {o : List AObj} {bs : List Box} (ho : getO o 3 = some (.cells (bflat bs))) (hl : bs.length ≤ 100) {nn : Nat} (hn : nn = bs.length) (m : Nat) (hm : 600 ≤ m) : frz [⟨o, []⟩] 0 (m + 1) (.os 0 3 0 nn 5) = some (.sl (bs.map Box.c) .any) := by
  subst hn
  have h1 : ¬ 0 < 0 := by omega
  have h2 : getObj [⟨o, []⟩] 0 3 = some (.cells (bflat bs)) := (getObj_top rfl).trans ho
  have h3 : (bflat bs).take (bs.length * 5) = bflat bs := List.take_of_length_le (by rw [bflat_len]; exact Nat.le_refl _)
  have h4 : bs.length * 5 ≤ (bflat bs).length := by rw [bflat_len]; exact Nat.le_refl _
  have h5 : purs (bflat bs) = true := purs_flatten _ fun r hr => (box_pur r hr).2
  have h6 : rowsOf 5 bs.length (bflat bs) = bs.map Box.c := by
    have := rowsOf_flat (e := 5) (bs.map Box.c) box_len
    rwa [List.length_map] at this
  simp only [frz, if_neg h1, h2, Nat.zero_add, List.drop_zero, h3, frzs_plain _ m (bflat_plain bs) (by rw [bflat_len]; omega), Option.bind_some, h5, h6]
  simp [h4]
theorem frz_dk {o : List AObj} {d : Desk} (hd : d.ok) {bs : List Box} (ho : getO o 3 = some (.cells (bflat bs))) (hl : bs.length ≤ 100) {nn : Nat} (hn : nn = bs.length) :
    frz [⟨o, []⟩] 0 1000 (.agg (dcB d (.os 0 3 0 nn 5))) = some (.agg (dcB d (.sl (bs.map Box.c) .any))) := by
  have h := frz_bx ho hl hn 992 (by omega)
  show ((some (AV.int .i64 d.lo)).bind fun v' => ((some (AV.int .i64 d.hi)).bind fun v' => ((some (AV.int .i64 d.wear)).bind fun v' => ((some (AV.int .i64 d.strange)).bind fun v' => ((some (AV.sl (d.ps.map Parcel.c) (eraseTok d.tp))).bind fun v' => ((frz [⟨o, []⟩] 0 (992 + 1) (.os 0 3 0 nn 5)).bind fun v' => (some []).map (v' :: ·)).map (v' :: ·)).map (v' :: ·)).map (v' :: ·)).map (v' :: ·)).map (v' :: ·)).map AV.agg = _
  rw [h, eraseTok_pur hd.tp]
  rfl
theorem unstamped_ev {n : Nat} (hn : 1000000000000002 ≤ n) (d : Desk) (hd : d.ok) (hnb : d.bs.length ≤ 6) (l : List Nat) (hll : l.length ≤ 1000) (hl : ∀ x ∈ l, x < d.bs.length) {t : Tok} (ht : purTok t = true) :
    ∃ tb, purTok tb = true ∧ (evKR Bk Gx fsT n).1 0 47 [d.v, .sl (rowsI (nats l)) t] [] ansK = some ((unS d (inL l) tb).v, []) := by
  by_cases hb0 : d.bs = []
  · have hl0 : l = [] := by
      cases l with
      | nil => rfl
      | cons x l => have := hl x (List.mem_cons_self ..); rw [hb0] at this; simp at this
    subst hl0
    refine ⟨.full, rfl, ?_⟩
    refine call_open (show fsT.find 47 = some a47 from rfl) (by omega) fun n' B cl rd hn' hB hcl hrd => ?_
    have hap : ∀ f : Fr, appoAt [f] 5 48 (.sl [] .full) (.sl (d.bs.map Box.c) d.tb) = some (.sl [] .full, [f]) := fun f => by rw [hb0]; rfl
    have e : (unS d (inL []) .full).v = .agg (dcB d (.sl [] .full)) := by
      have : unsB d.bs (inL []) = [] := by rw [hb0]; rfl
      simp [unS, Desk.v, Desk.c, dcB, this]
    rw [e]
    conv => lhs; whnf
    repeat' ((first | refine fnat_pred hB ?_ | refine tok_step hB hd.tp ?_ | refine tok_step hB hd.tb ?_ | refine appo_step hB (hap _) ?_ | refine a47_L1_nil hB (purTok_clamp ht) _ _ _ _ _ (by omega) ?_ | refine purs_step hB rfl ?_ | refine lt_tt hB (by decide) ?_ | refine lt_ff hB (by decide) ?_ | refine le_tt hB (by decide) ?_ | refine le_ff hB (by decide) ?_ | refine eq_tt hB (by decide) ?_ | refine eq_ff hB (by decide) ?_ | refine fint_wrp hB (by omega) (by omega) ?_ | refine fint_step hB ?_ | refine fbool_tt hB ?_ | refine fbool_ff hB ?_ | refine fbool_split hB (fun _ => ?_) (fun _ => ?_) | refine ftok_step hB ?_ | refine frows_step hB ?_ | refine fstr_step hB ?_ | refine len_map hB ?_ | refine len_step hB ?_ | refine lens_step hB ?_ | refine byte_step hB ?_ | refine drop_step hB rfl ?_ | refine fl_step hB rfl ?_ | refine add_one hB (by first | omega | decide) ?_ | refine opt_step hB rfl ?_ | refine fnat_step hB ?_ | refine ifk_step hB rfl ?_ | refine ifk_step hB (flat_or rfl) ?_ | refine opt2_step hB rfl ?_ | refine obj_raw hB ?_ | refine sob_raw hB ?_ | refine fst_raw hB ?_ | refine optl_raw hB ?_ | refine tok_step hB rfl ?_) <;> conv => lhs; whnf)
    all_goals rfl
  · refine ⟨.any, rfl, ?_⟩
    refine call_open (show fsT.find 47 = some a47 from rfl) (by omega) fun n' B cl rd hn' hB hcl hrd => ?_
    have e : (unS d (inL l) .any).v = .agg (dcB d (.sl ((unsB d.bs (inL l)).map Box.c) .any)) := rfl
    have h0 : unsB d.bs (inL (l.take 0)) = d.bs := unsB_none _ fun i _ => rfl
    have hap : ∀ f : Fr, appoAt [f] 5 48 (.sl [] .full) (.sl (d.bs.map Box.c) d.tb) = some (.os 0 f.objs.length 0 d.bs.length 5, [⟨f.objs ++ [.cells (bflat (unsB d.bs (inL (l.take 0))))], f.toks⟩]) := fun f => by
      rw [h0]
      exact appo_bf rfl hb0 (by omega)
    have hlen : d.bs.length = (unsB d.bs (inL l)).length := (unsB_len ..).symm
    rw [e]
    conv => lhs; whnf
    repeat' ((first | refine fnat_pred hB ?_ | refine tok_step hB hd.tp ?_ | refine tok_step hB hd.tb ?_ | refine appo_step hB (hap _) ?_ | refine a47_L1_step hB d hd l hll hl (purTok_clamp ht) _ _ _ _ _ _ 0 (by omega) (by omega) (fun x => ?_) | refine opt_step hB (frz_dk hd (bs := unsB d.bs (inL l)) rfl (by omega) hlen) ?_ | refine purs_step hB rfl ?_ | refine lt_tt hB (by decide) ?_ | refine lt_ff hB (by decide) ?_ | refine le_tt hB (by decide) ?_ | refine le_ff hB (by decide) ?_ | refine eq_tt hB (by decide) ?_ | refine eq_ff hB (by decide) ?_ | refine fint_wrp hB (by omega) (by omega) ?_ | refine fint_step hB ?_ | refine fbool_tt hB ?_ | refine fbool_ff hB ?_ | refine fbool_split hB (fun _ => ?_) (fun _ => ?_) | refine ftok_step hB ?_ | refine frows_step hB ?_ | refine fstr_step hB ?_ | refine len_map hB ?_ | refine len_step hB ?_ | refine lens_step hB ?_ | refine byte_step hB ?_ | refine drop_step hB rfl ?_ | refine fl_step hB rfl ?_ | refine add_one hB (by first | omega | decide) ?_ | refine opt_step hB rfl ?_ | refine fnat_step hB ?_ | refine ifk_step hB rfl ?_ | refine ifk_step hB (flat_or rfl) ?_ | refine opt2_step hB rfl ?_ | refine obj_raw hB ?_ | refine sob_raw hB ?_ | refine fst_raw hB ?_ | refine optl_raw hB ?_ | refine tok_step hB rfl ?_) <;> conv => lhs; whnf)
    all_goals rfl
end Go.Ab.Cl

namespace Go.Ab.Cl
open Go.Ab

def ofN (t n : Nat) : List Nat := (List.range' 0 n).filter fun k => t.testBit k
def betterO (l : List Nat) : Option (List Nat) → Bool
  | none => true
  | some x => lessL l x
def goodS (d : Desk) (t : Nat) : Bool := (ofN t d.bs.length).all (stampB d) && tW d fun i => t.testBit i
def refStep (d : Desk) (b : Option (List Nat)) (t : Nat) : Option (List Nat) := if (goodS d t && betterO (ofN t d.bs.length) b) = true then some (ofN t d.bs.length) else b
def refW (d : Desk) : Option (List Nat) := (List.range' 0 (2 ^ d.bs.length)).foldl (refStep d) none

theorem asc_filter {d : Desk} {f : Nat → Bool} (hs : ∀ k, k < d.bs.length → f k = true → stampB d k = true) : ∀ (c j : Nat), j + c = d.bs.length → Asc d j ((List.range' j c).filter f)
  | 0, _, _ => trivial
  | c + 1, j, h => by
    have ih := asc_filter hs c (j + 1) (by omega)
    rw [List.range'_succ]
    by_cases hf : f j = true
    · rw [List.filter_cons_of_pos hf]
      exact ⟨Nat.le_refl _, by omega, hs j (by omega) hf, ih⟩
    · rw [List.filter_cons_of_neg hf]
      exact ih.weaken (by omega)
theorem mem_ofN {t n k : Nat} : k ∈ ofN t n ↔ k < n ∧ t.testBit k = true := by
  unfold ofN
  simp only [List.mem_filter, List.mem_range']
  constructor
  · rintro ⟨⟨m, h1, rfl⟩, h2⟩; exact ⟨by omega, h2⟩
  · rintro ⟨h1, h2⟩; exact ⟨⟨k, h1, by omega⟩, h2⟩
theorem good_cand {d : Desk} {t : Nat} (h : goodS d t = true) : Cand d (ofN t d.bs.length) := by
  unfold goodS at h
  rw [Bool.and_eq_true, List.all_eq_true] at h
  refine ⟨asc_filter (fun k hk hf => h.1 k (mem_ofN.2 ⟨hk, hf⟩)) _ 0 (by omega), ?_⟩
  rw [← h.2]
  refine tW_congr fun i hi => ?_
  unfold inL
  rw [Bool.eq_iff_iff, decide_eq_true_eq, mem_ofN]
  exact ⟨fun h => h.2, fun h => ⟨hi, h⟩⟩
theorem filter_asc {d : Desk} : ∀ (c j : Nat) {l : List Nat}, j + c = d.bs.length → Asc d j l → (List.range' j c).filter (fun k => decide (k ∈ l)) = l
  | 0, j, l, h, ha => by
    cases l with
    | nil => rfl
    | cons k l => have := ha.1; have := ha.2.1; omega
  | c + 1, j, l, h, ha => by
    rw [List.range'_succ]
    by_cases hj : j ∈ l
    · cases l with
      | nil => cases hj
      | cons k l =>
        obtain ⟨a1, a2, a3, a4⟩ := ha
        have hk : k = j := by
          rcases List.mem_cons.1 hj with h | h
          · exact h.symm
          · have := (Asc.mem a4 j h).1; omega
        subst hk
        rw [List.filter_cons_of_pos (by simp)]
        congr 1
        rw [← filter_asc c (k + 1) (by omega) a4]
        refine List.filter_congr fun x hx => ?_
        simp only [List.mem_range'] at hx
        obtain ⟨m, h1, rfl⟩ := hx
        rw [filter_asc c (k + 1) (by omega) a4, decide_eq_decide, List.mem_cons]
        constructor
        · rintro (h | h)
          · omega
          · exact h
        · exact .inr
    · rw [List.filter_cons_of_neg (by simpa using hj)]
      refine filter_asc (d := d) c (j + 1) (by omega) ?_
      cases l with
      | nil => trivial
      | cons k l =>
        obtain ⟨a1, a2⟩ := ha
        refine ⟨?_, a2⟩
        have : k ≠ j := fun e => hj (by rw [e]; exact List.mem_cons_self ..)
        omega
/-- The set of a list. -/
def setOf (l : List Nat) : Nat := l.foldl (fun t k => t ||| 1 <<< k) 0
theorem setOf_from (l : List Nat) : ∀ (t n : Nat), (l.foldl (fun t k => t ||| 1 <<< k) t).testBit n = (t.testBit n || decide (n ∈ l)) := by
  induction l with
  | nil => intro t n; simp
  | cons k l ih =>
    intro t n
    rw [List.foldl_cons, ih, bit_or, Bool.or_assoc]
    congr 1
    rw [Bool.eq_iff_iff]
    simp
theorem setOf_bit (l : List Nat) (n : Nat) : (setOf l).testBit n = decide (n ∈ l) := by
  unfold setOf
  rw [setOf_from]; simp
theorem cand_good {d : Desk} {l : List Nat} (h : Cand d l) : ∃ t, t < 2 ^ d.bs.length ∧ ofN t d.bs.length = l ∧ goodS d t = true := by
  have hof : ofN (setOf l) d.bs.length = l := by
    have := filter_asc (d := d) d.bs.length 0 (by omega) h.1
    unfold ofN
    simp only [setOf_bit]
    exact this
  refine ⟨setOf l, Nat.lt_pow_two_of_testBit _ fun i hi => ?_, hof, ?_⟩
  · rw [setOf_bit, decide_eq_false_iff_not]
    intro hm
    have := (h.1.mem i hm).2.1
    omega
  · unfold goodS
    rw [Bool.and_eq_true, List.all_eq_true, hof]
    refine ⟨fun x hx => (h.1.mem x hx).2.2, ?_⟩
    rw [← h.2]
    exact tW_congr fun i _ => setOf_bit l i

theorem ref_least (d : Desk) : Least d (refW d) := by
  have key : ∀ (ts : List Nat) (b : Option (List Nat)) (S : List Nat → Prop), ((b = none ∧ ∀ l, ¬ S l) ∨ ∃ l, b = some l ∧ S l ∧ ∀ l', S l' → l = l' ∨ lessL l l' = true) →
      (ts.foldl (refStep d) b = none ∧ ∀ l, ¬ (S l ∨ ∃ t, t ∈ ts ∧ goodS d t = true ∧ ofN t d.bs.length = l)) ∨ ∃ l, ts.foldl (refStep d) b = some l ∧ (S l ∨ ∃ t, t ∈ ts ∧ goodS d t = true ∧ ofN t d.bs.length = l) ∧ ∀ l', (S l' ∨ ∃ t, t ∈ ts ∧ goodS d t = true ∧ ofN t d.bs.length = l') → l = l' ∨ lessL l l' = true := by
    intro ts
    induction ts with
    | nil =>
      intro b S h
      simpa using h
    | cons t ts ih =>
      intro b S h
      have hstep : (refStep d b t = none ∧ ∀ l, ¬ (S l ∨ (goodS d t = true ∧ ofN t d.bs.length = l))) ∨ ∃ l, refStep d b t = some l ∧ (S l ∨ (goodS d t = true ∧ ofN t d.bs.length = l)) ∧ ∀ l', (S l' ∨ (goodS d t = true ∧ ofN t d.bs.length = l')) → l = l' ∨ lessL l l' = true := by
        unfold refStep
        by_cases hg : goodS d t = true
        · rcases h with ⟨rfl, h⟩ | ⟨x, rfl, h1, h2⟩
          · simp only [hg, betterO, Bool.and_true, if_true]
            exact .inr ⟨_, rfl, .inr ⟨trivial, rfl⟩, fun l' hl => hl.elim (fun h' => absurd h' (h l')) fun h' => .inl h'.2⟩
          · simp only [hg, betterO, Bool.true_and]
            by_cases hl : lessL (ofN t d.bs.length) x = true
            · rw [if_pos hl]
              refine .inr ⟨_, rfl, .inr ⟨trivial, rfl⟩, fun l' h' => ?_⟩
              rcases h' with h' | ⟨_, rfl⟩
              · rcases h2 l' h' with rfl | h3
                · exact .inr hl
                · exact .inr (less_trans hl h3)
              · exact .inl rfl
            · rw [if_neg hl]
              refine .inr ⟨_, rfl, .inl h1, fun l' h' => ?_⟩
              rcases h' with h' | ⟨_, rfl⟩
              · exact h2 l' h'
              · rcases less_total x (ofN t d.bs.length) with h3 | h3 | h3
                · exact .inr h3
                · exact .inl h3
                · exact absurd h3 hl
        · have : goodS d t = false := by simpa using hg
          simp only [this, Bool.false_and, Bool.false_eq_true, if_false, false_and, or_false]
          exact h
      rw [List.foldl_cons]
      have := ih (refStep d b t) _ hstep
      have e : ∀ l, ((S l ∨ (goodS d t = true ∧ ofN t d.bs.length = l)) ∨ ∃ t', t' ∈ ts ∧ goodS d t' = true ∧ ofN t' d.bs.length = l) ↔ (S l ∨ ∃ t', t' ∈ t :: ts ∧ goodS d t' = true ∧ ofN t' d.bs.length = l) := by
        intro l
        constructor
        · rintro ((h | h) | ⟨t', h1, h2⟩)
          · exact .inl h
          · exact .inr ⟨t, List.mem_cons_self .., h⟩
          · exact .inr ⟨t', List.mem_cons_of_mem _ h1, h2⟩
        · rintro (h | ⟨t', h1, h2⟩)
          · exact .inl (.inl h)
          · rcases List.mem_cons.1 h1 with rfl | h1
            · exact .inl (.inr h2)
            · exact .inr ⟨t', h1, h2⟩
      simp only [e] at this
      exact this
  have h := key (List.range' 0 (2 ^ d.bs.length)) none (fun _ => False) (.inl ⟨rfl, fun _ h => h⟩)
  have e : ∀ l, (False ∨ ∃ t, t ∈ List.range' 0 (2 ^ d.bs.length) ∧ goodS d t = true ∧ ofN t d.bs.length = l) ↔ Cand d l := by
    intro l
    rw [false_or]
    constructor
    · rintro ⟨t, _, h1, rfl⟩; exact good_cand h1
    · intro hc
      obtain ⟨t, h1, h2, h3⟩ := cand_good hc
      exact ⟨t, by simp only [List.mem_range']; exact ⟨t, h1, by omega⟩, h3, h2⟩
  simp only [e] at h
  exact h
/-- Both say the same. -/
theorem wrong_same (d : Desk) : refW d = wrongV d := least_one (ref_least d) (wrong_least d)
end Go.Ab.Cl

namespace Go.Ab.Cl
open Go.Ab

theorem ask_t {d : Desk} (hc : d.check = true) (ht : trueB d = true) : askE d true = 0 := by simp [askE, hc, ht]
theorem ask_f {d : Desk} (hc : d.check = true) (ht : trueB d = false) : askE d true = 92 := by simp [askE, hc, ht]
theorem tW_nil {d : Desk} (hc : d.check = true) : tW d (inL []) = trueB d := by
  rw [← tW_tok hc (inL []) d.tb]
  have : unS d (inL []) d.tb = d := by
    unfold unS
    rw [unsB_none d.bs (f := inL []) fun i _ => rfl]
  rw [this]
theorem wrong_t {d : Desk} (hc : d.check = true) (ht : trueB d = true) : wrongV d = some [] := by
  have hcand : Cand d [] := ⟨trivial, by rw [tW_nil hc, ht]⟩
  rcases wrong_least d with ⟨_, h⟩ | ⟨l, h, h1, h2⟩
  · exact absurd hcand (h [])
  · rcases h2 [] hcand with rfl | h3
    · exact h
    · rw [less_iff] at h3
      rcases h3 with h3 | ⟨h3, h4⟩
      · simp at h3
      · obtain rfl := List.length_eq_zero_iff.1 h3
        exact h
theorem wrong_f {d : Desk} (hc : d.check = true) (ht : trueB d = false) : wrongV d ≠ some [] := fun h => by
  rcases wrong_least d with ⟨h1, _⟩ | ⟨l, h1, h2, _⟩
  · rw [h1] at h; cases h
  · rw [h1] at h
    cases h
    have := h2.2
    rw [tW_nil hc, ht] at this
    cases this
theorem wrong_cand {d : Desk} {l : List Nat} (h : wrongV d = some l) : Cand d l ∧ ∀ l', Cand d l' → l = l' ∨ lessL l l' = true := by
  rcases wrong_least d with ⟨h1, _⟩ | ⟨l2, h1, h2, h3⟩
  · rw [h1] at h; cases h
  · rw [h1] at h
    cases h
    exact ⟨h2, h3⟩
theorem wrong_no {d : Desk} (h : wrongV d = none) (l : List Nat) : ¬ Cand d l := by
  rcases wrong_least d with ⟨_, h2⟩ | ⟨l2, h1, _⟩
  · exact h2 l
  · rw [h1] at h; cases h

theorem dS_mono {d : Desk} (hc : d.check = true) {s s' : Int} (h0 : 0 ≤ s) (hs : s ≤ s') (h6 : s' ≤ 6) (h : trueB (dS d s) = true) : trueB (dS d s') = true := by
  obtain ⟨l, hl⟩ := (true_iff (dS_check hc h0 (by omega))).1 h
  refine (true_iff (dS_check hc (by omega) h6)).2 ⟨l, hl.len, hl.ok, hl.inj, ?_⟩
  have := hl.few
  show _ ≤ s'
  have this : ((l.count (-1) : Nat) : Int) ≤ s := this
  omega
theorem few_spec {d : Desk} (hc : d.check = true) : (∃ n : Nat, n ≤ 6 ∧ fewR d = ((n : Int), 0) ∧ trueB (dS d (n : Int)) = true ∧ ∀ m : Nat, m < n → trueB (dS d (m : Int)) = false) ∨ (fewR d = (0, 4) ∧ ∀ m : Nat, m ≤ 6 → trueB (dS d (m : Int)) = false) := by
  unfold fewR
  rw [if_pos hc]
  cases h : (List.range 7).find? (fun n : Nat => trueB (dS d (n : Int))) with
  | none =>
    refine .inr ⟨rfl, fun m hm => ?_⟩
    have := List.find?_eq_none.1 h m (by simp; omega)
    simpa using this
  | some n =>
    refine .inl ⟨n, ?_, rfl, ?_, fun m hm => ?_⟩
    · have := List.mem_of_find?_eq_some h
      simp at this; omega
    · have := List.find?_some (p := fun n : Nat => trueB (dS d (n : Int))) h
      exact this
    · rw [List.find?_range_eq_some] at h
      have := h.2.2 m hm
      simpa using this
theorem dS_self (d : Desk) : dS d d.strange = d := rfl
theorem few_true {d : Desk} (hc : d.check = true) {n : Nat} (hn : n ≤ 6) (h1 : trueB (dS d (n : Int)) = true) (h2 : ∀ m : Nat, m < n → trueB (dS d (m : Int)) = false) : trueB d = true ↔ (n : Int) ≤ d.strange := by
  have hs := check_strange hc
  constructor
  · intro h
    refine Decidable.byContradiction fun hlt => ?_
    have := h2 d.strange.toNat (by omega)
    rw [show ((d.strange.toNat : Nat) : Int) = d.strange by omega, dS_self, h] at this
    cases this
  · intro h
    have := dS_mono hc (s := (n : Int)) (s' := d.strange) (by omega) h (by omega) h1
    rwa [dS_self] at this
theorem few_none {d : Desk} (hc : d.check = true) (h : ∀ m : Nat, m ≤ 6 → trueB (dS d (m : Int)) = false) : trueB d = false := by
  have hs := check_strange hc
  have := h d.strange.toNat (by omega)
  rwa [show ((d.strange.toNat : Nat) : Int) = d.strange by omega, dS_self] at this

/-- Those that are chosen. -/
def sel (d : Desk) (f : Nat → Bool) (j : Nat) : List Nat := (List.range' j (d.bs.length - j)).filter f
theorem sel_end {d : Desk} {f : Nat → Bool} {j : Nat} (h : d.bs.length ≤ j) : sel d f j = [] := by
  unfold sel
  rw [Nat.sub_eq_zero_of_le h]; rfl
theorem sel_yes {d : Desk} {f : Nat → Bool} {j : Nat} (h : j < d.bs.length) (hf : f j = true) : sel d f j = j :: sel d f (j + 1) := by
  unfold sel
  rw [show d.bs.length - j = (d.bs.length - (j + 1)) + 1 by omega, List.range'_succ, List.filter_cons_of_pos hf]
theorem sel_no {d : Desk} {f : Nat → Bool} {j : Nat} (h : j < d.bs.length) (hf : f j = false) : sel d f j = sel d f (j + 1) := by
  unfold sel
  rw [show d.bs.length - j = (d.bs.length - (j + 1)) + 1 by omega, List.range'_succ, List.filter_cons_of_neg (by rw [hf]; exact Bool.false_ne_true)]
theorem sel_asc {d : Desk} {f : Nat → Bool} (h : ∀ k, k < d.bs.length → f k = true → stampB d k = true) : Asc d 0 (sel d f 0) := asc_filter h _ 0 (by omega)
theorem sel_mem {d : Desk} {f : Nat → Bool} {x : Nat} (h : x ∈ sel d f 0) : x < d.bs.length := by
  unfold sel at h
  simp only [List.mem_filter, List.mem_range'] at h
  obtain ⟨⟨m, h1, rfl⟩, _⟩ := h
  omega
theorem sel_len {d : Desk} (hnb : d.bs.length ≤ 6) (f : Nat → Bool) (j : Nat) : (sel d f j).length ≤ 100 := by
  unfold sel
  refine Nat.le_trans (List.length_filter_le _ _) ?_
  simp; omega
end Go.Ab.Cl
