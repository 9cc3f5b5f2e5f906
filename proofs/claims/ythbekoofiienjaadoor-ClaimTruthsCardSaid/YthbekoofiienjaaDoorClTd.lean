/-
  The claims: Truth: the boxes, one after the other.
-/
import Derived.Test.YthbekoofiienjaaDoorClZ
import Derived.Test.YthbekoofiienjaaDoorClT
import Derived.Test.YthbekoofiienjaaDoorClU
import Derived.Test.YthbekoofiienjaaDoorClFc
import Derived.Test.YthbekoofiienjaaDoorWk
namespace Go.Ab
theorem getTok_sub {f : Fr} {s : St} {l p : Nat} (h : l < s.length) : getTok (f :: s) l p = getTok s l p := by
  unfold getTok
  show (match (if l = s.length then some f else getFr s l) with | some f => tokGet f.toks p | none => (0, 0)) = _
  rw [if_neg (by omega)]
  rfl
theorem setTok_sub {f : Fr} {s : St} {l p : Nat} {x : Nat × Nat} (h : l < s.length) : setTok (f :: s) l p x = f :: setTok s l p x := by
  show (if l = s.length then _ else f :: modFr _ s l) = _
  rw [if_neg (by omega)]; rfl
theorem getTok_over {fr : List Fr} {s : St} {l p : Nat} (h : l < s.length) : getTok (fr ++ s) l p = getTok s l p := by
  induction fr with
  | nil => rfl
  | cons f fr ih => rw [List.cons_append, getTok_sub (by simp; omega), ih]
theorem setTok_over {fr : List Fr} {s : St} {l p : Nat} {x : Nat × Nat} (h : l < s.length) : setTok (fr ++ s) l p x = fr ++ setTok s l p x := by
  induction fr with
  | nil => rfl
  | cons f fr ih => rw [List.cons_append, setTok_sub (by simp; omega), ih]; rfl
end Go.Ab
namespace Go.Ab.Cl
open Go.Ab

def setI : List (Int × Int) → Int → Int → List (Int × Int)
  | [], i, k => [(i, k)]
  | (a, b) :: l, i, k => if a = i then (i, k) :: l else (a, b) :: setI l i k
theorem setI_ok (ge : List (Int × Int)) (i k : Int) : setE (.s .int) (.int .i64 i) (.int .i64 k) (intsE ge) = some (intsE (setI ge i k)) := by
  induction ge with
  | nil => rfl
  | cons p ge ih =>
    obtain ⟨a, b⟩ := p
    show (eqK (.s .int) (.int .i64 i) (.int .i64 a)).bind _ = _
    have e : eqK (.s .int) (.int .i64 i) (.int .i64 a) = some (i == a) := by simp [eqK, eqS]
    rw [e]
    simp only [Option.bind_some, setI]
    by_cases h : a = i
    · subst h; simp [intsE]
    · have h2 : (i == a) = false := by simpa using fun e => h e.symm
      rw [h2, if_neg h]
      simp only [Bool.false_eq_true, if_false]
      rw [show setE (.s .int) (.int .i64 i) (.int .i64 k) (ge.map fun p => (.int .i64 p.1, .int .i64 p.2)) = _ from ih]
      rfl
theorem look_set (ge : List (Int × Int)) (i k j : Int) : look (setI ge i k) j = if j = i then some k else look ge j := by
  induction ge with
  | nil =>
    unfold look setI
    by_cases h : j = i
    · subst h; simp
    · have h2 : (i == j) = false := by simpa using fun e => h e.symm
      simp [List.find?, h2, h]
  | cons p ge ih =>
    obtain ⟨a, b⟩ := p
    unfold setI
    by_cases h : a = i
    · subst h
      rw [if_pos rfl]
      unfold look
      by_cases h : j = a
      · subst h; simp
      · have h2 : (a == j) = false := by simpa using fun e => h e.symm
        simp [List.find?, h2, h]
    · rw [if_neg h]
      by_cases h3 : a = j
      · subst h3
        rw [if_neg h]
        simp [look]
      · have h2 : (a == j) = false := by simpa using h3
        have e1 : look ((a, b) :: setI ge i k) j = look (setI ge i k) j := by simp [look, List.find?, h2]
        have e2 : look ((a, b) :: ge) j = look ge j := by simp [look, List.find?, h2]
        rw [e1, e2, ih]

def tkf (l : List Int) : Tok := if l.isEmpty = true then .full else .site 0 44 1
theorem clamp_tkf (lv : Nat) (l : List Int) : clampTok lv (tkf l) = tkf l := by
  unfold tkf; split
  · rfl
  · simp [clampTok]
/-- The frames of Truth's rounds. -/
def TS (d : Desk) (zi : Int) (lo : AObj) (ge : List (Int × Int)) (out tout : List Int) : St :=
  [⟨[.cells [.int .i64 zi], lo], []⟩, ⟨[.cells d.c, .cells d.c, .cells [.sl (rowsI out) (tkf out)], .map (intsE ge), .cells [.mp 0 3]], tks 44 tout⟩]
section
variable {d : Desk} {zi : Int} {lo : AObj} {ge : List (Int × Int)} {out tout : List Int} {fr : List Fr}
theorem TS_len : 2 + fr.length = (fr ++ TS d zi lo ge out tout).length := by simp [TS]; omega
theorem TS_get1 : getObj (fr ++ TS d zi lo ge out tout) 0 1 = some (.cells d.c) := (getObj_over (by simp [TS])).trans rfl
theorem TS_get2 : getObj (fr ++ TS d zi lo ge out tout) 0 2 = some (.cells [.sl (rowsI out) (tkf out)]) := (getObj_over (by simp [TS])).trans rfl
theorem TS_get3 : getObj (fr ++ TS d zi lo ge out tout) 0 3 = some (.map (intsE ge)) := (getObj_over (by simp [TS])).trans rfl
theorem TS_get4 : getObj (fr ++ TS d zi lo ge out tout) 0 4 = some (.cells [.mp 0 3]) := (getObj_over (by simp [TS])).trans rfl
theorem TS_geti : getObj (fr ++ TS d zi lo ge out tout) 1 0 = some (.cells [.int .i64 zi]) := (getObj_over (by simp [TS])).trans rfl
theorem TS_getl : getObj (fr ++ TS d zi lo ge out tout) 1 1 = some lo := (getObj_over (by simp [TS])).trans rfl
theorem TS_set3 {ge' : List (Int × Int)} : setObj (fr ++ TS d zi lo ge out tout) 0 3 (.map (intsE ge')) = fr ++ TS d zi lo ge' out tout := (setObj_over (by simp [TS])).trans (congrArg (fr ++ ·) (by simp [TS, setObj, modFr, setO]))
theorem TS_set2 {out' : List Int} : setObj (fr ++ TS d zi lo ge out tout) 0 2 (.cells [.sl (rowsI out') (tkf out')]) = fr ++ TS d zi lo ge out' tout := (setObj_over (by simp [TS])).trans (congrArg (fr ++ ·) (by simp [TS, setObj, modFr, setO]))
theorem TS_setl {lo' : AObj} : setObj (fr ++ TS d zi lo ge out tout) 1 1 lo' = fr ++ TS d zi lo' ge out tout := (setObj_over (by simp [TS])).trans (congrArg (fr ++ ·) (by simp [TS, setObj, modFr, setO]))
theorem TS_app {f : Fr} (hl : out.length ≤ 1000) (z : Int) : appAt 0 (f :: (fr ++ TS d zi lo ge out out)) 44 1 8 (.sl (rowsI out) (tkf out)) (.sl [[.int .i64 z]] .full) = some (.sl (rowsI (out ++ [z])) (tkf (out ++ [z])), f :: (fr ++ TS d zi lo ge out (out ++ [z]))) := by
  have hlen : 0 < (fr ++ TS d zi lo ge out out).length := by simp [TS]
  have hlen2 : 0 < (TS d zi lo ge out out).length := by simp [TS]
  have hg : getTok (f :: (fr ++ TS d zi lo ge out out)) 0 44 = tokGet (tks 44 out) 44 := by
    rw [getTok_sub hlen, getTok_over hlen2]; rfl
  have hs : ∀ x, setTok (f :: (fr ++ TS d zi lo ge out out)) 0 44 x = f :: (fr ++ [⟨[.cells [.int .i64 zi], lo], []⟩, ⟨[.cells d.c, .cells d.c, .cells [.sl (rowsI out) (tkf out)], .map (intsE ge), .cells [.mp 0 3]], tokSet (tks 44 out) 44 x⟩]) := fun x => by
    rw [setTok_sub hlen, setTok_over hlen2]; rfl
  generalize f :: (fr ++ TS d zi lo ge out out) = s at hg hs ⊢
  cases out with
  | nil =>
    simp only [tks, List.isEmpty_nil, if_true] at hg
    simp [appAt, rowsAt, rowsI, tkf, headFit, purs, pur, hg, hs, tokGet, tks, tokSet, TS]
  | cons a out =>
    have h1 : ((out.length + 1 + 1) * 8 ≤ 140737488355328) := by simp at hl; omega
    simp only [tks, List.isEmpty_cons, Bool.false_eq_true, if_false] at hg
    simp [appAt, rowsAt, rowsI, tkf, headFit, purs, pur, hg, hs, tokGet, tks, tokSet, TS, h1]
end
end Go.Ab.Cl

namespace Go.Ab.Cl
open Go.Ab

def loT (env : Env) (asg body : C) (stopped : Bool) : AObj := .loop env 0 [30] asg body (!stopped) (if stopped = true then .exit 2 else .nrm)
/-- What a round of Truth does. -/
def RT (d : Desk) (zi z : Int) (x : List (Int × Int) × List Int × Bool) (b : Bool) (x' : List (Int × Int) × List Int × Bool) : Prop :=
  x.2.1.length ≤ 1000 ∧ ((b = true ∧ best d hiI (setI x.1 zi z) = -1 ∧ x' = (setI x.1 zi z, x.2.1, false)) ∨ (b = false ∧ best d hiI (setI x.1 zi z) ≠ -1 ∧ x' = (setI x.1 zi z, x.2.1 ++ [z], true)))

theorem meantT {n : Nat} (hn : 1000000000000006 ≤ n) (d : Desk) (hd : d.ok) (hf : d.fine) (i : Nat) {zi : Int} (hzi : zi = (i : Int)) (hi : i < d.bs.length) (env : Env) (asg body : C) (ge : List (Int × Int)) (out : List Int) (hlen : out.length ≤ 1000) (kont : AV → St → Ans) (r : Ans)
    (HR : ∀ z ∈ opts d i 0, RoundIs (evKR Bk Gx fsT n).2 2 1 1 (fun x => TS d zi (loT env asg body x.2.2) x.1 x.2.1 x.2.1) (fun x => x.2.2 = false ∧ x.2.1.length ≤ 1000) (RT d zi) z)
    (K : ∀ x', Runs (RT d zi) (opts d i 0) (ge, out, false) x' → kont (.tup []) (TS d zi (loT env asg body x'.2.2) x'.1 x'.2.1 x'.2.1) = r) :
    (evKR Bk Gx fsT (n + 1)).1 2 84 [.yl 1 1, .rp d.c, .rp [.int .i64 zi], .rp [.int .i64 0]] (TS d zi (loT env asg body false) ge out out) kont = r :=
  meant1_ev hn d hd hf i 0 hzi (zt := 0) rfl (by omega) hi (fun x : List (Int × Int) × List Int × Bool => TS d zi (loT env asg body x.2.2) x.1 x.2.1 x.2.1) (fun x => rfl) (by omega) (fun x => x.2.2 = false ∧ x.2.1.length ≤ 1000) (RT d zi)
    (fun z x x' h => by
      obtain ⟨h1, ⟨_, _, rfl⟩ | ⟨h2, _⟩⟩ := h
      · exact ⟨rfl, h1⟩
      · cases h2) (ge, out, false) ⟨rfl, hlen⟩ kont r HR K

set_option maxHeartbeats 2000000 in
theorem a19_L1_step {B : Bnd} (hB : B = Bk) {n2 : Nat} (hn2 : 1000000000000200 ≤ n2) (d : Desk) (hd : d.ok) (hc : d.check = true) (Inv : Nat → List (Int × Int) → List Int → Prop) (hI : ∀ i ge out, Inv i ge out → out.length ≤ 6)
    (hInv : ∀ (i : Nat) ge out x', i < d.bs.length → Inv i ge out → Runs (RT d (i : Int)) (opts d i 0) (ge, out, false) x' → Inv (i + 1) x'.1 x'.2.1) (n : Nat) (k : Ex → Env → St → Ans) (r : Ans) :
    ∀ (j i0 : Nat) (ge : List (Int × Int)) (out : List Int), d.bs.length < i0 + j → i0 ≤ d.bs.length → Inv i0 ge out →
    (∀ ge' out' x, Inv d.bs.length ge' out' → k (.exit 0) [(2, .sl [] .nil), (3, .int .i64 0), (4, .ptr 0 1 0), (6, .ptr 0 2 0), (7, .ptr 0 4 0), (23, .int .i64 (.ofNat d.bs.length)), (24, .int .i64 x)] [⟨[.cells d.c, .cells d.c, .cells [.sl (rowsI out') (tkf out')], .map (intsE ge'), .cells [.mp 0 3]], tks 44 out'⟩] = r) →
    B.loop (evCK B a19_L1) [2, 3, 4, 6, 7, 23, 24] n j (evKR Bk Gx fsT (n2 + 1)).1 (evKR Bk Gx fsT (n2 + 1)).2 Gx 0 1 [(2, .sl [] .nil), (3, .int .i64 0), (4, .ptr 0 1 0), (6, .ptr 0 2 0), (7, .ptr 0 4 0), (23, .int .i64 (.ofNat d.bs.length)), (24, .int .i64 (.ofNat i0))] [⟨[.cells d.c, .cells d.c, .cells [.sl (rowsI out) (tkf out)], .map (intsE ge), .cells [.mp 0 3]], tks 44 out⟩] k = r := by
  intro j
  induction j with
  | zero => intro i0 ge out h1 h2; omega
  | succ j ih =>
    intro i0 ge out h1 h2 hinv k1
    have hf := check_fine hc
    have hnb := hf.nb
    have hol := hI _ _ _ hinv
    refine loop_succ hB ?_
    obtain ⟨cl, hcl⟩ : ∃ cl, cl = (evKR Bk Gx fsT (n2 + 1)).1 := ⟨_, rfl⟩
    rw [← hcl]
    have H65 := meant_ev (n := n2 + 1) (by omega) d hd (i0 : Int) 0
    rw [← hcl] at H65
    conv => lhs; whnf
    refine lt_nat hB (fun h => ?_) (fun h => ?_) <;> conv => lhs; whnf
    · repeat' ((first
        | refine fnat_pred hB ?_
        | refine tok_step hB hd.tp ?_
        | refine tok_step hB hd.tb ?_
        | refine purs_step hB (by simp [purs, pur, hd.tp, hd.tb]) ?_
        | refine pans_step hB H65 ?_
        | refine purs_step hB rfl ?_
        | refine lt_tt hB (by decide) ?_
        | refine lt_ff hB (by decide) ?_
        | refine le_tt hB (by decide) ?_
        | refine le_ff hB (by decide) ?_
        | refine eq_tt hB (by decide) ?_
        | refine eq_ff hB (by decide) ?_
        | refine fint_wrp hB (by omega) (by omega) ?_
        | refine fint_step hB ?_
        | refine fbool_tt hB ?_
        | refine fbool_ff hB ?_
        | refine fbool_split hB (fun _ => ?_) (fun _ => ?_)
        | refine ftok_step hB ?_
        | refine frows_step hB ?_
        | refine fstr_step hB ?_
        | refine len_map hB ?_
        | refine len_step hB ?_
        | refine lens_step hB ?_
        | refine byte_step hB ?_
        | refine drop_step hB rfl ?_
        | refine fl_step hB rfl ?_
        | refine add_one hB (by first | omega | decide) ?_
        | refine opt_step hB rfl ?_
        | refine fnat_step hB ?_
        | refine ifk_step hB rfl ?_
        | refine ifk_step hB (flat_or rfl) ?_
        | refine opt2_step hB rfl ?_
        | refine obj_raw hB ?_
        | refine sob_raw hB ?_
        | refine fst_raw hB ?_
        | refine optl_raw hB ?_
        | refine tok_step hB rfl ?_
        ) <;> conv => lhs; whnf)
      subst hcl
      refine meantT (n := n2) (by omega) d hd hf i0 rfl h _ _ _ ge out (by omega) _ _ (fun z hz => ?_) (fun x' hR => ?_)
      · intro fr x kont2 r2 hP K2
        obtain ⟨ge1, out1, st1⟩ := x
        obtain ⟨hP1, hP2⟩ := hP
        dsimp only at hP1 hP2
        subst hP1
        dsimp only
        refine round_open TS_len TS_getl (by omega) rfl fun n3 B2 cl2 rd2 hn3 hB2 hcl2 hrd2 => ?_
        clear hB
        have hB := hB2
        have H67 := most_ev (n := n3) (by omega)
        have H66 := fun os t s kont => found_ev (n := n3) (by omega) d hd (gv := .mp 0 3) 85 os t s (D := s.length + 1) rfl (.inr ⟨0, 3, rfl, by omega⟩) kont
        rw [← hcl2] at H67
        have hs0 : ∀ lo ge out tout, 0 < (fr ++ TS d (i0 : Int) lo ge out tout).length := fun lo ge out tout => by rw [← TS_len]; omega
        have hs1 : ∀ lo ge out tout, 1 < (fr ++ TS d (i0 : Int) lo ge out tout).length := fun lo ge out tout => by rw [← TS_len]; omega
        have H66 : ∀ lo ge out tout kont, cl2 (2 + fr.length + 1) 66 [d.v, .mp 0 3, .agg [.fn 85 [] []]] (⟨[], []⟩ :: (fr ++ TS d (i0 : Int) lo ge out tout)) kont = kont (srch d (.mp 0 3) (2 + fr.length) 3 85) (⟨fnd d (.mp 0 3) (2 + fr.length) 85 [] [], []⟩ :: (fr ++ TS d (i0 : Int) lo ge out tout)) := by
          intro lo ge out tout kont
          rw [hcl2]
          exact found_ev (n := n3) (by omega) d hd (gv := .mp 0 3) 85 [] [] (fr ++ TS d (i0 : Int) lo ge out tout) (D := 2 + fr.length + 1) (by rw [TS_len]) (.inr ⟨0, 3, rfl, by omega⟩) kont
        have H68 : ∀ lo ge out tout kont r, (∀ es', kont (.int .i64 (best d hiI ge)) (⟨fnd d (.mp 0 3) (2 + fr.length) 85 [] es', []⟩ :: (fr ++ TS d (i0 : Int) lo ge out tout)) = r) →
            cl2 (2 + fr.length + 1) 68 [srch d (.mp 0 3) (2 + fr.length) 3 85, keyV 0 0 0] (⟨fnd d (.mp 0 3) (2 + fr.length) 85 [] [], []⟩ :: (fr ++ TS d (i0 : Int) lo ge out tout)) kont = r := by
          intro lo ge out tout kont r K
          rw [hcl2]
          exact search_ev (n := n3) (by omega) hi_or hiHB d hd hc ge (gv := .mp 0 3) [] [] (fr ++ TS d (i0 : Int) lo ge out tout) (D := 2 + fr.length + 1) (by rw [TS_len]) (.inr ⟨0, 3, rfl, by omega⟩)
            (mapAt_mp ((getObj_sub (hs0 _ _ _ _)).trans TS_get3)) kont r K
        conv => lhs; whnf
        repeat' ((first
          | refine fnat_pred hB ?_
          | refine tok_step hB hd.tp ?_
          | refine tok_step hB hd.tb ?_
          | refine obj_step hB (congrArg (· + 1) TS_len) ((getObj_sub (hs0 _ _ _ _)).trans TS_get1) ?_
          | refine obj_step hB (congrArg (· + 1) TS_len) ((getObj_sub (hs0 _ _ _ _)).trans TS_get2) ?_
          | refine obj_step hB (congrArg (· + 1) TS_len) ((getObj_sub (hs0 _ _ _ _)).trans TS_get4) ?_
          | refine obj_step hB (congrArg (· + 1) TS_len) ((getObj_sub (hs1 _ _ _ _)).trans TS_geti) ?_
          | refine obj_step hB (congrArg (· + 1) TS_len) ((getObj_sub (hs1 _ _ _ _)).trans TS_getl) ?_
          | refine sob_step hB (congrArg (· + 1) TS_len) ((setObj_sub (hs1 _ _ _ _)).trans (congrArg (_ :: ·) TS_setl)) ?_
          | refine opt2_step hB (upd_ok rfl ((getObj_sub (hs0 _ _ _ _)).trans TS_get3) rfl rfl (setI_ok _ _ _)) ?_
          | refine fst_step hB ((setObj_sub (hs0 _ _ _ _)).trans (congrArg (_ :: ·) TS_set3)) ?_
          | refine pans_step hB H67 ?_
          | refine (H66 _ _ _ _ _).trans ?_
          | refine H68 _ _ _ _ _ _ (fun es' => ?_)
          | refine eq_split hB (fun heq => ?_) (fun heq => ?_)
          | refine opt2_step hB (TS_app (by omega) z) ?_
          | refine fbool_other hB (by omega) ?_
          | refine fst_step hB rfl ?_
          | refine fl_step hB (x := [.sl (rowsI (out1 ++ [z])) (tkf (out1 ++ [z]))]) (by show [AV.sl _ (clampTok 0 (tkf _))] = _; rw [clamp_tkf]) ?_
          | refine sob_step hB (congrArg (· + 1) TS_len) ((setObj_sub (hs0 _ _ _ _)).trans (congrArg (_ :: ·) TS_set2)) ?_
          | refine purs_step hB rfl ?_
          | refine lt_tt hB (by decide) ?_
          | refine lt_ff hB (by decide) ?_
          | refine le_tt hB (by decide) ?_
          | refine le_ff hB (by decide) ?_
          | refine eq_tt hB (by decide) ?_
          | refine eq_ff hB (by decide) ?_
          | refine fint_wrp hB (by omega) (by omega) ?_
          | refine fint_step hB ?_
          | refine fbool_tt hB ?_
          | refine fbool_ff hB ?_
          | refine fbool_split hB (fun _ => ?_) (fun _ => ?_)
          | refine ftok_step hB ?_
          | refine frows_step hB ?_
          | refine fstr_step hB ?_
          | refine len_map hB ?_
          | refine len_step hB ?_
          | refine lens_step hB ?_
          | refine byte_step hB ?_
          | refine drop_step hB rfl ?_
          | refine fl_step hB rfl ?_
          | refine add_one hB (by first | omega | decide) ?_
          | refine opt_step hB rfl ?_
          | refine fnat_step hB ?_
          | refine ifk_step hB rfl ?_
          | refine ifk_step hB (flat_or rfl) ?_
          | refine opt2_step hB rfl ?_
          | refine obj_raw hB ?_
          | refine sob_raw hB ?_
          | refine fst_raw hB ?_
          | refine optl_raw hB ?_
          | refine tok_step hB rfl ?_
          ) <;> conv => lhs; whnf)
        · exact K2 true (setI ge1 (i0 : Int) z, out1, false) ⟨hP2, .inl ⟨rfl, heq, rfl⟩⟩
        · exact K2 false (setI ge1 (i0 : Int) z, out1 ++ [z], true) ⟨hP2, .inr ⟨rfl, heq, rfl⟩⟩
      · have hnext := hInv i0 ge out x' h hinv hR
        obtain ⟨ge', out', st'⟩ := x'
        dsimp only at hnext ⊢
        cases st'
        · conv => lhs; whnf
          repeat' ((first
            | refine fnat_pred hB ?_
            | refine add_step hB (by simp only [Int.ofNat_eq_natCast]; omega) (by simp only [Int.ofNat_eq_natCast]; omega) ?_
            | refine purs_step hB rfl ?_
            | refine lt_tt hB (by decide) ?_
            | refine lt_ff hB (by decide) ?_
            | refine le_tt hB (by decide) ?_
            | refine le_ff hB (by decide) ?_
            | refine eq_tt hB (by decide) ?_
            | refine eq_ff hB (by decide) ?_
            | refine fint_wrp hB (by omega) (by omega) ?_
            | refine fint_step hB ?_
            | refine fbool_tt hB ?_
            | refine fbool_ff hB ?_
            | refine fbool_split hB (fun _ => ?_) (fun _ => ?_)
            | refine ftok_step hB ?_
            | refine frows_step hB ?_
            | refine fstr_step hB ?_
            | refine len_map hB ?_
            | refine len_step hB ?_
            | refine lens_step hB ?_
            | refine byte_step hB ?_
            | refine drop_step hB rfl ?_
            | refine fl_step hB rfl ?_
            | refine add_one hB (by first | omega | decide) ?_
            | refine opt_step hB rfl ?_
            | refine fnat_step hB ?_
            | refine ifk_step hB rfl ?_
            | refine ifk_step hB (flat_or rfl) ?_
            | refine opt2_step hB rfl ?_
            | refine obj_raw hB ?_
            | refine sob_raw hB ?_
            | refine fst_raw hB ?_
            | refine optl_raw hB ?_
            | refine tok_step hB rfl ?_
            ) <;> conv => lhs; whnf)
          exact ih (i0 + 1) ge' out' (by omega) (by omega) hnext k1
        · conv => lhs; whnf
          repeat' ((first
            | refine fnat_pred hB ?_
            | refine add_step hB (by simp only [Int.ofNat_eq_natCast]; omega) (by simp only [Int.ofNat_eq_natCast]; omega) ?_
            | refine purs_step hB rfl ?_
            | refine lt_tt hB (by decide) ?_
            | refine lt_ff hB (by decide) ?_
            | refine le_tt hB (by decide) ?_
            | refine le_ff hB (by decide) ?_
            | refine eq_tt hB (by decide) ?_
            | refine eq_ff hB (by decide) ?_
            | refine fint_wrp hB (by omega) (by omega) ?_
            | refine fint_step hB ?_
            | refine fbool_tt hB ?_
            | refine fbool_ff hB ?_
            | refine fbool_split hB (fun _ => ?_) (fun _ => ?_)
            | refine ftok_step hB ?_
            | refine frows_step hB ?_
            | refine fstr_step hB ?_
            | refine len_map hB ?_
            | refine len_step hB ?_
            | refine lens_step hB ?_
            | refine byte_step hB ?_
            | refine drop_step hB rfl ?_
            | refine fl_step hB rfl ?_
            | refine add_one hB (by first | omega | decide) ?_
            | refine opt_step hB rfl ?_
            | refine fnat_step hB ?_
            | refine ifk_step hB rfl ?_
            | refine ifk_step hB (flat_or rfl) ?_
            | refine opt2_step hB rfl ?_
            | refine obj_raw hB ?_
            | refine sob_raw hB ?_
            | refine fst_raw hB ?_
            | refine optl_raw hB ?_
            | refine tok_step hB rfl ?_
            ) <;> conv => lhs; whnf)
          exact ih (i0 + 1) ge' out' (by omega) (by omega) hnext k1
    · repeat' ((first
        | refine purs_step hB rfl ?_
        | refine lt_tt hB (by decide) ?_
        | refine lt_ff hB (by decide) ?_
        | refine le_tt hB (by decide) ?_
        | refine le_ff hB (by decide) ?_
        | refine eq_tt hB (by decide) ?_
        | refine eq_ff hB (by decide) ?_
        | refine fint_wrp hB (by omega) (by omega) ?_
        | refine fint_step hB ?_
        | refine fbool_tt hB ?_
        | refine fbool_ff hB ?_
        | refine fbool_split hB (fun _ => ?_) (fun _ => ?_)
        | refine ftok_step hB ?_
        | refine frows_step hB ?_
        | refine fstr_step hB ?_
        | refine len_map hB ?_
        | refine len_step hB ?_
        | refine lens_step hB ?_
        | refine byte_step hB ?_
        | refine drop_step hB rfl ?_
        | refine fl_step hB rfl ?_
        | refine add_one hB (by first | omega | decide) ?_
        | refine opt_step hB rfl ?_
        | refine fnat_step hB ?_
        | refine ifk_step hB rfl ?_
        | refine ifk_step hB (flat_or rfl) ?_
        | refine opt2_step hB rfl ?_
        | refine obj_raw hB ?_
        | refine sob_raw hB ?_
        | refine fst_raw hB ?_
        | refine optl_raw hB ?_
        | refine tok_step hB rfl ?_
        ) <;> conv => lhs; whnf)
      have hi : i0 = d.bs.length := by omega
      subst hi
      rw [hcl] at *
      exact k1 ge out _ hinv
end Go.Ab.Cl

namespace Go.Ab.Cl
open Go.Ab

def pickT (d : Desk) (zi : Int) : List Int → List (Int × Int) → List Int → List (Int × Int) × List Int × Bool
  | [], ge, out => (ge, out, false)
  | z :: l, ge, out => if best d hiI (setI ge zi z) = -1 then pickT d zi l (setI ge zi z) out else (setI ge zi z, out ++ [z], true)
theorem pick_runs {d : Desk} {zi : Int} : ∀ {l : List Int} {ge : List (Int × Int)} {out : List Int} {x' : List (Int × Int) × List Int × Bool}, Runs (RT d zi) l (ge, out, false) x' → x' = pickT d zi l ge out
  | [], ge, out, x', h => by cases h; rfl
  | z :: l, ge, out, x', h => by
    cases h with
    | stop h =>
      obtain ⟨_, ⟨h1, _⟩ | ⟨_, h2, h3⟩⟩ := h
      · cases h1
      · simp only [pickT]
        rw [if_neg h2]; exact h3
    | more h hr =>
      obtain ⟨_, ⟨_, h2, rfl⟩ | ⟨h1, _⟩⟩ := h
      · simp only [pickT]
        rw [if_pos h2]; exact pick_runs hr
      · cases h1
/-- What Truth has found of the first boxes. -/
def seqT (d : Desk) : Nat → List (Int × Int) × List Int
  | 0 => ([], [])
  | i + 1 => ((pickT d (i : Int) (opts d i 0) (seqT d i).1 (seqT d i).2).1, (pickT d (i : Int) (opts d i 0) (seqT d i).1 (seqT d i).2).2.1)
def truthL (d : Desk) : List Int := if askE d true = 0 then (seqT d d.bs.length).2 else []
theorem pick_len {d : Desk} {zi : Int} : ∀ {l : List Int} {ge : List (Int × Int)} {out : List Int}, (pickT d zi l ge out).2.1.length ≤ out.length + 1
  | [], ge, out => by simp [pickT]
  | z :: l, ge, out => by
    simp only [pickT]
    split
    · exact pick_len
    · simp
theorem seq_len {d : Desk} : ∀ i : Nat, (seqT d i).2.length ≤ i
  | 0 => by simp [seqT]
  | i + 1 => by
    have := seq_len (d := d) i
    have h := pick_len (d := d) (zi := (i : Int)) (l := opts d i 0) (ge := (seqT d i).1) (out := (seqT d i).2)
    simp only [seqT]; omega

theorem best_look {d : Desk} {by_ : Int → Int → Int} {ge ge' : List (Int × Int)} (h : ∀ i : Nat, look ge i = look ge' i) : best d by_ ge = best d by_ ge' := by
  unfold best
  rw [show (fun i : Nat => look ge (i : Int)) = fun i : Nat => look ge' (i : Int) from funext h]
theorem pick_good {d : Desk} {i : Nat} : ∀ {l : List Int} {ge ge0 : List (Int × Int)} {out : List Int}, (∀ j : Nat, j ≠ i → look ge j = look ge0 j) → (∃ z ∈ l, best d hiI (setI ge0 (i : Int) z) ≠ -1) →
    ∃ z, best d hiI (setI ge0 (i : Int) z) ≠ -1 ∧ (pickT d (i : Int) l ge out).2.1 = out ++ [z] ∧ ∀ j : Nat, look (pickT d (i : Int) l ge out).1 j = look (setI ge0 (i : Int) z) j
  | [], ge, ge0, out, hg, h => by obtain ⟨z, hz, _⟩ := h; cases hz
  | z :: l, ge, ge0, out, hg, h => by
    have hs : ∀ z : Int, ∀ j : Nat, look (setI ge (i : Int) z) j = look (setI ge0 (i : Int) z) j := fun z j => by
      rw [look_set, look_set]
      by_cases hj : (j : Int) = (i : Int)
      · rw [if_pos hj, if_pos hj]
      · rw [if_neg hj, if_neg hj]; exact hg j (by omega)
    simp only [pickT]
    rw [best_look (hs z)]
    by_cases hb : best d hiI (setI ge0 (i : Int) z) = -1
    · rw [if_pos hb]
      obtain ⟨z', hz', hb'⟩ := h
      have hz' : z' ∈ l := by
        rcases List.mem_cons.1 hz' with rfl | h
        · exact absurd hb hb'
        · exact h
      refine pick_good (fun j hj => ?_) ⟨z', hz', hb'⟩
      rw [look_set, if_neg (by omega)]; exact hg j hj
    · rw [if_neg hb]
      exact ⟨z, hb, rfl, hs z⟩
/-- What is found is how a truth begins. -/
theorem seq_good {d : Desk} (hc : d.check = true) (ht : trueB d = true) : ∀ i : Nat, i ≤ d.bs.length → (seqT d i).2.length = i ∧ (∀ j : Nat, look (seqT d i).1 j = (seqT d i).2[j]?) ∧ ∃ l, Tr d l ∧ l.take i = (seqT d i).2
  | 0, _ => by
    obtain ⟨l, hl⟩ := (true_iff hc).1 ht
    exact ⟨rfl, fun j => rfl, l, hl, rfl⟩
  | i + 1, hi => by
    obtain ⟨h1, h2, l, hl, h3⟩ := seq_good hc ht i (by omega)
    have key : ∀ (z : Int) (l' : List Int), Tr d l' → ((∀ (j : Nat) (k : Int), l'[j]? = some k → clash (fun m => look (setI (seqT d i).1 (i : Int) z) m) j k = false) ↔ l'.take (i + 1) = (seqT d i).2 ++ [z]) := by
      intro z l' hl'
      have hlen := hl'.len
      have hlk : ∀ m : Nat, look (setI (seqT d i).1 (i : Int) z) m = ((seqT d i).2 ++ [z])[m]? := fun m => by
        rw [look_set]
        by_cases hm : (m : Int) = (i : Int)
        · have : m = i := by omega
          subst this
          rw [if_pos rfl, List.getElem?_append_right (by omega), h1]; simp
        · rw [if_neg hm, h2]
          by_cases h5 : m < i
          · rw [List.getElem?_append_left (by omega)]
          · rw [List.getElem?_eq_none (by omega), List.getElem?_eq_none (by simp; omega)]
      constructor
      · intro h
        refine List.ext_getElem? fun j => ?_
        by_cases hj : j < i + 1
        · have hjl : j < l'.length := by omega
          have := h j l'[j] (by simp [hjl])
          unfold clash at this
          simp only [hlk] at this
          rw [List.getElem?_take_of_lt hj]
          cases hs : ((seqT d i).2 ++ [z])[j]? with
          | none =>
            have := List.getElem?_eq_none_iff.1 hs
            simp at this; omega
          | some y =>
            rw [hs] at this
            simp only [decide_eq_false_iff_not, ne_eq, Decidable.not_not] at this
            rw [this]; simp [hjl]
        · rw [List.getElem?_eq_none (by simp; omega), List.getElem?_eq_none (by simp; omega)]
      · intro h j k hk
        unfold clash
        simp only [hlk]
        rw [← h]
        by_cases hj : j < i + 1
        · rw [List.getElem?_take_of_lt hj, hk]; simp
        · rw [List.getElem?_eq_none (by simp; omega)]
    have hex : ∃ z ∈ opts d i 0, best d hiI (setI (seqT d i).1 (i : Int) z) ≠ -1 := by
      have hil : i < l.length := by rw [hl.len]; omega
      refine ⟨l[i], ?_, ?_⟩
      · rcases hl.ok i l[i] (by simp [hil]) with h | ⟨n, h, h'⟩
        · exact opts_iff.2 (.inl h)
        · exact opts_iff.2 (.inr ⟨n, h, by rw [fits_fit, h']; simp⟩)
      · rw [best_never hi_better hc]
        exact ⟨l, hl, (key _ l hl).2 (by rw [List.take_add_one, h3]; simp [hil])⟩
    obtain ⟨z, g1, g2, g3⟩ := pick_good (d := d) (out := (seqT d i).2) (fun j _ => rfl) hex
    obtain ⟨l', hl', hcl'⟩ := (best_never hi_better hc _).1 g1
    have g4 := (key z l' hl').1 hcl'
    simp only [seqT]
    refine ⟨by rw [g2]; simp [h1], fun j => ?_, l', hl', by rw [g2]; exact g4⟩
    rw [g3, g2, look_set]
    by_cases hm : (j : Int) = (i : Int)
    · have : j = i := by omega
      subst this
      rw [if_pos rfl, List.getElem?_append_right (by omega), h1]; simp
    · rw [if_neg hm, h2]
      by_cases h5 : j < i
      · rw [List.getElem?_append_left (by omega)]
      · rw [List.getElem?_eq_none (by omega), List.getElem?_eq_none (by simp; omega)]
theorem truthL_Tr {d : Desk} (he : askE d true = 0) : Tr d (truthL d) := by
  have hc := ask_check he
  have ht : trueB d = true := by
    cases h : trueB d
    · simp [askE, hc, h] at he
    · rfl
  obtain ⟨h1, _, l, hl, h3⟩ := seq_good hc ht d.bs.length (Nat.le_refl _)
  rw [truthL, if_pos he, ← h3, ← hl.len, List.take_length]
  exact hl

theorem slice_tkf (l : List Int) : sliceAV 1 (.sl (rowsI l) (tkf l)) none (some (.int .i64 (.ofNat l.length))) (some (.int .i64 (.ofNat l.length))) = some (.sl (rowsI l) .full) := by
  cases l with
  | nil => rfl
  | cons a l =>
    have h : (0 : Int) ≤ (l.length : Int) + 1 := by omega
    simp [sliceAV, rowsI, headFit, bound, optBound, tkf, h]
    exact List.take_of_length_le (by simp)
def ttok (d : Desk) : Tok := if askE d true = 0 then .full else .nil
theorem ttok_pur (d : Desk) : purTok (ttok d) = true := by unfold ttok; split <;> rfl
set_option maxHeartbeats 2000000 in
theorem Truth_ev {n : Nat} (hn : 1000000000000500 ≤ n) (d : Desk) (hd : d.ok) : (evKR Bk Gx fsT n).1 0 19 [d.v] [] ansK = some (.tup [.sl (rowsI (truthL d)) (ttok d), .int .i64 (askE d true)], []) := by
  refine call_open (show fsT.find 19 = some a19 from rfl) (by omega) fun n' B cl rd hn' hB hcl hrd => ?_
  obtain ⟨n2, rfl⟩ : ∃ n2, n' = n2 + 1 := ⟨n' - 1, by omega⟩
  have H63 := asked0_ev (n := n2 + 1) (by omega) d hd
  rw [← hcl] at H63
  by_cases he : askE d true = 0
  · have hck := ask_check he
    have hf := check_fine hck
    have hnb := hf.nb
    rw [show askD d true = d from if_pos he, he] at H63
    rw [show truthL d = (seqT d d.bs.length).2 from if_pos he, show ttok d = .full from if_pos he, he]
    conv => lhs; whnf
    repeat' ((first
      | refine fnat_pred hB ?_
      | refine tok_step hB hd.tp ?_
      | refine tok_step hB hd.tb ?_
      | refine purs_step hB (by simp [purs, pur, hd.tp, hd.tb]) ?_
      | refine pans_step hB H63 ?_
      | refine opt2_step hB mkmap_ok ?_
      | refine purs_step hB rfl ?_
      | refine lt_tt hB (by decide) ?_
      | refine lt_ff hB (by decide) ?_
      | refine le_tt hB (by decide) ?_
      | refine le_ff hB (by decide) ?_
      | refine eq_tt hB (by decide) ?_
      | refine eq_ff hB (by decide) ?_
      | refine fint_wrp hB (by omega) (by omega) ?_
      | refine fint_step hB ?_
      | refine fbool_tt hB ?_
      | refine fbool_ff hB ?_
      | refine fbool_split hB (fun _ => ?_) (fun _ => ?_)
      | refine ftok_step hB ?_
      | refine frows_step hB ?_
      | refine fstr_step hB ?_
      | refine len_map hB ?_
      | refine len_step hB ?_
      | refine lens_step hB ?_
      | refine byte_step hB ?_
      | refine drop_step hB rfl ?_
      | refine fl_step hB rfl ?_
      | refine add_one hB (by first | omega | decide) ?_
      | refine opt_step hB rfl ?_
      | refine fnat_step hB ?_
      | refine ifk_step hB rfl ?_
      | refine ifk_step hB (flat_or rfl) ?_
      | refine opt2_step hB rfl ?_
      | refine obj_raw hB ?_
      | refine sob_raw hB ?_
      | refine fst_raw hB ?_
      | refine optl_raw hB ?_
      | refine tok_step hB rfl ?_
      ) <;> conv => lhs; whnf)
    subst hcl hrd
    refine a19_L1_step hB (n2 := n2) (by omega) d hd hck (fun i ge out => i ≤ d.bs.length ∧ (ge, out) = seqT d i) (fun i ge out h => by
      have := seq_len (d := d) i
      rw [← h.2] at this
      have := h.1
      simp only at *; omega) (fun i ge out x' hi h hr => by
      refine ⟨hi, ?_⟩
      rw [pick_runs hr]
      show _ = seqT d (i + 1)
      simp only [seqT]
      rw [← h.2]) _ _ _ _ 0 [] [] (by omega) (by omega) ⟨by omega, rfl⟩ (fun ge out x h => ?_)
    obtain ⟨_, h⟩ := h
    rw [show (seqT d d.bs.length).2 = out by rw [← h]]
    conv => lhs; whnf
    repeat' ((first
      | refine fnat_pred hB ?_
      | refine opt_step hB (slice_tkf _) ?_
      | refine purs_step hB rfl ?_
      | refine lt_tt hB (by decide) ?_
      | refine lt_ff hB (by decide) ?_
      | refine le_tt hB (by decide) ?_
      | refine le_ff hB (by decide) ?_
      | refine eq_tt hB (by decide) ?_
      | refine eq_ff hB (by decide) ?_
      | refine fint_wrp hB (by omega) (by omega) ?_
      | refine fint_step hB ?_
      | refine fbool_tt hB ?_
      | refine fbool_ff hB ?_
      | refine fbool_split hB (fun _ => ?_) (fun _ => ?_)
      | refine ftok_step hB ?_
      | refine frows_step hB ?_
      | refine fstr_step hB ?_
      | refine len_map hB ?_
      | refine len_step hB ?_
      | refine lens_step hB ?_
      | refine byte_step hB ?_
      | refine drop_step hB rfl ?_
      | refine fl_step hB rfl ?_
      | refine add_one hB (by first | omega | decide) ?_
      | refine opt_step hB rfl ?_
      | refine fnat_step hB ?_
      | refine ifk_step hB rfl ?_
      | refine ifk_step hB (flat_or rfl) ?_
      | refine opt2_step hB rfl ?_
      | refine obj_raw hB ?_
      | refine sob_raw hB ?_
      | refine fst_raw hB ?_
      | refine optl_raw hB ?_
      | refine tok_step hB rfl ?_
      ) <;> conv => lhs; whnf)
    all_goals rfl
  · rw [show truthL d = [] from if_neg he, show ttok d = .nil from if_neg he]
    conv => lhs; whnf
    repeat' ((first
      | refine fnat_pred hB ?_
      | refine tok_step hB hd.tp ?_
      | refine tok_step hB hd.tb ?_
      | refine tok_step hB (askD_ok hd true).tp ?_
      | refine tok_step hB (askD_ok hd true).tb ?_
      | refine purs_step hB (by simp [purs, pur, hd.tp, hd.tb]) ?_
      | refine pans_step hB H63 ?_
      | refine eq_ff hB he ?_
      | refine purs_step hB rfl ?_
      | refine lt_tt hB (by decide) ?_
      | refine lt_ff hB (by decide) ?_
      | refine le_tt hB (by decide) ?_
      | refine le_ff hB (by decide) ?_
      | refine eq_tt hB (by decide) ?_
      | refine eq_ff hB (by decide) ?_
      | refine fint_wrp hB (by omega) (by omega) ?_
      | refine fint_step hB ?_
      | refine fbool_tt hB ?_
      | refine fbool_ff hB ?_
      | refine fbool_split hB (fun _ => ?_) (fun _ => ?_)
      | refine ftok_step hB ?_
      | refine frows_step hB ?_
      | refine fstr_step hB ?_
      | refine len_map hB ?_
      | refine len_step hB ?_
      | refine lens_step hB ?_
      | refine byte_step hB ?_
      | refine drop_step hB rfl ?_
      | refine fl_step hB rfl ?_
      | refine add_one hB (by first | omega | decide) ?_
      | refine opt_step hB rfl ?_
      | refine fnat_step hB ?_
      | refine ifk_step hB rfl ?_
      | refine ifk_step hB (flat_or rfl) ?_
      | refine opt2_step hB rfl ?_
      | refine obj_raw hB ?_
      | refine sob_raw hB ?_
      | refine fst_raw hB ?_
      | refine optl_raw hB ?_
      | refine tok_step hB rfl ?_
      ) <;> conv => lhs; whnf)
    all_goals rfl
end Go.Ab.Cl

namespace Go.Ab.Cl
open Go.Ab

theorem go_le {d : Desk} : ∀ {l : List Int} {i t : Nat} {o o' : Int}, truthGo d l i t o = some o' → o ≤ o'
  | [], i, t, o, o', h => by simp only [truthGo, Option.some.injEq] at h; omega
  | k :: l, i, t, o, o', h => by
    simp only [truthGo] at h
    split at h
    · split at h
      · have := go_le h; omega
      · cases h
    · split at h
      · exact go_le h
      · cases h
theorem go_suf {d : Desk} : ∀ (m t : Nat) (o : Int) (l : List Int), l.length = m → m ≤ d.bs.length → o ≤ d.strange → ((∃ o', truthGo d l (d.bs.length - m) t o = some o' ∧ o' ≤ d.strange) ↔ Suf d (fun _ => none) m t o l)
  | 0, t, o, l, hl, hm, ho => by
    obtain rfl := List.length_eq_zero_iff.1 hl
    exact ⟨fun _ => rfl, fun _ => ⟨o, rfl, ho⟩⟩
  | m + 1, t, o, [], hl, hm, ho => by simp at hl
  | m + 1, t, o, k :: l, hl, hm, ho => by
    have hl2 : l.length = m := by simpa using hl
    have hi : d.bs.length - (m + 1) + 1 = d.bs.length - m := by omega
    simp only [truthGo, hi]
    constructor
    · rintro ⟨o', h, h'⟩
      split at h
      · rename_i hk
        split at h
        · rename_i hodd
          have := go_le h
          exact ⟨k, l, rfl, opts_iff.2 (.inl ⟨hk, hodd⟩), rfl, by rw [if_pos hk]; exact ⟨by omega, (go_suf m t (o + 1) l hl2 (by omega) (by omega)).1 ⟨o', h, h'⟩⟩⟩
        · cases h
      · rename_i hk
        split at h
        · rename_i hf
          obtain ⟨n, rfl⟩ : ∃ n : Nat, k = (n : Int) := ⟨k.toNat, by omega⟩
          refine ⟨(n : Int), l, rfl, opts_iff.2 (.inr ⟨n, rfl, by simpa using hf.2⟩), rfl, ?_⟩
          rw [if_neg hk]
          exact (go_suf m _ o l hl2 (by omega) ho).1 ⟨o', h, h'⟩
        · cases h
    · rintro ⟨k', l', he, hk', _, hch⟩
      cases he
      rcases opts_iff.1 hk' with ⟨rfl, hodd⟩ | ⟨n, rfl, hf⟩
      · rw [if_pos rfl] at hch
        obtain ⟨o', h1, h2⟩ := (go_suf m t (o + 1) l hl2 (by omega) (by omega)).2 hch.2
        exact ⟨o', by rw [if_pos rfl, if_pos hodd]; exact h1, h2⟩
      · have hn : ¬ ((n : Int) = -1) := by omega
        rw [if_neg hn] at hch
        obtain ⟨o', h1, h2⟩ := (go_suf m _ o l hl2 (by omega) ho).2 hch
        exact ⟨o', by rw [if_neg hn, if_pos ⟨by omega, by simpa using hf⟩]; exact h1, h2⟩
theorem truthV_iff {d : Desk} (hc : d.check = true) (l : List Int) : truthV d l = true ↔ Tr d l := by
  have hs := check_strange hc
  unfold truthV
  constructor
  · intro h
    split at h
    · rename_i hl
      cases hg : truthGo d l 0 0 0 with
      | none => rw [hg] at h; cases h
      | some o =>
        rw [hg] at h
        have h : o ≤ d.strange := by simpa using h
        have := (go_suf d.bs.length 0 0 l hl.2 (Nat.le_refl _) hs.1).1 ⟨o, by rw [Nat.sub_self]; exact hg, h⟩
        exact ((Suf_all hs.1).1 this).1
    · cases h
  · intro h
    rw [if_pos ⟨hc, h.len⟩]
    have := (Suf_all (g := fun _ => none) hs.1).2 ⟨h, fun _ _ _ => rfl⟩
    obtain ⟨o, h1, h2⟩ := (go_suf d.bs.length 0 0 l h.len (Nat.le_refl _) hs.1).2 this
    rw [Nat.sub_self] at h1
    rw [h1]; simpa using h2
theorem eqb_ok {b : Bool} : (eqK (.s .bool) (.bool b) (.bool b)).map (fun t => AV.bool (if true = true then !t else t)) = some (.bool false) := by simp [eqK, eqS]

set_option maxHeartbeats 20000000 in
theorem law_truths (d : Desk) (hd : d.ok) (n0 n1 : Int) (ps : List Int) {tp : Tok} (htp : purTok tp = true) (hps : ps.length ≤ 200000000000000) :
    (evKR Bk Gx fsT 2000000000000000).1 0 3 [d.v, .agg [.int .i64 n0, .int .i64 n1], .sl (rowsI ps) tp] [] ansK = some (.bool true, []) := by
  refine call_open (show fsT.find 3 = some a3 from rfl) (by omega) fun n B cl rd hn' hB hcl hrd => ?_
  have hn : n = 1999999999999999 := by omega
  have H21 : cl 0 21 [] [] ansK = some (.bool true, []) := by rw [hcl, hn]; exact works_ev
  have H13 := Could_ev (n := n) d hd n0 n1 (by omega)
  have H14 := CouldF_ev (n := n) d hd n0 n1 (by omega)
  have H15 := Check_ev (G := Gx) (n := n) d hd (by omega)
  have H16 := CheckR_ev (n := n) d hd (by omega)
  have H17 := IsTruth_ev (n := n) (by omega) d hd ps htp hps
  have H18 := IsTruthF_ev (n := n) (by omega) d hd ps htp hps
  have H19 := Truth_ev (n := n) (by omega) d hd
  have H20 := TruthF_ev (n := n) (by omega) d hd
  have hsl : (seqT d d.bs.length).2.length ≤ d.bs.length := seq_len _
  have hdb := hd.bs
  have htl : (truthL d).length ≤ 200000000000000 := by
    unfold truthL; split
    · omega
    · simp
  have H18b := IsTruthF_ev (n := n) (by omega) d hd (truthL d) (ttok_pur d) htl
  rw [← hcl] at H13 H14 H15 H16 H17 H18 H19 H20 H18b
  by_cases he : askE d true = 0
  · have hv : truthV d (truthL d) = true := (truthV_iff (ask_check he) _).2 (truthL_Tr he)
    rw [hv] at H18b
    rw [he] at H19 H20
    conv => lhs; whnf
    repeat' ((first
      | refine fnat_pred hB ?_
      | refine tok_step hB hd.tp ?_
      | refine tok_step hB hd.tb ?_
      | refine tok_step hB htp ?_
      | refine tok_step hB (ttok_pur d) ?_
      | refine purs_step hB (by simp [purs, pur, hd.tp, hd.tb, htp, ttok_pur]) ?_
      | refine opt2_step hB (iarr_ok (k := 0) rfl rfl rfl (by decide)) ?_
      | refine opt2_step hB (iarr_ok (k := 1) rfl rfl rfl (by decide)) ?_
      | refine pans_step hB H13 ?_
      | refine pans_step hB H14 ?_
      | refine pans_step hB H15 ?_
      | refine pans_step hB H16 ?_
      | refine pans_step hB H17 ?_
      | refine pans_step hB H18 ?_
      | refine pans_step hB H19 ?_
      | refine pans_step hB H20 ?_
      | refine pans_step hB H18b ?_
      | refine pans_step hB H21 ?_
      | refine opt_step hB eqb_ok ?_
      | refine eq_tt hB rfl ?_
      | refine purs_step hB rfl ?_
      | refine lt_tt hB (by decide) ?_
      | refine lt_ff hB (by decide) ?_
      | refine le_tt hB (by decide) ?_
      | refine le_ff hB (by decide) ?_
      | refine eq_tt hB (by decide) ?_
      | refine eq_ff hB (by decide) ?_
      | refine fint_wrp hB (by omega) (by omega) ?_
      | refine fint_step hB ?_
      | refine fbool_tt hB ?_
      | refine fbool_ff hB ?_
      | refine fbool_split hB (fun _ => ?_) (fun _ => ?_)
      | refine ftok_step hB ?_
      | refine frows_step hB ?_
      | refine fstr_step hB ?_
      | refine len_map hB ?_
      | refine len_step hB ?_
      | refine lens_step hB ?_
      | refine byte_step hB ?_
      | refine drop_step hB rfl ?_
      | refine fl_step hB rfl ?_
      | refine add_one hB (by first | omega | decide) ?_
      | refine opt_step hB rfl ?_
      | refine fnat_step hB ?_
      | refine ifk_step hB rfl ?_
      | refine ifk_step hB (flat_or rfl) ?_
      | refine opt2_step hB rfl ?_
      | refine obj_raw hB ?_
      | refine sob_raw hB ?_
      | refine fst_raw hB ?_
      | refine optl_raw hB ?_
      | refine tok_step hB rfl ?_
      ) <;> conv => lhs; whnf)
    all_goals rfl
  · have hl : truthL d = [] := if_neg he
    rw [hl] at H19
    conv => lhs; whnf
    repeat' ((first
      | refine fnat_pred hB ?_
      | refine tok_step hB hd.tp ?_
      | refine tok_step hB hd.tb ?_
      | refine tok_step hB htp ?_
      | refine tok_step hB (ttok_pur d) ?_
      | refine purs_step hB (by simp [purs, pur, hd.tp, hd.tb, htp, ttok_pur]) ?_
      | refine opt2_step hB (iarr_ok (k := 0) rfl rfl rfl (by decide)) ?_
      | refine opt2_step hB (iarr_ok (k := 1) rfl rfl rfl (by decide)) ?_
      | refine pans_step hB H13 ?_
      | refine pans_step hB H14 ?_
      | refine pans_step hB H15 ?_
      | refine pans_step hB H16 ?_
      | refine pans_step hB H17 ?_
      | refine pans_step hB H18 ?_
      | refine pans_step hB H19 ?_
      | refine pans_step hB H20 ?_
      | refine pans_step hB H21 ?_
      | refine opt_step hB eqb_ok ?_
      | refine eq_tt hB rfl ?_
      | refine eq_ff hB he ?_
      | refine purs_step hB rfl ?_
      | refine lt_tt hB (by decide) ?_
      | refine lt_ff hB (by decide) ?_
      | refine le_tt hB (by decide) ?_
      | refine le_ff hB (by decide) ?_
      | refine eq_tt hB (by decide) ?_
      | refine eq_ff hB (by decide) ?_
      | refine fint_wrp hB (by omega) (by omega) ?_
      | refine fint_step hB ?_
      | refine fbool_tt hB ?_
      | refine fbool_ff hB ?_
      | refine fbool_split hB (fun _ => ?_) (fun _ => ?_)
      | refine ftok_step hB ?_
      | refine frows_step hB ?_
      | refine fstr_step hB ?_
      | refine len_map hB ?_
      | refine len_step hB ?_
      | refine lens_step hB ?_
      | refine byte_step hB ?_
      | refine drop_step hB rfl ?_
      | refine fl_step hB rfl ?_
      | refine add_one hB (by first | omega | decide) ?_
      | refine opt_step hB rfl ?_
      | refine fnat_step hB ?_
      | refine ifk_step hB rfl ?_
      | refine ifk_step hB (flat_or rfl) ?_
      | refine opt2_step hB rfl ?_
      | refine obj_raw hB ?_
      | refine sob_raw hB ?_
      | refine fst_raw hB ?_
      | refine optl_raw hB ?_
      | refine tok_step hB rfl ?_
      ) <;> conv => lhs; whnf)
    all_goals rfl
end Go.Ab.Cl
