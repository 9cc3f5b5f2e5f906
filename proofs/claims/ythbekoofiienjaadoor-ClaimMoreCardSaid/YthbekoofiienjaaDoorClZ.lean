/-
  The claims: whether what was seen can be true; whether a box can be a parcel in a truth.
-/
import Derived.Test.YthbekoofiienjaaDoorClW
namespace Go.Ab.Cl
open Go.Ab

def hiI (a b : Int) : Int := if b > a then b else a
def loI (a b : Int) : Int := if b < a then b else a
theorem hi_or (a b : Int) : hiI a b = a ∨ hiI a b = b := by unfold hiI; split <;> simp
theorem lo_or (a b : Int) : loI a b = a ∨ loI a b = b := by unfold loI; split <;> simp
theorem mx_ok {cl : Call} {rd : Round} {G : Nat → List AV} {h : Nat} {e : Env} {s : St} {x y : X} {a b : Int} (hx : x.ev G e = .int .i64 a) (hy : y.ev G e = .int .i64 b) : evO cl rd G h e s (.mx x [y]) = some (.int .i64 (hiI a b), s) := by
  simp [evO, hx, hy, foldAV, mxAV, hiI]
theorem mn_ok {cl : Call} {rd : Round} {G : Nat → List AV} {h : Nat} {e : Env} {s : St} {x y : X} {a b : Int} (hx : x.ev G e = .int .i64 a) (hy : y.ev G e = .int .i64 b) : evO cl rd G h e s (.mn x [y]) = some (.int .i64 (loI a b), s) := by
  simp [evO, hx, hy, foldAV, mnAV, loI]

theorem greatest_ev {n : Nat} (hn : 10 ≤ n) (a b : Int) : (evKR Bk Gx fsT n).1 0 86 [.int .i64 a, .sl [[.int .i64 b]] .full] [] ansK = some (.int .i64 (hiI a b), []) := by
  refine call_open (show fsT.find 86 = some a86 from rfl) (by omega) fun n' B cl rd hn' hB hcl hrd => ?_
  conv => lhs; whnf
  repeat' ((first | refine Q1 hB (show (0 : Int) < 1 by decide) ?_ | refine Q2 hB (show ¬ (1 : Int) < 1 by decide) ?_ | refine loop_step hB (by omega) ?_ | refine QC hB (m := 0) rfl ?_ | refine QB hB (x := [.int .i64 b]) rfl ?_ | refine Qq hB (mx_ok rfl rfl) ?_ | refine Q0 hB rfl ?_ | refine Q1 hB (by decide) ?_ | refine Q2 hB (by decide) ?_ | refine Q3 hB (by decide) ?_ | refine Q4 hB (by decide) ?_ | refine Q5 hB (by decide) ?_ | refine Q6 hB (by decide) ?_ | refine Q7 hB (by omega) (by omega) ?_ | refine Q8 hB ?_ | refine Q9 hB ?_ | refine Qa hB ?_ | refine Qb hB (fun _ => ?_) (fun _ => ?_) | refine Qc hB ?_ | refine Qd hB ?_ | refine Qe hB ?_ | refine Qf hB ?_ | refine Qg hB ?_ | refine Qh hB ?_ | refine Qi hB ?_ | refine Qj hB rfl ?_ | refine Qk hB rfl ?_ | refine Ql hB (by first | omega | decide) ?_ | refine Qm hB rfl ?_ | refine Qn hB ?_ | refine Qo hB rfl ?_ | refine Qo hB (Qp rfl) ?_ | refine Qq hB rfl ?_ | refine Qr hB ?_ | refine Qs hB ?_ | refine Qt hB ?_ | refine Qu hB ?_ | refine Qv hB rfl ?_) <;> conv => lhs; whnf)
  all_goals rfl
theorem most1_ev {n : Nat} (hn : 20 ≤ n) (a b : Int) : (evKR Bk Gx fsT n).1 0 85 [.int .i64 a, .int .i64 b] [] ansK = some (.int .i64 (hiI a b), []) := by
  refine call_open (show fsT.find 85 = some a85 from rfl) (by omega) fun n' B cl rd hn' hB hcl hrd => ?_
  have H := greatest_ev (n := n') (by omega) a b
  rw [← hcl] at H
  conv => lhs; whnf
  repeat' ((first | refine Qx hB H ?_ | refine Q0 hB rfl ?_ | refine Q1 hB (by decide) ?_ | refine Q2 hB (by decide) ?_ | refine Q3 hB (by decide) ?_ | refine Q4 hB (by decide) ?_ | refine Q5 hB (by decide) ?_ | refine Q6 hB (by decide) ?_ | refine Q7 hB (by omega) (by omega) ?_ | refine Q8 hB ?_ | refine Q9 hB ?_ | refine Qa hB ?_ | refine Qb hB (fun _ => ?_) (fun _ => ?_) | refine Qc hB ?_ | refine Qd hB ?_ | refine Qe hB ?_ | refine Qf hB ?_ | refine Qg hB ?_ | refine Qh hB ?_ | refine Qi hB ?_ | refine Qj hB rfl ?_ | refine Qk hB rfl ?_ | refine Ql hB (by first | omega | decide) ?_ | refine Qm hB rfl ?_ | refine Qn hB ?_ | refine Qo hB rfl ?_ | refine Qo hB (Qp rfl) ?_ | refine Qq hB rfl ?_ | refine Qr hB ?_ | refine Qs hB ?_ | refine Qt hB ?_ | refine Qu hB ?_ | refine Qv hB rfl ?_) <;> conv => lhs; whnf)
  all_goals rfl
theorem least1_ev {n : Nat} (hn : 20 ≤ n) (a b : Int) : (evKR Bk Gx fsT n).1 0 88 [.int .i64 a, .int .i64 b] [] ansK = some (.int .i64 (loI a b), []) := by
  refine call_open (show fsT.find 88 = some a88 from rfl) (by omega) fun n' B cl rd hn' hB hcl hrd => ?_
  conv => lhs; whnf
  repeat' ((first | refine Qq hB (mn_ok rfl rfl) ?_ | refine Q0 hB rfl ?_ | refine Q1 hB (by decide) ?_ | refine Q2 hB (by decide) ?_ | refine Q3 hB (by decide) ?_ | refine Q4 hB (by decide) ?_ | refine Q5 hB (by decide) ?_ | refine Q6 hB (by decide) ?_ | refine Q7 hB (by omega) (by omega) ?_ | refine Q8 hB ?_ | refine Q9 hB ?_ | refine Qa hB ?_ | refine Qb hB (fun _ => ?_) (fun _ => ?_) | refine Qc hB ?_ | refine Qd hB ?_ | refine Qe hB ?_ | refine Qf hB ?_ | refine Qg hB ?_ | refine Qh hB ?_ | refine Qi hB ?_ | refine Qj hB rfl ?_ | refine Qk hB rfl ?_ | refine Ql hB (by first | omega | decide) ?_ | refine Qm hB rfl ?_ | refine Qn hB ?_ | refine Qo hB rfl ?_ | refine Qo hB (Qp rfl) ?_ | refine Qq hB rfl ?_ | refine Qr hB ?_ | refine Qs hB ?_ | refine Qt hB ?_ | refine Qu hB ?_ | refine Qv hB rfl ?_) <;> conv => lhs; whnf)
  all_goals rfl
theorem most_ev {n : Nat} (hn : 2 ≤ n) : (evKR Bk Gx fsT n).1 0 67 [] [] ansK = some (.agg [.fn 85 [] []], []) := by
  refine call_open (show fsT.find 67 = some a67 from rfl) (by omega) fun n' B cl rd hn' hB hcl hrd => ?_
  conv => lhs; whnf
  repeat' ((first | refine Qw hB ?_ | refine Q0 hB rfl ?_ | refine Q1 hB (by decide) ?_ | refine Q2 hB (by decide) ?_ | refine Q3 hB (by decide) ?_ | refine Q4 hB (by decide) ?_ | refine Q5 hB (by decide) ?_ | refine Q6 hB (by decide) ?_ | refine Q7 hB (by omega) (by omega) ?_ | refine Q8 hB ?_ | refine Q9 hB ?_ | refine Qa hB ?_ | refine Qb hB (fun _ => ?_) (fun _ => ?_) | refine Qc hB ?_ | refine Qd hB ?_ | refine Qe hB ?_ | refine Qf hB ?_ | refine Qg hB ?_ | refine Qh hB ?_ | refine Qi hB ?_ | refine Qj hB rfl ?_ | refine Qk hB rfl ?_ | refine Ql hB (by first | omega | decide) ?_ | refine Qm hB rfl ?_ | refine Qn hB ?_ | refine Qo hB rfl ?_ | refine Qo hB (Qp rfl) ?_ | refine Qq hB rfl ?_ | refine Qr hB ?_ | refine Qs hB ?_ | refine Qt hB ?_ | refine Qu hB ?_ | refine Qv hB rfl ?_) <;> conv => lhs; whnf)
  all_goals rfl
theorem found_ev {n : Nat} (hn : 2 ≤ n) (d : Desk) (hd : d.ok) {gv : AV} (byf : Nat) (os : List AObj) (t : List (Nat × Nat × Nat)) (s : St) {D : Nat} (hD : D = s.length + 1) (hg : gv = .nilM ∨ ∃ lg ig, gv = .mp lg ig ∧ lg < D) (kont : AV → St → Ans) :
    (evKR Bk Gx fsT n).1 D 66 [d.v, gv, .agg [.fn byf [] []]] (⟨os, t⟩ :: s) kont = kont (srch d gv (D - 1) (os.length + 3) byf) (⟨os ++ [.cells d.c, .cells [.fn byf [] []], .cells (d.c ++ [gv, .mp (D - 1) (os.length + 3), .fn byf [] []]), .map []], t⟩ :: s) := by
  refine call_open (show fsT.find 66 = some a66 from rfl) (by omega) fun n' B cl rd hn' hB hcl hrd => ?_
  have hl2 : ∀ (f g : Fr), D + 1 = (f :: g :: s : St).length := fun _ _ => by simp [hD]
  have hl1 : ∀ (g : Fr), D = (g :: s : St).length := fun _ => by simp [hD]
  have hv : mvV D os.length gv = some gv := by
    rcases hg with rfl | ⟨lg, ig, rfl, hlg⟩
    · rfl
    · simp [mvV, hlg]
  have hleave : leave true D (⟨[.cells d.c, .cells [.fn byf [] []], .cells (d.c ++ [gv, .mp D 3, .fn byf [] []]), .map []], []⟩ :: ⟨os, t⟩ :: s) (srch d gv D 3 byf) = some (srch d gv (D - 1) (os.length + 3) byf, ⟨os ++ [.cells d.c, .cells [.fn byf [] []], .cells (d.c ++ [gv, .mp (D - 1) (os.length + 3), .fn byf [] []]), .map []], t⟩ :: s) := by
    simp [leave, mvO, mvV, mvVs, mvE, srch, Desk.c, eraseTok_pur hd.tp, eraseTok_pur hd.tb, hv]
  have hmk : ∀ (cl : Call) (rd : Round) (e : Env) (a b c : AObj), evO cl rd Gx D e (⟨[a, b, c], []⟩ :: ⟨os, t⟩ :: s) .mkmap = some (.mp D 3, ⟨[a, b, c, .map []], []⟩ :: ⟨os, t⟩ :: s) := fun cl rd e a b c => by
    rw [mkmap_ok, ← hl1]; rfl
  rcases hg with rfl | ⟨lg, ig, rfl, hlg⟩
  all_goals
    conv => lhs; whnf
    repeat' ((first | refine Qw hB ?_ | refine Qz hB (hl2 _ _) ((getObj_top (hl1 _)).trans rfl) ?_ | refine Qq hB (hmk _ _ _ _ _ _) ?_ | refine fst_step hB rfl ?_ | refine fbool_same hB (by first | rfl | omega) ?_ | refine QA hB (hl2 _ _) (setTop2 (hl1 _)) ?_ | refine Qv hB hd.tp ?_ | refine Qv hB hd.tb ?_ | refine Qq hB hleave ?_ | refine Q0 hB rfl ?_ | refine Q1 hB (by decide) ?_ | refine Q2 hB (by decide) ?_ | refine Q3 hB (by decide) ?_ | refine Q4 hB (by decide) ?_ | refine Q5 hB (by decide) ?_ | refine Q6 hB (by decide) ?_ | refine Q7 hB (by omega) (by omega) ?_ | refine Q8 hB ?_ | refine Q9 hB ?_ | refine Qa hB ?_ | refine Qb hB (fun _ => ?_) (fun _ => ?_) | refine Qc hB ?_ | refine Qd hB ?_ | refine Qe hB ?_ | refine Qf hB ?_ | refine Qg hB ?_ | refine Qh hB ?_ | refine Qi hB ?_ | refine Qj hB rfl ?_ | refine Qk hB rfl ?_ | refine Ql hB (by first | omega | decide) ?_ | refine Qm hB rfl ?_ | refine Qn hB ?_ | refine Qo hB rfl ?_ | refine Qo hB (Qp rfl) ?_ | refine Qq hB rfl ?_ | refine Qr hB ?_ | refine Qs hB ?_ | refine Qt hB ?_ | refine Qu hB ?_ | refine Qv hB rfl ?_) <;> conv => lhs; whnf)
  all_goals rfl

/-- What lies in a frame behind a call of found. -/
def fnd (d : Desk) (gv : AV) (l byf : Nat) (os : List AObj) (e : List (AV × AV)) : List AObj := os ++ [.cells d.c, .cells [.fn byf [] []], .cells (d.c ++ [gv, .mp l (os.length + 3), .fn byf [] []]), .map e]

/-- The best value of all. -/
def best (d : Desk) (by_ : Int → Int → Int) (ge : List (Int × Int)) : Int := W d by_ (fun i => look ge i) d.bs.length 0 0

/-- What found and worth say, one after the other. -/
theorem search_ev {n : Nat} (hn : 1000000000000100 ≤ n) {byf : Nat} {by_ : Int → Int → Int} (hby : ∀ a b, by_ a b = a ∨ by_ a b = b)
    (HBy : ∀ (n : Nat) (a b : Int), 1000000000000000 ≤ n → -1000000000 ≤ a → a ≤ 1000000000 → -1000000000 ≤ b → b ≤ 1000000000 → (evKR Bk Gx fsT n).1 0 byf [.int .i64 a, .int .i64 b] [] ansK = some (.int .i64 (by_ a b), []))
    (d : Desk) (hd : d.ok) (hc : d.check = true) (ge : List (Int × Int)) {gv : AV} (os : List AObj) (t : List (Nat × Nat × Nat)) (s : St) {D : Nat} (hD : D = s.length + 1) (hg : gv = .nilM ∨ ∃ lg ig, gv = .mp lg ig ∧ lg < D)
    (hge : mapAt (⟨os, t⟩ :: s) gv = some (intsE ge)) (kont : AV → St → Ans) (r : Ans)
    (K : ∀ es', kont (.int .i64 (best d by_ ge)) (⟨fnd d gv (D - 1) byf os es', t⟩ :: s) = r) :
    (evKR Bk Gx fsT n).1 D 68 [srch d gv (D - 1) (os.length + 3) byf, keyV 0 0 0] (⟨fnd d gv (D - 1) byf os [], t⟩ :: s) kont = r := by
  have hf := check_fine hc
  have hnb := hf.nb
  have hsub : D - 1 = s.length := by omega
  refine worth_ev hby HBy d hd hc ge (gv := gv) d.bs.length (Nat.le_refl _) (by omega) 0 (by omega) 0 (by omega) (by omega) (zi := 0) (zt := 0) (by simp) rfl
    (fun e => ⟨fnd d gv (D - 1) byf os e, t⟩ :: s) ?_ [] (fun p hp => by cases hp) kont r (fun es' _ => K es')
  have gO : ∀ (os x : List AObj) (i : Nat) (o : AObj), i = os.length → getO (os ++ o :: x) i = some o := by
    intro os x i o hi
    subst hi
    induction os with
    | nil => rfl
    | cons a os ih => exact ih
  refine ⟨fun e => by simp [hD], by omega, fun e => ?_, fun e e' => ?_, fun e => ?_, hg⟩
  · rw [getObj_top hsub]
    have := gO (os ++ [.cells d.c, .cells [.fn byf [] []], .cells (d.c ++ [gv, .mp (D - 1) (os.length + 3), .fn byf [] []])]) [] (os.length + 3) (.map e) (by simp)
    simpa [fnd] using this
  · rw [setObj_top hsub]
    simp [fnd]
  · rcases hg with rfl | ⟨lg, ig, rfl, hlg⟩
    · exact hge
    · simp only [mapAt] at hge ⊢
      by_cases hl : lg < s.length
      · rw [getObj_sub hl] at hge ⊢; exact hge
      · have hl : lg = s.length := by omega
        rw [getObj_top hl] at hge ⊢
        have : ∀ (os x : List AObj) (i : Nat) (o : AObj), getO os i = some o → getO (os ++ x) i = some o := by
          intro os x i o h
          induction os generalizing i with
          | nil => cases h
          | cons a os ih => cases i with
            | zero => exact h
            | succ i => exact ih i h
        cases h : getO os ig with
        | none => rw [h] at hge; cases hge
        | some o => rw [h] at hge; rw [show getO (fnd d (.mp lg ig) (D - 1) byf os e) ig = some o from this _ _ _ _ h]; exact hge

theorem hiHB : ∀ (n : Nat) (a b : Int), 1000000000000000 ≤ n → -1000000000 ≤ a → a ≤ 1000000000 → -1000000000 ≤ b → b ≤ 1000000000 → (evKR Bk Gx fsT n).1 0 85 [.int .i64 a, .int .i64 b] [] ansK = some (.int .i64 (hiI a b), []) := fun n a b hn _ _ _ _ => most1_ev (by omega) a b
theorem loHB : ∀ (n : Nat) (a b : Int), 1000000000000000 ≤ n → -1000000000 ≤ a → a ≤ 1000000000 → -1000000000 ≤ b → b ≤ 1000000000 → (evKR Bk Gx fsT n).1 0 88 [.int .i64 a, .int .i64 b] [] ansK = some (.int .i64 (loI a b), []) := fun n a b hn _ _ _ _ => least1_ev (by omega) a b

def trueB (d : Desk) : Bool := decide (best d hiI [] ≠ -1)
def canB (d : Desk) (b p : Int) : Bool := decide (best d hiI [(b, p)] ≠ -1)
theorem true_ev {n : Nat} (hn : 1000000000000200 ≤ n) (d : Desk) (hd : d.ok) (hc : d.check = true) : (evKR Bk Gx fsT n).1 0 75 [d.v] [] ansK = some (.bool (trueB d), []) := by
  refine call_open (show fsT.find 75 = some a75 from rfl) (by omega) fun n' B cl rd hn' hB hcl hrd => ?_
  have H67 := most_ev (n := n') (by omega)
  have H66 := fun os t s kont => found_ev (n := n') (by omega) d hd (gv := .nilM) 85 os t s (D := s.length + 1) rfl (.inl rfl) kont
  have H68 := fun os t s kont r => search_ev (n := n') (by omega) hi_or hiHB d hd hc [] (gv := .nilM) os t s (D := s.length + 1) rfl (.inl rfl) rfl kont r
  rw [← hcl] at H67 H66 H68
  conv => lhs; whnf
  repeat' ((first | refine Qw hB ?_ | refine Qv hB hd.tp ?_ | refine Qv hB hd.tb ?_ | refine Qx hB H67 ?_ | refine (H66 _ _ [] _).trans ?_ | refine H68 _ _ [] _ _ (fun es' => ?_) | refine eq_split hB (fun heq => ?_) (fun heq => ?_) | refine Q0 hB rfl ?_ | refine Q1 hB (by decide) ?_ | refine Q2 hB (by decide) ?_ | refine Q3 hB (by decide) ?_ | refine Q4 hB (by decide) ?_ | refine Q5 hB (by decide) ?_ | refine Q6 hB (by decide) ?_ | refine Q7 hB (by omega) (by omega) ?_ | refine Q8 hB ?_ | refine Q9 hB ?_ | refine Qa hB ?_ | refine Qb hB (fun _ => ?_) (fun _ => ?_) | refine Qc hB ?_ | refine Qd hB ?_ | refine Qe hB ?_ | refine Qf hB ?_ | refine Qg hB ?_ | refine Qh hB ?_ | refine Qi hB ?_ | refine Qj hB rfl ?_ | refine Qk hB rfl ?_ | refine Ql hB (by first | omega | decide) ?_ | refine Qm hB rfl ?_ | refine Qn hB ?_ | refine Qo hB rfl ?_ | refine Qo hB (Qp rfl) ?_ | refine Qq hB rfl ?_ | refine Qr hB ?_ | refine Qs hB ?_ | refine Qt hB ?_ | refine Qu hB ?_ | refine Qv hB rfl ?_) <;> conv => lhs; whnf)
  all_goals
    refine congrArg some (congrArg (·, []) (congrArg AV.bool ?_))
    simp [trueB, heq]
theorem can_ev {n : Nat} (hn : 1000000000000200 ≤ n) (d : Desk) (hd : d.ok) (hc : d.check = true) (b p : Int) : (evKR Bk Gx fsT n).1 0 71 [d.v, .int .i64 b, .int .i64 p] [] ansK = some (.bool (canB d b p), []) := by
  refine call_open (show fsT.find 71 = some a71 from rfl) (by omega) fun n' B cl rd hn' hB hcl hrd => ?_
  have H67 := most_ev (n := n') (by omega)
  have H66 := fun os t s kont => found_ev (n := n') (by omega) d hd (gv := .mp 0 1) 85 os t s (D := s.length + 1) rfl (.inr ⟨0, 1, rfl, by omega⟩) kont
  have H68 := fun kont r => search_ev (n := n') (by omega) hi_or hiHB d hd hc [(b, p)] (gv := .mp 0 1) [.cells d.c, .map (intsE [(b, p)])] [] [] (D := 1) rfl (.inr ⟨0, 1, rfl, by omega⟩) rfl kont r
  rw [← hcl] at H67 H66 H68
  conv => lhs; whnf
  repeat' ((first | refine Qw hB ?_ | refine Qv hB hd.tp ?_ | refine Qv hB hd.tb ?_ | refine Qx hB H67 ?_ | refine (H66 _ _ [] _).trans ?_ | refine H68 _ _ (fun es' => ?_) | refine eq_split hB (fun heq => ?_) (fun heq => ?_) | refine Qq hB mkmap_ok ?_ | refine Qq hB (upd_ok rfl rfl rfl rfl rfl) ?_ | refine Q0 hB rfl ?_ | refine Q1 hB (by decide) ?_ | refine Q2 hB (by decide) ?_ | refine Q3 hB (by decide) ?_ | refine Q4 hB (by decide) ?_ | refine Q5 hB (by decide) ?_ | refine Q6 hB (by decide) ?_ | refine Q7 hB (by omega) (by omega) ?_ | refine Q8 hB ?_ | refine Q9 hB ?_ | refine Qa hB ?_ | refine Qb hB (fun _ => ?_) (fun _ => ?_) | refine Qc hB ?_ | refine Qd hB ?_ | refine Qe hB ?_ | refine Qf hB ?_ | refine Qg hB ?_ | refine Qh hB ?_ | refine Qi hB ?_ | refine Qj hB rfl ?_ | refine Qk hB rfl ?_ | refine Ql hB (by first | omega | decide) ?_ | refine Qm hB rfl ?_ | refine Qn hB ?_ | refine Qo hB rfl ?_ | refine Qo hB (Qp rfl) ?_ | refine Qq hB rfl ?_ | refine Qr hB ?_ | refine Qs hB ?_ | refine Qt hB ?_ | refine Qu hB ?_ | refine Qv hB rfl ?_) <;> conv => lhs; whnf)
  all_goals
    refine congrArg some (congrArg (·, []) (congrArg AV.bool ?_))
    simp [canB, heq]
end Go.Ab.Cl

namespace Go.Ab.Cl
open Go.Ab

def zeroD : Desk := ⟨0, 0, 0, 0, [], [], .nil, .nil⟩
/-- What asked says: 0, or an error. -/
def askE (d : Desk) (ok : Bool) : Int := if d.check = true then (if ok = true then (if trueB d = true then 0 else 92) else 91) else 90
def askD (d : Desk) (ok : Bool) : Desk := if askE d ok = 0 then d else zeroD

theorem frz_desk {s : St} {l : Nat} {d : Desk} (hd : d.ok) (e : Int) : frz s l 1000 (.tup [d.v, .int .i64 e]) = some (.tup [d.v, .int .i64 e]) := by
  simp [frz, frzs, Desk.v, Desk.c, eraseTok_pur hd.tp, eraseTok_pur hd.tb]
theorem zero_ok : zeroD.ok := ⟨rfl, rfl, by simp [zeroD], by simp [zeroD], by simp [zeroD]⟩

theorem asked_ev {n : Nat} (hn : 1000000000000300 ≤ n) (d : Desk) (hd : d.ok) (f : Nat) (caps : List AV) (s : St) {D : Nat} (hD : D = s.length) (ok : Bool)
    (HR : ∀ (fr : Fr) (kont : AV → St → Ans), (evKR Bk Gx fsT n).1 (D + 1) f (d.v :: caps) (fr :: s) kont = kont (.bool ok) (fr :: s)) (kont : AV → St → Ans) :
    (evKR Bk Gx fsT (n + 1)).1 D 63 [d.v, .fn f [] caps] s kont = kont (.tup [(askD d ok).v, .int .i64 (askE d ok)]) s := by
  refine call_open (show fsT.find 63 = some a63 from rfl) (by omega) fun n' B cl rd hn' hB hcl hrd => ?_
  obtain rfl : n = n' := by omega
  have HC := Check_ev (G := Gx) (n := n) d hd (by omega)
  rw [← hcl] at HC HR
  have hl1 : ∀ (g : Fr), D + 1 = (g :: s : St).length := fun _ => by simp [hD]
  have z1 := fun e => frz_desk (s := s) (l := D) hd e
  cases hc : d.check
  · rw [hc] at HC
    conv => lhs; whnf
    repeat' ((first | refine Qw hB ?_ | refine Qv hB hd.tp ?_ | refine Qv hB hd.tb ?_ | refine Qz hB (hl1 _) ((getObj_top hD).trans rfl) ?_ | refine QA hB (hl1 _) (setTop1 hD) ?_ | refine QA hB (hl1 _) (setTop2 hD) ?_ | refine Q0 hB (by simp [purs, pur, hd.tp, hd.tb]) ?_ | refine Qx hB HC ?_ | refine fbool_same hB (by first | rfl | omega) ?_ | refine Q0 hB rfl ?_ | refine Q1 hB (by decide) ?_ | refine Q2 hB (by decide) ?_ | refine Q3 hB (by decide) ?_ | refine Q4 hB (by decide) ?_ | refine Q5 hB (by decide) ?_ | refine Q6 hB (by decide) ?_ | refine Q7 hB (by omega) (by omega) ?_ | refine Q8 hB ?_ | refine Q9 hB ?_ | refine Qa hB ?_ | refine Qb hB (fun _ => ?_) (fun _ => ?_) | refine Qc hB ?_ | refine Qd hB ?_ | refine Qe hB ?_ | refine Qf hB ?_ | refine Qg hB ?_ | refine Qh hB ?_ | refine Qi hB ?_ | refine Qj hB rfl ?_ | refine Qk hB rfl ?_ | refine Ql hB (by first | omega | decide) ?_ | refine Qm hB rfl ?_ | refine Qn hB ?_ | refine Qo hB rfl ?_ | refine Qo hB (Qp rfl) ?_ | refine Qq hB rfl ?_ | refine Qr hB ?_ | refine Qs hB ?_ | refine Qt hB ?_ | refine Qu hB ?_ | refine Qv hB rfl ?_) <;> conv => lhs; whnf)
    refine congrArg (fun v => kont v s) ?_
    simp [askD, askE, hc, zeroD, Desk.v, Desk.c, eraseTok]
  · rw [hc] at HC
    have HT := true_ev (n := n) (by omega) d hd hc
    rw [← hcl] at HT
    conv => lhs; whnf
    repeat' ((first | refine Qw hB ?_ | refine Qv hB hd.tp ?_ | refine Qv hB hd.tb ?_ | refine Qz hB (hl1 _) ((getObj_top hD).trans rfl) ?_ | refine QA hB (hl1 _) (setTop1 hD) ?_ | refine QA hB (hl1 _) (setTop2 hD) ?_ | refine Q0 hB (by simp [purs, pur, hd.tp, hd.tb]) ?_ | refine Qx hB HC ?_ | refine fbool_same hB (by first | rfl | omega) ?_ | refine (HR _ _).trans ?_ | refine Q0 hB rfl ?_ | refine Q1 hB (by decide) ?_ | refine Q2 hB (by decide) ?_ | refine Q3 hB (by decide) ?_ | refine Q4 hB (by decide) ?_ | refine Q5 hB (by decide) ?_ | refine Q6 hB (by decide) ?_ | refine Q7 hB (by omega) (by omega) ?_ | refine Q8 hB ?_ | refine Q9 hB ?_ | refine Qa hB ?_ | refine Qb hB (fun _ => ?_) (fun _ => ?_) | refine Qc hB ?_ | refine Qd hB ?_ | refine Qe hB ?_ | refine Qf hB ?_ | refine Qg hB ?_ | refine Qh hB ?_ | refine Qi hB ?_ | refine Qj hB rfl ?_ | refine Qk hB rfl ?_ | refine Ql hB (by first | omega | decide) ?_ | refine Qm hB rfl ?_ | refine Qn hB ?_ | refine Qo hB rfl ?_ | refine Qo hB (Qp rfl) ?_ | refine Qq hB rfl ?_ | refine Qr hB ?_ | refine Qs hB ?_ | refine Qt hB ?_ | refine Qu hB ?_ | refine Qv hB rfl ?_) <;> conv => lhs; whnf)
    cases ok
    · conv => lhs; whnf
      repeat' ((first | refine Qw hB ?_ | refine Qv hB hd.tp ?_ | refine Qv hB hd.tb ?_ | refine Qz hB (hl1 _) ((getObj_top hD).trans rfl) ?_ | refine QA hB (hl1 _) (setTop1 hD) ?_ | refine QA hB (hl1 _) (setTop2 hD) ?_ | refine Q0 hB (by simp [purs, pur, hd.tp, hd.tb]) ?_ | refine Qx hB HC ?_ | refine fbool_same hB (by first | rfl | omega) ?_ | refine Q0 hB rfl ?_ | refine Q1 hB (by decide) ?_ | refine Q2 hB (by decide) ?_ | refine Q3 hB (by decide) ?_ | refine Q4 hB (by decide) ?_ | refine Q5 hB (by decide) ?_ | refine Q6 hB (by decide) ?_ | refine Q7 hB (by omega) (by omega) ?_ | refine Q8 hB ?_ | refine Q9 hB ?_ | refine Qa hB ?_ | refine Qb hB (fun _ => ?_) (fun _ => ?_) | refine Qc hB ?_ | refine Qd hB ?_ | refine Qe hB ?_ | refine Qf hB ?_ | refine Qg hB ?_ | refine Qh hB ?_ | refine Qi hB ?_ | refine Qj hB rfl ?_ | refine Qk hB rfl ?_ | refine Ql hB (by first | omega | decide) ?_ | refine Qm hB rfl ?_ | refine Qn hB ?_ | refine Qo hB rfl ?_ | refine Qo hB (Qp rfl) ?_ | refine Qq hB rfl ?_ | refine Qr hB ?_ | refine Qs hB ?_ | refine Qt hB ?_ | refine Qu hB ?_ | refine Qv hB rfl ?_) <;> conv => lhs; whnf)
      refine congrArg (fun v => kont v s) ?_
      simp [askD, askE, hc, zeroD, Desk.v, Desk.c, eraseTok]
    · cases ht : trueB d
      all_goals
        rw [ht] at HT
        conv => lhs; whnf
        repeat' ((first | refine Qw hB ?_ | refine Qv hB hd.tp ?_ | refine Qv hB hd.tb ?_ | refine Qz hB (hl1 _) ((getObj_top hD).trans rfl) ?_ | refine QA hB (hl1 _) (setTop1 hD) ?_ | refine QA hB (hl1 _) (setTop2 hD) ?_ | refine Q0 hB (by simp [purs, pur, hd.tp, hd.tb]) ?_ | refine Qx hB HC ?_ | refine fbool_same hB (by first | rfl | omega) ?_ | refine Qx hB HT ?_ | refine Q0 hB rfl ?_ | refine Q1 hB (by decide) ?_ | refine Q2 hB (by decide) ?_ | refine Q3 hB (by decide) ?_ | refine Q4 hB (by decide) ?_ | refine Q5 hB (by decide) ?_ | refine Q6 hB (by decide) ?_ | refine Q7 hB (by omega) (by omega) ?_ | refine Q8 hB ?_ | refine Q9 hB ?_ | refine Qa hB ?_ | refine Qb hB (fun _ => ?_) (fun _ => ?_) | refine Qc hB ?_ | refine Qd hB ?_ | refine Qe hB ?_ | refine Qf hB ?_ | refine Qg hB ?_ | refine Qh hB ?_ | refine Qi hB ?_ | refine Qj hB rfl ?_ | refine Qk hB rfl ?_ | refine Ql hB (by first | omega | decide) ?_ | refine Qm hB rfl ?_ | refine Qn hB ?_ | refine Qo hB rfl ?_ | refine Qo hB (Qp rfl) ?_ | refine Qq hB rfl ?_ | refine Qr hB ?_ | refine Qs hB ?_ | refine Qt hB ?_ | refine Qu hB ?_ | refine Qv hB rfl ?_) <;> conv => lhs; whnf)
        refine congrArg (fun v => kont v s) ?_
        simp [askD, askE, hc, ht, zeroD, Desk.v, Desk.c, eraseTok_pur hd.tp, eraseTok_pur hd.tb, show eraseTok .nil = .nil from rfl]

/-! ### lists that grow -/
def rowsI (l : List Int) : List (List AV) := l.map fun k => [.int .i64 k]
def tk (h p : Nat) (l : List Int) : Tok := if l.isEmpty = true then .nil else .site h p 1
def tks (p : Nat) (l : List Int) : List (Nat × Nat × Nat) := if l.isEmpty = true then [] else [(p, 1, l.length)]
theorem clamp_tk {h p lv : Nat} (hl : h ≤ lv) (l : List Int) : clampTok lv (tk h p l) = tk h p l := by
  unfold tk; split
  · rfl
  · simp [clampTok, hl]
theorem app_tk {os : List AObj} {p : Nat} (acc : List Int) (k : Int) (hl : acc.length ≤ 1000) (f : List AObj) :
    appAt 0 [⟨f, []⟩, ⟨os, tks p acc⟩] p 1 8 (.sl (rowsI acc) (tk 0 p acc)) (.sl [[.int .i64 k]] .full) = some (.sl (rowsI (acc ++ [k])) (tk 0 p (acc ++ [k])), [⟨f, []⟩, ⟨os, tks p (acc ++ [k])⟩]) := by
  cases acc with
  | nil => simp [appAt, rowsAt, rowsI, tk, tks, headFit, purs, pur, getTok, setTok, modFr, getFr, tokGet, tokSet]
  | cons a acc =>
    have h1 : ((acc.length + 1 + 1) * 8 ≤ 140737488355328) := by simp at hl; omega
    simp [appAt, rowsAt, rowsI, tk, tks, headFit, purs, pur, getTok, setTok, modFr, getFr, tokGet, tokSet, h1]
/-- All of the list, its room cut off. -/
def wtok (l : List Int) : Tok := if l.isEmpty = true then .nil else .full
theorem wtok_pur (l : List Int) : purTok (wtok l) = true := by unfold wtok; split <;> rfl
theorem slice_tk {h p : Nat} (l : List Int) : sliceAV 1 (.sl (rowsI l) (tk h p l)) none (some (.int .i64 (.ofNat l.length))) (some (.int .i64 (.ofNat l.length))) = some (.sl (rowsI l) (wtok l)) := by
  cases l with
  | nil => rfl
  | cons a l =>
    have h : (0 : Int) ≤ (l.length : Int) + 1 := by omega
    simp [sliceAV, rowsI, headFit, bound, optBound, tk, wtok, h]
    exact List.take_of_length_le (by simp)

/-! ### Which -/
theorem box1_ev {n : Nat} (hn : 3 ≤ n) (d : Desk) (hd : d.ok) (os : List AObj) (z : Int) (hz : getO os 1 = some (.cells [.int .i64 z])) (fr : Fr) (kont : AV → St → Ans) :
    (evKR Bk Gx fsT n).1 2 70 [d.v, .ptr 0 1 0] [fr, ⟨os, []⟩] kont = kont (.bool (within z 0 ((d.bs.length : Int) - 1))) [fr, ⟨os, []⟩] := by
  refine call_open (show fsT.find 70 = some a70 from rfl) (by omega) fun n' B cl rd hn' hB hcl hrd => ?_
  have H := isBox_ev (G := Gx) (n := n') (by omega) d hd z
  rw [← hcl] at H
  conv => lhs; whnf
  repeat' ((first | refine Qw hB ?_ | refine Qv hB hd.tp ?_ | refine Qv hB hd.tb ?_ | refine Q0 hB (by simp [purs, pur, hd.tp, hd.tb]) ?_ | refine Qz hB (s := [_, _, ⟨os, []⟩]) (l := 0) rfl hz ?_ | refine Qx hB H ?_ | refine Q0 hB rfl ?_ | refine Q1 hB (by decide) ?_ | refine Q2 hB (by decide) ?_ | refine Q3 hB (by decide) ?_ | refine Q4 hB (by decide) ?_ | refine Q5 hB (by decide) ?_ | refine Q6 hB (by decide) ?_ | refine Q7 hB (by omega) (by omega) ?_ | refine Q8 hB ?_ | refine Q9 hB ?_ | refine Qa hB ?_ | refine Qb hB (fun _ => ?_) (fun _ => ?_) | refine Qc hB ?_ | refine Qd hB ?_ | refine Qe hB ?_ | refine Qf hB ?_ | refine Qg hB ?_ | refine Qh hB ?_ | refine Qi hB ?_ | refine Qj hB rfl ?_ | refine Qk hB rfl ?_ | refine Ql hB (by first | omega | decide) ?_ | refine Qm hB rfl ?_ | refine Qn hB ?_ | refine Qo hB rfl ?_ | refine Qo hB (Qp rfl) ?_ | refine Qq hB rfl ?_ | refine Qr hB ?_ | refine Qs hB ?_ | refine Qt hB ?_ | refine Qu hB ?_ | refine Qv hB rfl ?_) <;> conv => lhs; whnf)
  all_goals rfl
/-- The parcels, from one on, that a box can be. -/
def whichFrom (d : Desk) (z : Int) (j : Nat) : List Int := List.map (fun k : Nat => (k : Int)) ((List.range' j (d.ps.length - j)).filter fun k => canB d z (k : Int))
theorem whichFrom_end {d : Desk} {z : Int} {j : Nat} (h : d.ps.length ≤ j) : whichFrom d z j = [] := by
  unfold whichFrom
  rw [Nat.sub_eq_zero_of_le h]; rfl
theorem whichFrom_yes {d : Desk} {z : Int} {j : Nat} (h : j < d.ps.length) (hf : canB d z (j : Int) = true) : whichFrom d z j = (j : Int) :: whichFrom d z (j + 1) := by
  unfold whichFrom
  rw [show d.ps.length - j = (d.ps.length - (j + 1)) + 1 by omega, List.range'_succ, List.filter_cons_of_pos (p := fun k : Nat => canB d z (k : Int)) hf]; rfl
theorem whichFrom_no {d : Desk} {z : Int} {j : Nat} (h : j < d.ps.length) (hf : canB d z (j : Int) = false) : whichFrom d z j = whichFrom d z (j + 1) := by
  unfold whichFrom
  rw [show d.ps.length - j = (d.ps.length - (j + 1)) + 1 by omega, List.range'_succ, List.filter_cons_of_neg (p := fun k : Nat => canB d z (k : Int)) (by rw [hf]; exact Bool.false_ne_true)]
def whichE (d : Desk) (z : Int) : Int := askE d (within z 0 ((d.bs.length : Int) - 1))
def whichL (d : Desk) (z : Int) : List Int := if whichE d z = 0 then whichFrom d z 0 else []

theorem a22_L1_step {B : Bnd} (hB : B = Bk) {cl : CallK} {rd : RoundK} (d : Desk) (hd : d.ok) (hp : d.ps.length ≤ 8) (z : Int) (H71 : ∀ k : Int, cl 0 71 [d.v, .int .i64 z, .int .i64 k] [] ansK = some (.bool (canB d z k), []))
    (n : Nat) (k : Ex → Env → St → Ans) (r : Ans) :
    ∀ (j i0 : Nat) (acc : List Int), d.ps.length < i0 + j → i0 ≤ d.ps.length → acc.length ≤ i0 →
    (k (.exit 0) [(3, .ptr 0 1 0), (6, .ptr 0 2 0), (8, .sl (rowsI (acc ++ whichFrom d z i0)) (tk 0 33 (acc ++ whichFrom d z i0))), (22, .int .i64 (.ofNat d.ps.length)), (23, .int .i64 (.ofNat d.ps.length))] [⟨[.cells d.c, .cells [.int .i64 z], .cells d.c], tks 33 (acc ++ whichFrom d z i0)⟩] = r) →
    B.loop (evCK B a22_L1) [3, 6, 8, 22, 23] n j cl rd Gx 0 1 [(3, .ptr 0 1 0), (6, .ptr 0 2 0), (8, .sl (rowsI acc) (tk 0 33 acc)), (22, .int .i64 (.ofNat d.ps.length)), (23, .int .i64 (.ofNat i0))] [⟨[.cells d.c, .cells [.int .i64 z], .cells d.c], tks 33 acc⟩] k = r := by
  intro j
  induction j with
  | zero => intro i0 acc h1 h2; omega
  | succ j ih =>
    intro i0 acc h1 h2 h3 k1
    refine loop_succ hB ?_
    conv => lhs; whnf
    refine lt_nat hB (fun h => ?_) (fun h => ?_) <;> conv => lhs; whnf
    · repeat' ((first | refine Qw hB ?_ | refine Qv hB hd.tp ?_ | refine Qv hB hd.tb ?_ | refine Q0 hB (by simp [purs, pur, hd.tp, hd.tb]) ?_ | refine Qy hB (H71 _) (fun hc => ?_) (fun hc => ?_) | refine Qq hB (app_tk acc (i0 : Int) (by omega) _) ?_ | refine Q0 hB rfl ?_ | refine Q1 hB (by decide) ?_ | refine Q2 hB (by decide) ?_ | refine Q3 hB (by decide) ?_ | refine Q4 hB (by decide) ?_ | refine Q5 hB (by decide) ?_ | refine Q6 hB (by decide) ?_ | refine Q7 hB (by omega) (by omega) ?_ | refine Q8 hB ?_ | refine Q9 hB ?_ | refine Qa hB ?_ | refine Qb hB (fun _ => ?_) (fun _ => ?_) | refine Qc hB ?_ | refine Qd hB ?_ | refine Qe hB ?_ | refine Qf hB ?_ | refine Qg hB ?_ | refine Qh hB ?_ | refine Qi hB ?_ | refine Qj hB rfl ?_ | refine Qk hB rfl ?_ | refine Ql hB (by first | omega | decide) ?_ | refine Qm hB rfl ?_ | refine Qn hB ?_ | refine Qo hB rfl ?_ | refine Qo hB (Qp rfl) ?_ | refine Qq hB rfl ?_ | refine Qr hB ?_ | refine Qs hB ?_ | refine Qt hB ?_ | refine Qu hB ?_ | refine Qv hB rfl ?_) <;> conv => lhs; whnf)
      · rw [whichFrom_yes h hc] at k1
        rw [clamp_tk (by omega)]
        refine ih (i0 + 1) (acc ++ [(i0 : Int)]) (by omega) (by omega) (by simp; omega) ?_
        rw [List.append_assoc]; exact k1
      · rw [whichFrom_no h hc] at k1
        rw [clamp_tk (by omega)]
        exact ih (i0 + 1) acc (by omega) (by omega) (by omega) k1
    · repeat' ((first | refine Q0 hB rfl ?_ | refine Q1 hB (by decide) ?_ | refine Q2 hB (by decide) ?_ | refine Q3 hB (by decide) ?_ | refine Q4 hB (by decide) ?_ | refine Q5 hB (by decide) ?_ | refine Q6 hB (by decide) ?_ | refine Q7 hB (by omega) (by omega) ?_ | refine Q8 hB ?_ | refine Q9 hB ?_ | refine Qa hB ?_ | refine Qb hB (fun _ => ?_) (fun _ => ?_) | refine Qc hB ?_ | refine Qd hB ?_ | refine Qe hB ?_ | refine Qf hB ?_ | refine Qg hB ?_ | refine Qh hB ?_ | refine Qi hB ?_ | refine Qj hB rfl ?_ | refine Qk hB rfl ?_ | refine Ql hB (by first | omega | decide) ?_ | refine Qm hB rfl ?_ | refine Qn hB ?_ | refine Qo hB rfl ?_ | refine Qo hB (Qp rfl) ?_ | refine Qq hB rfl ?_ | refine Qr hB ?_ | refine Qs hB ?_ | refine Qt hB ?_ | refine Qu hB ?_ | refine Qv hB rfl ?_) <;> conv => lhs; whnf)
      have hi : i0 = d.ps.length := by omega
      subst hi
      rw [whichFrom_end (Nat.le_refl _), List.append_nil] at k1
      rw [clamp_tk (by omega)]
      exact k1

theorem Which_ev {n : Nat} (hn : 1000000000000400 ≤ n) (d : Desk) (hd : d.ok) (z : Int) : (evKR Bk Gx fsT n).1 0 22 [d.v, .int .i64 z] [] ansK = some (.tup [.sl (rowsI (whichL d z)) (wtok (whichL d z)), .int .i64 (whichE d z)], []) := by
  refine call_open (show fsT.find 22 = some a22 from rfl) (by omega) fun n' B cl rd hn' hB hcl hrd => ?_
  obtain ⟨n2, rfl⟩ : ∃ n2, n' = n2 + 1 := ⟨n' - 1, by omega⟩
  have H63 := fun kont => asked_ev (n := n2) (by omega) d hd 70 [.ptr 0 1 0] [⟨[.cells d.c, .cells [.int .i64 z]], []⟩] (D := 1) rfl (within z 0 ((d.bs.length : Int) - 1)) (fun fr kont => box1_ev (by omega) d hd _ z rfl fr kont) kont
  have H63 : ∀ kont, (evKR Bk Gx fsT (n2 + 1)).1 1 63 [d.v, .fn 70 [] [.ptr 0 1 0]] [⟨[.cells d.c, .cells [.int .i64 z]], []⟩] kont = kont (.tup [(askD d (within z 0 ((d.bs.length : Int) - 1))).v, .int .i64 (whichE d z)]) [⟨[.cells d.c, .cells [.int .i64 z]], []⟩] := H63
  rw [← hcl] at H63
  by_cases he : whichE d z = 0
  · have hck : d.check = true := by
      unfold whichE askE at he
      cases hc : d.check
      · rw [hc] at he; simp at he
      · rfl
    have hf := check_fine hck
    have hnp := hf.np
    have H71 := fun k => can_ev (n := n2 + 1) (by omega) d hd hck z k
    rw [← hcl] at H71
    have hL : whichL d z = whichFrom d z 0 := by simp [whichL, he]
    rw [show askD d (within z 0 ((d.bs.length : Int) - 1)) = d from if_pos he, he] at H63
    rw [hL, he]
    conv => lhs; whnf
    repeat' ((first | refine Qw hB ?_ | refine Qv hB hd.tp ?_ | refine Qv hB hd.tb ?_ | refine (H63 _).trans ?_ | refine a22_L1_step hB d hd hnp z H71 _ _ _ _ 0 [] (by omega) (by omega) (by simp) ?_ | refine Qm hB (slice_tk _) ?_ | refine Qv hB (wtok_pur _) ?_ | refine Q0 hB rfl ?_ | refine Q1 hB (by decide) ?_ | refine Q2 hB (by decide) ?_ | refine Q3 hB (by decide) ?_ | refine Q4 hB (by decide) ?_ | refine Q5 hB (by decide) ?_ | refine Q6 hB (by decide) ?_ | refine Q7 hB (by omega) (by omega) ?_ | refine Q8 hB ?_ | refine Q9 hB ?_ | refine Qa hB ?_ | refine Qb hB (fun _ => ?_) (fun _ => ?_) | refine Qc hB ?_ | refine Qd hB ?_ | refine Qe hB ?_ | refine Qf hB ?_ | refine Qg hB ?_ | refine Qh hB ?_ | refine Qi hB ?_ | refine Qj hB rfl ?_ | refine Qk hB rfl ?_ | refine Ql hB (by first | omega | decide) ?_ | refine Qm hB rfl ?_ | refine Qn hB ?_ | refine Qo hB rfl ?_ | refine Qo hB (Qp rfl) ?_ | refine Qq hB rfl ?_ | refine Qr hB ?_ | refine Qs hB ?_ | refine Qt hB ?_ | refine Qu hB ?_ | refine Qv hB rfl ?_) <;> conv => lhs; whnf)
    rfl
  · rw [show whichL d z = [] by simp [whichL, he]]
    have hz : (askD d (within z 0 ((d.bs.length : Int) - 1))) = zeroD := if_neg he
    rw [hz] at H63
    conv => lhs; whnf
    repeat' ((first | refine Qw hB ?_ | refine Qv hB hd.tp ?_ | refine Qv hB hd.tb ?_ | refine (H63 _).trans ?_ | refine Q6 hB he ?_ | refine Q0 hB rfl ?_ | refine Q1 hB (by decide) ?_ | refine Q2 hB (by decide) ?_ | refine Q3 hB (by decide) ?_ | refine Q4 hB (by decide) ?_ | refine Q5 hB (by decide) ?_ | refine Q6 hB (by decide) ?_ | refine Q7 hB (by omega) (by omega) ?_ | refine Q8 hB ?_ | refine Q9 hB ?_ | refine Qa hB ?_ | refine Qb hB (fun _ => ?_) (fun _ => ?_) | refine Qc hB ?_ | refine Qd hB ?_ | refine Qe hB ?_ | refine Qf hB ?_ | refine Qg hB ?_ | refine Qh hB ?_ | refine Qi hB ?_ | refine Qj hB rfl ?_ | refine Qk hB rfl ?_ | refine Ql hB (by first | omega | decide) ?_ | refine Qm hB rfl ?_ | refine Qn hB ?_ | refine Qo hB rfl ?_ | refine Qo hB (Qp rfl) ?_ | refine Qq hB rfl ?_ | refine Qr hB ?_ | refine Qs hB ?_ | refine Qt hB ?_ | refine Qu hB ?_ | refine Qv hB rfl ?_) <;> conv => lhs; whnf)
    rfl

/-! ### Told -/
def toldE (d : Desk) (z : Int) : Int := whichE d z
def toldV (d : Desk) (z : Int) : Int := if whichE d z = 0 then (if (whichL d z).length = 0 then 0 else if canB d z (-1) = true then 2 else 1) else 0
theorem Told_ev {n : Nat} (hn : 1000000000000500 ≤ n) (d : Desk) (hd : d.ok) (z : Int) : (evKR Bk Gx fsT n).1 0 25 [d.v, .int .i64 z] [] ansK = some (.tup [.int .i64 (toldV d z), .int .i64 (toldE d z)], []) := by
  refine call_open (show fsT.find 25 = some a25 from rfl) (by omega) fun n' B cl rd hn' hB hcl hrd => ?_
  have H22 := Which_ev (n := n') (by omega) d hd z
  rw [← hcl] at H22
  by_cases he : whichE d z = 0
  · have hck : d.check = true := by
      unfold whichE askE at he
      cases hc : d.check
      · rw [hc] at he; simp at he
      · rfl
    have H71 := can_ev (n := n') (by omega) d hd hck z (-1)
    rw [← hcl] at H71
    rw [he] at H22
    conv => lhs; whnf
    repeat' ((first | refine Qw hB ?_ | refine Qv hB hd.tp ?_ | refine Qv hB hd.tb ?_ | refine Qv hB (wtok_pur _) ?_ | refine Q0 hB (by simp [purs, pur, hd.tp, hd.tb]) ?_ | refine Qx hB H22 ?_ | refine Qy hB H71 (fun hc => ?_) (fun hc => ?_) | refine Q5 hB (by decide) ?_ | refine Q6 hB (by decide) ?_ | refine eq_split hB (fun heq => ?_) (fun heq => ?_) | refine Q0 hB rfl ?_ | refine Q1 hB (by decide) ?_ | refine Q2 hB (by decide) ?_ | refine Q3 hB (by decide) ?_ | refine Q4 hB (by decide) ?_ | refine Q5 hB (by decide) ?_ | refine Q6 hB (by decide) ?_ | refine Q7 hB (by omega) (by omega) ?_ | refine Q8 hB ?_ | refine Q9 hB ?_ | refine Qa hB ?_ | refine Qb hB (fun _ => ?_) (fun _ => ?_) | refine Qc hB ?_ | refine Qd hB ?_ | refine Qe hB ?_ | refine Qf hB ?_ | refine Qg hB ?_ | refine Qh hB ?_ | refine Qi hB ?_ | refine Qj hB rfl ?_ | refine Qk hB rfl ?_ | refine Ql hB (by first | omega | decide) ?_ | refine Qm hB rfl ?_ | refine Qn hB ?_ | refine Qo hB rfl ?_ | refine Qo hB (Qp rfl) ?_ | refine Qq hB rfl ?_ | refine Qr hB ?_ | refine Qs hB ?_ | refine Qt hB ?_ | refine Qu hB ?_ | refine Qv hB rfl ?_) <;> conv => lhs; whnf)
    all_goals
      refine congrArg some (congrArg (·, []) (congrArg AV.tup ?_))
      simp_all [toldV, toldE]
  · conv => lhs; whnf
    repeat' ((first | refine Qw hB ?_ | refine Qv hB hd.tp ?_ | refine Qv hB hd.tb ?_ | refine Qv hB (wtok_pur _) ?_ | refine Q0 hB (by simp [purs, pur, hd.tp, hd.tb]) ?_ | refine Qx hB H22 ?_ | refine Q6 hB he ?_ | refine Q0 hB rfl ?_ | refine Q1 hB (by decide) ?_ | refine Q2 hB (by decide) ?_ | refine Q3 hB (by decide) ?_ | refine Q4 hB (by decide) ?_ | refine Q5 hB (by decide) ?_ | refine Q6 hB (by decide) ?_ | refine Q7 hB (by omega) (by omega) ?_ | refine Q8 hB ?_ | refine Q9 hB ?_ | refine Qa hB ?_ | refine Qb hB (fun _ => ?_) (fun _ => ?_) | refine Qc hB ?_ | refine Qd hB ?_ | refine Qe hB ?_ | refine Qf hB ?_ | refine Qg hB ?_ | refine Qh hB ?_ | refine Qi hB ?_ | refine Qj hB rfl ?_ | refine Qk hB rfl ?_ | refine Ql hB (by first | omega | decide) ?_ | refine Qm hB rfl ?_ | refine Qn hB ?_ | refine Qo hB rfl ?_ | refine Qo hB (Qp rfl) ?_ | refine Qq hB rfl ?_ | refine Qr hB ?_ | refine Qs hB ?_ | refine Qt hB ?_ | refine Qu hB ?_ | refine Qv hB rfl ?_) <;> conv => lhs; whnf)
    refine congrArg some (congrArg (·, []) (congrArg AV.tup ?_))
    simp [toldV, toldE, he]
end Go.Ab.Cl

namespace Go.Ab.Cl
open Go.Ab

theorem always_ev {n : Nat} (hn : 2 ≤ n) (d : Desk) (hd : d.ok) (fr : Fr) (kont : AV → St → Ans) : (evKR Bk Gx fsT n).1 1 64 [d.v] [fr] kont = kont (.bool true) [fr] := by
  refine call_open (show fsT.find 64 = some a64 from rfl) (by omega) fun n' B cl rd hn' hB hcl hrd => ?_
  conv => lhs; whnf
  repeat' ((first | refine Qw hB ?_ | refine Qv hB hd.tp ?_ | refine Qv hB hd.tb ?_ | refine Q0 hB rfl ?_ | refine Q1 hB (by decide) ?_ | refine Q2 hB (by decide) ?_ | refine Q3 hB (by decide) ?_ | refine Q4 hB (by decide) ?_ | refine Q5 hB (by decide) ?_ | refine Q6 hB (by decide) ?_ | refine Q7 hB (by omega) (by omega) ?_ | refine Q8 hB ?_ | refine Q9 hB ?_ | refine Qa hB ?_ | refine Qb hB (fun _ => ?_) (fun _ => ?_) | refine Qc hB ?_ | refine Qd hB ?_ | refine Qe hB ?_ | refine Qf hB ?_ | refine Qg hB ?_ | refine Qh hB ?_ | refine Qi hB ?_ | refine Qj hB rfl ?_ | refine Qk hB rfl ?_ | refine Ql hB (by first | omega | decide) ?_ | refine Qm hB rfl ?_ | refine Qn hB ?_ | refine Qo hB rfl ?_ | refine Qo hB (Qp rfl) ?_ | refine Qq hB rfl ?_ | refine Qr hB ?_ | refine Qs hB ?_ | refine Qt hB ?_ | refine Qu hB ?_ | refine Qv hB rfl ?_) <;> conv => lhs; whnf)
  all_goals rfl
theorem asked0_ev {n : Nat} (hn : 1000000000000301 ≤ n) (d : Desk) (hd : d.ok) : (evKR Bk Gx fsT n).1 0 63 [d.v, .fn 64 [] []] [] ansK = some (.tup [(askD d true).v, .int .i64 (askE d true)], []) := by
  obtain ⟨n2, rfl⟩ : ∃ n2, n = n2 + 1 := ⟨n - 1, by omega⟩
  exact asked_ev (n := n2) (by omega) d hd 64 [] [] rfl true (fun fr kont => always_ev (by omega) d hd fr kont) ansK
theorem ask_check {d : Desk} {ok : Bool} (he : askE d ok = 0) : d.check = true := by
  unfold askE at he
  cases hc : d.check
  · rw [hc] at he; simp at he
  · rfl
theorem askD_ok {d : Desk} (hd : d.ok) (ok : Bool) : (askD d ok).ok := by
  unfold askD; split
  · exact hd
  · exact zero_ok

theorem least_ev {n : Nat} (hn : 2 ≤ n) : (evKR Bk Gx fsT n).1 0 76 [] [] ansK = some (.agg [.fn 88 [] []], []) := by
  refine call_open (show fsT.find 76 = some a76 from rfl) (by omega) fun n' B cl rd hn' hB hcl hrd => ?_
  conv => lhs; whnf
  repeat' ((first | refine Qw hB ?_ | refine Q0 hB rfl ?_ | refine Q1 hB (by decide) ?_ | refine Q2 hB (by decide) ?_ | refine Q3 hB (by decide) ?_ | refine Q4 hB (by decide) ?_ | refine Q5 hB (by decide) ?_ | refine Q6 hB (by decide) ?_ | refine Q7 hB (by omega) (by omega) ?_ | refine Q8 hB ?_ | refine Q9 hB ?_ | refine Qa hB ?_ | refine Qb hB (fun _ => ?_) (fun _ => ?_) | refine Qc hB ?_ | refine Qd hB ?_ | refine Qe hB ?_ | refine Qf hB ?_ | refine Qg hB ?_ | refine Qh hB ?_ | refine Qi hB ?_ | refine Qj hB rfl ?_ | refine Qk hB rfl ?_ | refine Ql hB (by first | omega | decide) ?_ | refine Qm hB rfl ?_ | refine Qn hB ?_ | refine Qo hB rfl ?_ | refine Qo hB (Qp rfl) ?_ | refine Qq hB rfl ?_ | refine Qr hB ?_ | refine Qs hB ?_ | refine Qt hB ?_ | refine Qu hB ?_ | refine Qv hB rfl ?_) <;> conv => lhs; whnf)
  all_goals rfl
theorem desk_self (d : Desk) : selfVs d.c = true := by
  simp [Desk.c, selfVs, selfV, selfVss_map (f := Parcel.c) (fun p => by simp [Parcel.c, selfVs, selfV]), selfVss_map (f := Box.c) (fun p => by simp [Box.c, selfVs, selfV])]

def worthLo (d : Desk) : Int := if askE d true = 0 then best d loI [] else 0
def worthHi (d : Desk) : Int := if askE d true = 0 then best d hiI [] else 0
theorem Worth_ev {n : Nat} (hn : 1000000000000500 ≤ n) (d : Desk) (hd : d.ok) : (evKR Bk Gx fsT n).1 0 29 [d.v] [] ansK = some (.tup [.agg [.int .i64 (worthLo d), .int .i64 (worthHi d)], .int .i64 (askE d true)], []) := by
  refine call_open (show fsT.find 29 = some a29 from rfl) (by omega) fun n' B cl rd hn' hB hcl hrd => ?_
  have H63 := asked0_ev (n := n') (by omega) d hd
  rw [← hcl] at H63
  by_cases he : askE d true = 0
  · have hck := ask_check he
    have H67 := most_ev (n := n') (by omega)
    have H76 := least_ev (n := n') (by omega)
    have H66 := fun byf os t s kont => found_ev (n := n') (by omega) d hd (gv := .nilM) byf os t s (D := s.length + 1) rfl (.inl rfl) kont
    have H68 := fun os t s kont r => search_ev (n := n') (by omega) hi_or hiHB d hd hck [] (gv := .nilM) os t s (D := s.length + 1) rfl (.inl rfl) rfl kont r
    have H69 := fun os t s kont r => search_ev (n := n') (by omega) lo_or loHB d hd hck [] (gv := .nilM) os t s (D := s.length + 1) rfl (.inl rfl) rfl kont r
    rw [← hcl] at H66 H67 H68 H69 H76
    rw [show askD d true = d from if_pos he, he] at H63
    rw [he, show worthLo d = best d loI [] from if_pos he, show worthHi d = best d hiI [] from if_pos he]
    conv => lhs; whnf
    repeat' ((first | refine Qw hB ?_ | refine Qv hB hd.tp ?_ | refine Qv hB hd.tb ?_ | refine Q0 hB (by simp [purs, pur, hd.tp, hd.tb]) ?_ | refine Qx hB H63 ?_ | refine Qx hB H67 ?_ | refine Qx hB H76 ?_ | refine Q5 hB (by decide) ?_ | refine (H66 _ _ _ [] _).trans ?_ | refine H68 _ _ [] _ _ (fun es' => ?_) | refine H69 _ _ [] _ _ (fun es' => ?_) | refine Qo hB (kept_one rfl rfl (desk_self d)) ?_ | refine Q0 hB rfl ?_ | refine Q1 hB (by decide) ?_ | refine Q2 hB (by decide) ?_ | refine Q3 hB (by decide) ?_ | refine Q4 hB (by decide) ?_ | refine Q5 hB (by decide) ?_ | refine Q6 hB (by decide) ?_ | refine Q7 hB (by omega) (by omega) ?_ | refine Q8 hB ?_ | refine Q9 hB ?_ | refine Qa hB ?_ | refine Qb hB (fun _ => ?_) (fun _ => ?_) | refine Qc hB ?_ | refine Qd hB ?_ | refine Qe hB ?_ | refine Qf hB ?_ | refine Qg hB ?_ | refine Qh hB ?_ | refine Qi hB ?_ | refine Qj hB rfl ?_ | refine Qk hB rfl ?_ | refine Ql hB (by first | omega | decide) ?_ | refine Qm hB rfl ?_ | refine Qn hB ?_ | refine Qo hB rfl ?_ | refine Qo hB (Qp rfl) ?_ | refine Qq hB rfl ?_ | refine Qr hB ?_ | refine Qs hB ?_ | refine Qt hB ?_ | refine Qu hB ?_ | refine Qv hB rfl ?_) <;> conv => lhs; whnf)
    rfl
  · rw [show worthLo d = 0 from if_neg he, show worthHi d = 0 from if_neg he]
    conv => lhs; whnf
    repeat' ((first | refine Qw hB ?_ | refine Qv hB hd.tp ?_ | refine Qv hB hd.tb ?_ | refine Qv hB (askD_ok hd true).tp ?_ | refine Qv hB (askD_ok hd true).tb ?_ | refine Q0 hB (by simp [purs, pur, hd.tp, hd.tb]) ?_ | refine Qx hB H63 ?_ | refine Q6 hB he ?_ | refine Q0 hB rfl ?_ | refine Q1 hB (by decide) ?_ | refine Q2 hB (by decide) ?_ | refine Q3 hB (by decide) ?_ | refine Q4 hB (by decide) ?_ | refine Q5 hB (by decide) ?_ | refine Q6 hB (by decide) ?_ | refine Q7 hB (by omega) (by omega) ?_ | refine Q8 hB ?_ | refine Q9 hB ?_ | refine Qa hB ?_ | refine Qb hB (fun _ => ?_) (fun _ => ?_) | refine Qc hB ?_ | refine Qd hB ?_ | refine Qe hB ?_ | refine Qf hB ?_ | refine Qg hB ?_ | refine Qh hB ?_ | refine Qi hB ?_ | refine Qj hB rfl ?_ | refine Qk hB rfl ?_ | refine Ql hB (by first | omega | decide) ?_ | refine Qm hB rfl ?_ | refine Qn hB ?_ | refine Qo hB rfl ?_ | refine Qo hB (Qp rfl) ?_ | refine Qq hB rfl ?_ | refine Qr hB ?_ | refine Qs hB ?_ | refine Qt hB ?_ | refine Qu hB ?_ | refine Qv hB rfl ?_) <;> conv => lhs; whnf)
    all_goals rfl

/-! ### Fewest -/
def dS (d : Desk) (s : Int) : Desk := { d with strange := s }
theorem dS_ok {d : Desk} (hd : d.ok) (s : Int) : (dS d s).ok := ⟨hd.tp, hd.tb, hd.ps, hd.bs, hd.str⟩
theorem dS_check {d : Desk} (hc : d.check = true) {s : Int} (h0 : 0 ≤ s) (h6 : s ≤ 6) : (dS d s).check = true := by
  simp only [Desk.check, dS, Bool.and_eq_true, decide_eq_true_eq, within] at hc ⊢
  simp_all
def fewR (d : Desk) : Int × Int := if d.check = true then (match (List.range 7).find? (fun n : Nat => trueB (dS d (n : Int))) with
  | some n => ((n : Int), 0)
  | none => (0, 4)) else (0, 90)
set_option maxHeartbeats 20000000 in
theorem Fewest_ev {n : Nat} (hn : 1000000000000500 ≤ n) (d : Desk) (hd : d.ok) : (evKR Bk Gx fsT n).1 0 31 [d.v] [] ansK = some (.tup [.int .i64 (fewR d).1, .int .i64 (fewR d).2], []) := by
  refine call_open (show fsT.find 31 = some a31 from rfl) (by omega) fun n' B cl rd hn' hB hcl hrd => ?_
  have HC := Check_ev (G := Gx) (n := n') d hd (by omega)
  rw [← hcl] at HC
  cases hc : d.check
  · rw [hc] at HC
    rw [show fewR d = (0, 90) by simp [fewR, hc]]
    conv => lhs; whnf
    repeat' ((first | refine Qw hB ?_ | refine Qv hB hd.tp ?_ | refine Qv hB hd.tb ?_ | refine Q0 hB (by simp [purs, pur, hd.tp, hd.tb]) ?_ | refine Qx hB HC ?_ | refine Q0 hB rfl ?_ | refine Q1 hB (by decide) ?_ | refine Q2 hB (by decide) ?_ | refine Q3 hB (by decide) ?_ | refine Q4 hB (by decide) ?_ | refine Q5 hB (by decide) ?_ | refine Q6 hB (by decide) ?_ | refine Q7 hB (by omega) (by omega) ?_ | refine Q8 hB ?_ | refine Q9 hB ?_ | refine Qa hB ?_ | refine Qb hB (fun _ => ?_) (fun _ => ?_) | refine Qc hB ?_ | refine Qd hB ?_ | refine Qe hB ?_ | refine Qf hB ?_ | refine Qg hB ?_ | refine Qh hB ?_ | refine Qi hB ?_ | refine Qj hB rfl ?_ | refine Qk hB rfl ?_ | refine Ql hB (by first | omega | decide) ?_ | refine Qm hB rfl ?_ | refine Qn hB ?_ | refine Qo hB rfl ?_ | refine Qo hB (Qp rfl) ?_ | refine Qq hB rfl ?_ | refine Qr hB ?_ | refine Qs hB ?_ | refine Qt hB ?_ | refine Qu hB ?_ | refine Qv hB rfl ?_) <;> conv => lhs; whnf)
    all_goals rfl
  · rw [hc] at HC
    have H75 := fun (s : Int) h0 h6 => true_ev (n := n') (by omega) (dS d s) (dS_ok hd s) (dS_check hc (s := s) h0 h6)
    rw [← hcl] at H75
    conv => lhs; whnf
    repeat' ((first | refine Qw hB ?_ | refine Qv hB hd.tp ?_ | refine Qv hB hd.tb ?_ | refine Q0 hB (by simp [purs, pur, hd.tp, hd.tb]) ?_ | refine Qx hB HC ?_ | refine loop_step hB (by omega) ?_ | refine Qy hB (H75 0 (by decide) (by decide)) (fun h0 => ?_) (fun h0 => ?_) | refine Qy hB (H75 1 (by decide) (by decide)) (fun h1 => ?_) (fun h1 => ?_) | refine Qy hB (H75 2 (by decide) (by decide)) (fun h2 => ?_) (fun h2 => ?_) | refine Qy hB (H75 3 (by decide) (by decide)) (fun h3 => ?_) (fun h3 => ?_) | refine Qy hB (H75 4 (by decide) (by decide)) (fun h4 => ?_) (fun h4 => ?_) | refine Qy hB (H75 5 (by decide) (by decide)) (fun h5 => ?_) (fun h5 => ?_) | refine Qy hB (H75 6 (by decide) (by decide)) (fun h6 => ?_) (fun h6 => ?_) | refine add_step hB (by decide) (by decide) ?_ | refine Q0 hB rfl ?_ | refine Q1 hB (by decide) ?_ | refine Q2 hB (by decide) ?_ | refine Q3 hB (by decide) ?_ | refine Q4 hB (by decide) ?_ | refine Q5 hB (by decide) ?_ | refine Q6 hB (by decide) ?_ | refine Q7 hB (by omega) (by omega) ?_ | refine Q8 hB ?_ | refine Q9 hB ?_ | refine Qa hB ?_ | refine Qb hB (fun _ => ?_) (fun _ => ?_) | refine Qc hB ?_ | refine Qd hB ?_ | refine Qe hB ?_ | refine Qf hB ?_ | refine Qg hB ?_ | refine Qh hB ?_ | refine Qi hB ?_ | refine Qj hB rfl ?_ | refine Qk hB rfl ?_ | refine Ql hB (by first | omega | decide) ?_ | refine Qm hB rfl ?_ | refine Qn hB ?_ | refine Qo hB rfl ?_ | refine Qo hB (Qp rfl) ?_ | refine Qq hB rfl ?_ | refine Qr hB ?_ | refine Qs hB ?_ | refine Qt hB ?_ | refine Qu hB ?_ | refine Qv hB rfl ?_) <;> conv => lhs; whnf)
    all_goals simp [fewR, List.range, List.range.loop, *]
end Go.Ab.Cl
