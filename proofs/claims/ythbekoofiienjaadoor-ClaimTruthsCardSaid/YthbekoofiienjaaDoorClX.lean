/-
  The claims: whether what was seen can be true; whether a box can be a parcel in a truth.
-/
import Derived.Test.YthbekoofiienjaaDoorClW
namespace Go.Ab.Cl
open Go.Ab

def hiI (a b : Int) : Int := if b > a then b else a
def loI (a b : Int) : Int := if b < a then b else a
theorem hi_or (a b : Int) : hiI a b = a ∨ hiI a b = b := by unfold hiI; split <;> simp
theorem lo_or (a b : Int) : loI a b = a ∨ loI a b = b := by unfold loI; split <;> simp
theorem mx_ok {cl : Call} {rd : Round} {G : Nat → List AV} {h : Nat} {e : Env} {s : St} {x y : X} {a b : Int} (hx : x.ev G e = .int .i64 a) (hy : y.ev G e = .int .i64 b) : evO cl rd G h e s (.mx x [y]) = some (.int .i64 (hiI a b), s) := by
  simp [evO, hx, hy, foldAV, mxAV, hiI]
theorem mn_ok {cl : Call} {rd : Round} {G : Nat → List AV} {h : Nat} {e : Env} {s : St} {x y : X} {a b : Int} (hx : x.ev G e = .int .i64 a) (hy : y.ev G e = .int .i64 b) : evO cl rd G h e s (.mn x [y]) = some (.int .i64 (loI a b), s) := by
  simp [evO, hx, hy, foldAV, mnAV, loI]

theorem greatest_ev {n : Nat} (hn : 10 ≤ n) (a b : Int) : (evKR Bk Gx fsT n).1 0 86 [.int .i64 a, .sl [[.int .i64 b]] .full] [] ansK = some (.int .i64 (hiI a b), []) := by
  refine call_open (show fsT.find 86 = some a86 from rfl) (by omega) fun n' B cl rd hn' hB hcl hrd => ?_
  conv => lhs; whnf
  repeat' ((first
    | refine lt_tt hB (show (0 : Int) < 1 by decide) ?_
    | refine lt_ff hB (show ¬ (1 : Int) < 1 by decide) ?_
    | refine loop_step hB (by omega) ?_
    | refine natOf_step hB (m := 0) rfl ?_
    | refine nth_step hB (x := [.int .i64 b]) rfl ?_
    | refine opt2_step hB (mx_ok rfl rfl) ?_
    | refine purs_step hB rfl ?_
    | refine lt_tt hB (by decide) ?_
    | refine lt_ff hB (by decide) ?_
    | refine le_tt hB (by decide) ?_
    | refine le_ff hB (by decide) ?_
    | refine eq_tt hB (by decide) ?_
    | refine eq_ff hB (by decide) ?_
    | refine fint_wrp hB (by omega) (by omega) ?_
    | refine fint_step hB ?_
    | refine fbool_tt hB ?_
    | refine fbool_ff hB ?_
    | refine fbool_split hB (fun _ => ?_) (fun _ => ?_)
    | refine ftok_step hB ?_
    | refine frows_step hB ?_
    | refine fstr_step hB ?_
    | refine len_map hB ?_
    | refine len_step hB ?_
    | refine lens_step hB ?_
    | refine byte_step hB ?_
    | refine drop_step hB rfl ?_
    | refine fl_step hB rfl ?_
    | refine add_one hB (by first | omega | decide) ?_
    | refine opt_step hB rfl ?_
    | refine fnat_step hB ?_
    | refine ifk_step hB rfl ?_
    | refine ifk_step hB (flat_or rfl) ?_
    | refine opt2_step hB rfl ?_
    | refine obj_raw hB ?_
    | refine sob_raw hB ?_
    | refine fst_raw hB ?_
    | refine optl_raw hB ?_
    | refine tok_step hB rfl ?_
    ) <;> conv => lhs; whnf)
  all_goals rfl
theorem most1_ev {n : Nat} (hn : 20 ≤ n) (a b : Int) : (evKR Bk Gx fsT n).1 0 85 [.int .i64 a, .int .i64 b] [] ansK = some (.int .i64 (hiI a b), []) := by
  refine call_open (show fsT.find 85 = some a85 from rfl) (by omega) fun n' B cl rd hn' hB hcl hrd => ?_
  have H := greatest_ev (n := n') (by omega) a b
  rw [← hcl] at H
  conv => lhs; whnf
  repeat' ((first
    | refine pans_step hB H ?_
    | refine purs_step hB rfl ?_
    | refine lt_tt hB (by decide) ?_
    | refine lt_ff hB (by decide) ?_
    | refine le_tt hB (by decide) ?_
    | refine le_ff hB (by decide) ?_
    | refine eq_tt hB (by decide) ?_
    | refine eq_ff hB (by decide) ?_
    | refine fint_wrp hB (by omega) (by omega) ?_
    | refine fint_step hB ?_
    | refine fbool_tt hB ?_
    | refine fbool_ff hB ?_
    | refine fbool_split hB (fun _ => ?_) (fun _ => ?_)
    | refine ftok_step hB ?_
    | refine frows_step hB ?_
    | refine fstr_step hB ?_
    | refine len_map hB ?_
    | refine len_step hB ?_
    | refine lens_step hB ?_
    | refine byte_step hB ?_
    | refine drop_step hB rfl ?_
    | refine fl_step hB rfl ?_
    | refine add_one hB (by first | omega | decide) ?_
    | refine opt_step hB rfl ?_
    | refine fnat_step hB ?_
    | refine ifk_step hB rfl ?_
    | refine ifk_step hB (flat_or rfl) ?_
    | refine opt2_step hB rfl ?_
    | refine obj_raw hB ?_
    | refine sob_raw hB ?_
    | refine fst_raw hB ?_
    | refine optl_raw hB ?_
    | refine tok_step hB rfl ?_
    ) <;> conv => lhs; whnf)
  all_goals rfl
theorem least1_ev {n : Nat} (hn : 20 ≤ n) (a b : Int) : (evKR Bk Gx fsT n).1 0 88 [.int .i64 a, .int .i64 b] [] ansK = some (.int .i64 (loI a b), []) := by
  refine call_open (show fsT.find 88 = some a88 from rfl) (by omega) fun n' B cl rd hn' hB hcl hrd => ?_
  conv => lhs; whnf
  repeat' ((first
    | refine opt2_step hB (mn_ok rfl rfl) ?_
    | refine purs_step hB rfl ?_
    | refine lt_tt hB (by decide) ?_
    | refine lt_ff hB (by decide) ?_
    | refine le_tt hB (by decide) ?_
    | refine le_ff hB (by decide) ?_
    | refine eq_tt hB (by decide) ?_
    | refine eq_ff hB (by decide) ?_
    | refine fint_wrp hB (by omega) (by omega) ?_
    | refine fint_step hB ?_
    | refine fbool_tt hB ?_
    | refine fbool_ff hB ?_
    | refine fbool_split hB (fun _ => ?_) (fun _ => ?_)
    | refine ftok_step hB ?_
    | refine frows_step hB ?_
    | refine fstr_step hB ?_
    | refine len_map hB ?_
    | refine len_step hB ?_
    | refine lens_step hB ?_
    | refine byte_step hB ?_
    | refine drop_step hB rfl ?_
    | refine fl_step hB rfl ?_
    | refine add_one hB (by first | omega | decide) ?_
    | refine opt_step hB rfl ?_
    | refine fnat_step hB ?_
    | refine ifk_step hB rfl ?_
    | refine ifk_step hB (flat_or rfl) ?_
    | refine opt2_step hB rfl ?_
    | refine obj_raw hB ?_
    | refine sob_raw hB ?_
    | refine fst_raw hB ?_
    | refine optl_raw hB ?_
    | refine tok_step hB rfl ?_
    ) <;> conv => lhs; whnf)
  all_goals rfl
theorem most_ev {n : Nat} (hn : 2 ≤ n) : (evKR Bk Gx fsT n).1 0 67 [] [] ansK = some (.agg [.fn 85 [] []], []) := by
  refine call_open (show fsT.find 67 = some a67 from rfl) (by omega) fun n' B cl rd hn' hB hcl hrd => ?_
  conv => lhs; whnf
  repeat' ((first
    | refine fnat_pred hB ?_
    | refine purs_step hB rfl ?_
    | refine lt_tt hB (by decide) ?_
    | refine lt_ff hB (by decide) ?_
    | refine le_tt hB (by decide) ?_
    | refine le_ff hB (by decide) ?_
    | refine eq_tt hB (by decide) ?_
    | refine eq_ff hB (by decide) ?_
    | refine fint_wrp hB (by omega) (by omega) ?_
    | refine fint_step hB ?_
    | refine fbool_tt hB ?_
    | refine fbool_ff hB ?_
    | refine fbool_split hB (fun _ => ?_) (fun _ => ?_)
    | refine ftok_step hB ?_
    | refine frows_step hB ?_
    | refine fstr_step hB ?_
    | refine len_map hB ?_
    | refine len_step hB ?_
    | refine lens_step hB ?_
    | refine byte_step hB ?_
    | refine drop_step hB rfl ?_
    | refine fl_step hB rfl ?_
    | refine add_one hB (by first | omega | decide) ?_
    | refine opt_step hB rfl ?_
    | refine fnat_step hB ?_
    | refine ifk_step hB rfl ?_
    | refine ifk_step hB (flat_or rfl) ?_
    | refine opt2_step hB rfl ?_
    | refine obj_raw hB ?_
    | refine sob_raw hB ?_
    | refine fst_raw hB ?_
    | refine optl_raw hB ?_
    | refine tok_step hB rfl ?_
    ) <;> conv => lhs; whnf)
  all_goals rfl
theorem found_ev {n : Nat} (hn : 2 ≤ n) (d : Desk) (hd : d.ok) {gv : AV} (byf : Nat) (os : List AObj) (t : List (Nat × Nat × Nat)) (s : St) {D : Nat} (hD : D = s.length + 1) (hg : gv = .nilM ∨ ∃ lg ig, gv = .mp lg ig ∧ lg < D) (kont : AV → St → Ans) :
    (evKR Bk Gx fsT n).1 D 66 [d.v, gv, .agg [.fn byf [] []]] (⟨os, t⟩ :: s) kont = kont (srch d gv (D - 1) (os.length + 3) byf) (⟨os ++ [.cells d.c, .cells [.fn byf [] []], .cells (d.c ++ [gv, .mp (D - 1) (os.length + 3), .fn byf [] []]), .map []], t⟩ :: s) := by
  refine call_open (show fsT.find 66 = some a66 from rfl) (by omega) fun n' B cl rd hn' hB hcl hrd => ?_
  have hl2 : ∀ (f g : Fr), D + 1 = (f :: g :: s : St).length := fun _ _ => by simp [hD]
  have hl1 : ∀ (g : Fr), D = (g :: s : St).length := fun _ => by simp [hD]
  have hv : mvV D os.length gv = some gv := by
    rcases hg with rfl | ⟨lg, ig, rfl, hlg⟩
    · rfl
    · simp [mvV, hlg]
  have hleave : leave true D (⟨[.cells d.c, .cells [.fn byf [] []], .cells (d.c ++ [gv, .mp D 3, .fn byf [] []]), .map []], []⟩ :: ⟨os, t⟩ :: s) (srch d gv D 3 byf) = some (srch d gv (D - 1) (os.length + 3) byf, ⟨os ++ [.cells d.c, .cells [.fn byf [] []], .cells (d.c ++ [gv, .mp (D - 1) (os.length + 3), .fn byf [] []]), .map []], t⟩ :: s) := by
    simp [leave, mvO, mvV, mvVs, mvE, srch, Desk.c, eraseTok_pur hd.tp, eraseTok_pur hd.tb, hv]
  have hmk : ∀ (cl : Call) (rd : Round) (e : Env) (a b c : AObj), evO cl rd Gx D e (⟨[a, b, c], []⟩ :: ⟨os, t⟩ :: s) .mkmap = some (.mp D 3, ⟨[a, b, c, .map []], []⟩ :: ⟨os, t⟩ :: s) := fun cl rd e a b c => by
    rw [mkmap_ok, ← hl1]; rfl
  rcases hg with rfl | ⟨lg, ig, rfl, hlg⟩
  all_goals
    conv => lhs; whnf
    repeat' ((first
      | refine fnat_pred hB ?_
      | refine obj_step hB (hl2 _ _) ((getObj_top (hl1 _)).trans rfl) ?_
      | refine opt2_step hB (hmk _ _ _ _ _ _) ?_
      | refine fst_step hB rfl ?_
      | refine fbool_same hB (by first
      | rfl
      | omega) ?_
      | refine sob_step hB (hl2 _ _) (setTop2 (hl1 _)) ?_
      | refine tok_step hB hd.tp ?_
      | refine tok_step hB hd.tb ?_
      | refine opt2_step hB hleave ?_
      | refine purs_step hB rfl ?_
      | refine lt_tt hB (by decide) ?_
      | refine lt_ff hB (by decide) ?_
      | refine le_tt hB (by decide) ?_
      | refine le_ff hB (by decide) ?_
      | refine eq_tt hB (by decide) ?_
      | refine eq_ff hB (by decide) ?_
      | refine fint_wrp hB (by omega) (by omega) ?_
      | refine fint_step hB ?_
      | refine fbool_tt hB ?_
      | refine fbool_ff hB ?_
      | refine fbool_split hB (fun _ => ?_) (fun _ => ?_)
      | refine ftok_step hB ?_
      | refine frows_step hB ?_
      | refine fstr_step hB ?_
      | refine len_map hB ?_
      | refine len_step hB ?_
      | refine lens_step hB ?_
      | refine byte_step hB ?_
      | refine drop_step hB rfl ?_
      | refine fl_step hB rfl ?_
      | refine add_one hB (by first | omega | decide) ?_
      | refine opt_step hB rfl ?_
      | refine fnat_step hB ?_
      | refine ifk_step hB rfl ?_
      | refine ifk_step hB (flat_or rfl) ?_
      | refine opt2_step hB rfl ?_
      | refine obj_raw hB ?_
      | refine sob_raw hB ?_
      | refine fst_raw hB ?_
      | refine optl_raw hB ?_
      | refine tok_step hB rfl ?_
      ) <;> conv => lhs; whnf)
  all_goals rfl

/-- What lies in a frame behind a call of found. -/
def fnd (d : Desk) (gv : AV) (l byf : Nat) (os : List AObj) (e : List (AV × AV)) : List AObj := os ++ [.cells d.c, .cells [.fn byf [] []], .cells (d.c ++ [gv, .mp l (os.length + 3), .fn byf [] []]), .map e]

/-- The best value of all. -/
def best (d : Desk) (by_ : Int → Int → Int) (ge : List (Int × Int)) : Int := W d by_ (fun i => look ge i) d.bs.length 0 0

/-- What found and worth say, one after the other. -/
theorem search_ev {n : Nat} (hn : 1000000000000100 ≤ n) {byf : Nat} {by_ : Int → Int → Int} (hby : ∀ a b, by_ a b = a ∨ by_ a b = b)
    (HBy : ∀ (n : Nat) (a b : Int), 1000000000000000 ≤ n → -1000000000 ≤ a → a ≤ 1000000000 → -1000000000 ≤ b → b ≤ 1000000000 → (evKR Bk Gx fsT n).1 0 byf [.int .i64 a, .int .i64 b] [] ansK = some (.int .i64 (by_ a b), []))
    (d : Desk) (hd : d.ok) (hc : d.check = true) (ge : List (Int × Int)) {gv : AV} (os : List AObj) (t : List (Nat × Nat × Nat)) (s : St) {D : Nat} (hD : D = s.length + 1) (hg : gv = .nilM ∨ ∃ lg ig, gv = .mp lg ig ∧ lg < D)
    (hge : mapAt (⟨os, t⟩ :: s) gv = some (intsE ge)) (kont : AV → St → Ans) (r : Ans)
    (K : ∀ es', kont (.int .i64 (best d by_ ge)) (⟨fnd d gv (D - 1) byf os es', t⟩ :: s) = r) :
    (evKR Bk Gx fsT n).1 D 68 [srch d gv (D - 1) (os.length + 3) byf, keyV 0 0 0] (⟨fnd d gv (D - 1) byf os [], t⟩ :: s) kont = r := by
  have hf := check_fine hc
  have hnb := hf.nb
  have hsub : D - 1 = s.length := by omega
  refine worth_ev hby HBy d hd hc ge (gv := gv) d.bs.length (Nat.le_refl _) (by omega) 0 (by omega) 0 (by omega) (by omega) (zi := 0) (zt := 0) (by simp) rfl
    (fun e => ⟨fnd d gv (D - 1) byf os e, t⟩ :: s) ?_ [] (fun p hp => by cases hp) kont r (fun es' _ => K es')
  have gO : ∀ (os x : List AObj) (i : Nat) (o : AObj), i = os.length → getO (os ++ o :: x) i = some o := by
    intro os x i o hi
    subst hi
    induction os with
    | nil => rfl
    | cons a os ih => exact ih
  refine ⟨fun e => by simp [hD], by omega, fun e => ?_, fun e e' => ?_, fun e => ?_, hg⟩
  · rw [getObj_top hsub]
    have := gO (os ++ [.cells d.c, .cells [.fn byf [] []], .cells (d.c ++ [gv, .mp (D - 1) (os.length + 3), .fn byf [] []])]) [] (os.length + 3) (.map e) (by simp)
    simpa [fnd] using this
  · rw [setObj_top hsub]
    simp [fnd]
  · rcases hg with rfl | ⟨lg, ig, rfl, hlg⟩
    · exact hge
    · simp only [mapAt] at hge ⊢
      by_cases hl : lg < s.length
      · rw [getObj_sub hl] at hge ⊢; exact hge
      · have hl : lg = s.length := by omega
        rw [getObj_top hl] at hge ⊢
        have : ∀ (os x : List AObj) (i : Nat) (o : AObj), getO os i = some o → getO (os ++ x) i = some o := by
          intro os x i o h
          induction os generalizing i with
          | nil => cases h
          | cons a os ih => cases i with
            | zero => exact h
            | succ i => exact ih i h
        cases h : getO os ig with
        | none => rw [h] at hge; cases hge
        | some o => rw [h] at hge; rw [show getO (fnd d (.mp lg ig) (D - 1) byf os e) ig = some o from this _ _ _ _ h]; exact hge

theorem hiHB : ∀ (n : Nat) (a b : Int), 1000000000000000 ≤ n → -1000000000 ≤ a → a ≤ 1000000000 → -1000000000 ≤ b → b ≤ 1000000000 → (evKR Bk Gx fsT n).1 0 85 [.int .i64 a, .int .i64 b] [] ansK = some (.int .i64 (hiI a b), []) := fun n a b hn _ _ _ _ => most1_ev (by omega) a b
theorem loHB : ∀ (n : Nat) (a b : Int), 1000000000000000 ≤ n → -1000000000 ≤ a → a ≤ 1000000000 → -1000000000 ≤ b → b ≤ 1000000000 → (evKR Bk Gx fsT n).1 0 88 [.int .i64 a, .int .i64 b] [] ansK = some (.int .i64 (loI a b), []) := fun n a b hn _ _ _ _ => least1_ev (by omega) a b

def trueB (d : Desk) : Bool := decide (best d hiI [] ≠ -1)
def canB (d : Desk) (b p : Int) : Bool := decide (best d hiI [(b, p)] ≠ -1)
theorem true_ev {n : Nat} (hn : 1000000000000200 ≤ n) (d : Desk) (hd : d.ok) (hc : d.check = true) : (evKR Bk Gx fsT n).1 0 75 [d.v] [] ansK = some (.bool (trueB d), []) := by
  refine call_open (show fsT.find 75 = some a75 from rfl) (by omega) fun n' B cl rd hn' hB hcl hrd => ?_
  have H67 := most_ev (n := n') (by omega)
  have H66 := fun os t s kont => found_ev (n := n') (by omega) d hd (gv := .nilM) 85 os t s (D := s.length + 1) rfl (.inl rfl) kont
  have H68 := fun os t s kont r => search_ev (n := n') (by omega) hi_or hiHB d hd hc [] (gv := .nilM) os t s (D := s.length + 1) rfl (.inl rfl) rfl kont r
  rw [← hcl] at H67 H66 H68
  conv => lhs; whnf
  repeat' ((first
    | refine fnat_pred hB ?_
    | refine tok_step hB hd.tp ?_
    | refine tok_step hB hd.tb ?_
    | refine pans_step hB H67 ?_
    | refine (H66 _ _ [] _).trans ?_
    | refine H68 _ _ [] _ _ (fun es' => ?_)
    | refine eq_split hB (fun heq => ?_) (fun heq => ?_)
    | refine purs_step hB rfl ?_
    | refine lt_tt hB (by decide) ?_
    | refine lt_ff hB (by decide) ?_
    | refine le_tt hB (by decide) ?_
    | refine le_ff hB (by decide) ?_
    | refine eq_tt hB (by decide) ?_
    | refine eq_ff hB (by decide) ?_
    | refine fint_wrp hB (by omega) (by omega) ?_
    | refine fint_step hB ?_
    | refine fbool_tt hB ?_
    | refine fbool_ff hB ?_
    | refine fbool_split hB (fun _ => ?_) (fun _ => ?_)
    | refine ftok_step hB ?_
    | refine frows_step hB ?_
    | refine fstr_step hB ?_
    | refine len_map hB ?_
    | refine len_step hB ?_
    | refine lens_step hB ?_
    | refine byte_step hB ?_
    | refine drop_step hB rfl ?_
    | refine fl_step hB rfl ?_
    | refine add_one hB (by first | omega | decide) ?_
    | refine opt_step hB rfl ?_
    | refine fnat_step hB ?_
    | refine ifk_step hB rfl ?_
    | refine ifk_step hB (flat_or rfl) ?_
    | refine opt2_step hB rfl ?_
    | refine obj_raw hB ?_
    | refine sob_raw hB ?_
    | refine fst_raw hB ?_
    | refine optl_raw hB ?_
    | refine tok_step hB rfl ?_
    ) <;> conv => lhs; whnf)
  all_goals
    refine congrArg some (congrArg (·, []) (congrArg AV.bool ?_))
    simp [trueB, heq]
theorem can_ev {n : Nat} (hn : 1000000000000200 ≤ n) (d : Desk) (hd : d.ok) (hc : d.check = true) (b p : Int) : (evKR Bk Gx fsT n).1 0 71 [d.v, .int .i64 b, .int .i64 p] [] ansK = some (.bool (canB d b p), []) := by
  refine call_open (show fsT.find 71 = some a71 from rfl) (by omega) fun n' B cl rd hn' hB hcl hrd => ?_
  have H67 := most_ev (n := n') (by omega)
  have H66 := fun os t s kont => found_ev (n := n') (by omega) d hd (gv := .mp 0 1) 85 os t s (D := s.length + 1) rfl (.inr ⟨0, 1, rfl, by omega⟩) kont
  have H68 := fun kont r => search_ev (n := n') (by omega) hi_or hiHB d hd hc [(b, p)] (gv := .mp 0 1) [.cells d.c, .map (intsE [(b, p)])] [] [] (D := 1) rfl (.inr ⟨0, 1, rfl, by omega⟩) rfl kont r
  rw [← hcl] at H67 H66 H68
  conv => lhs; whnf
  repeat' ((first
    | refine fnat_pred hB ?_
    | refine tok_step hB hd.tp ?_
    | refine tok_step hB hd.tb ?_
    | refine pans_step hB H67 ?_
    | refine (H66 _ _ [] _).trans ?_
    | refine H68 _ _ (fun es' => ?_)
    | refine eq_split hB (fun heq => ?_) (fun heq => ?_)
    | refine opt2_step hB mkmap_ok ?_
    | refine opt2_step hB (upd_ok rfl rfl rfl rfl rfl) ?_
    | refine purs_step hB rfl ?_
    | refine lt_tt hB (by decide) ?_
    | refine lt_ff hB (by decide) ?_
    | refine le_tt hB (by decide) ?_
    | refine le_ff hB (by decide) ?_
    | refine eq_tt hB (by decide) ?_
    | refine eq_ff hB (by decide) ?_
    | refine fint_wrp hB (by omega) (by omega) ?_
    | refine fint_step hB ?_
    | refine fbool_tt hB ?_
    | refine fbool_ff hB ?_
    | refine fbool_split hB (fun _ => ?_) (fun _ => ?_)
    | refine ftok_step hB ?_
    | refine frows_step hB ?_
    | refine fstr_step hB ?_
    | refine len_map hB ?_
    | refine len_step hB ?_
    | refine lens_step hB ?_
    | refine byte_step hB ?_
    | refine drop_step hB rfl ?_
    | refine fl_step hB rfl ?_
    | refine add_one hB (by first | omega | decide) ?_
    | refine opt_step hB rfl ?_
    | refine fnat_step hB ?_
    | refine ifk_step hB rfl ?_
    | refine ifk_step hB (flat_or rfl) ?_
    | refine opt2_step hB rfl ?_
    | refine obj_raw hB ?_
    | refine sob_raw hB ?_
    | refine fst_raw hB ?_
    | refine optl_raw hB ?_
    | refine tok_step hB rfl ?_
    ) <;> conv => lhs; whnf)
  all_goals
    refine congrArg some (congrArg (·, []) (congrArg AV.bool ?_))
    simp [canB, heq]
end Go.Ab.Cl
