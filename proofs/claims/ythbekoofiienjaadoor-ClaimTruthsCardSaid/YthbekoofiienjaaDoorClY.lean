/-
  The claims: what asked says, and Which.
-/
import Derived.Test.YthbekoofiienjaaDoorClX
namespace Go.Ab.Cl
open Go.Ab

def zeroD : Desk := ⟨0, 0, 0, 0, [], [], .nil, .nil⟩
/-- What asked says: 0, or an error. -/
def askE (d : Desk) (ok : Bool) : Int := if d.check = true then (if ok = true then (if trueB d = true then 0 else 92) else 91) else 90
def askD (d : Desk) (ok : Bool) : Desk := if askE d ok = 0 then d else zeroD

theorem frz_desk {s : St} {l : Nat} {d : Desk} (hd : d.ok) (e : Int) : frz s l 1000 (.tup [d.v, .int .i64 e]) = some (.tup [d.v, .int .i64 e]) := by
  simp [frz, frzs, Desk.v, Desk.c, eraseTok_pur hd.tp, eraseTok_pur hd.tb]
theorem zero_ok : zeroD.ok := ⟨rfl, rfl, by simp [zeroD], by simp [zeroD], by simp [zeroD]⟩

theorem asked_ev {n : Nat} (hn : 1000000000000300 ≤ n) (d : Desk) (hd : d.ok) (f : Nat) (caps : List AV) (s : St) {D : Nat} (hD : D = s.length) (ok : Bool)
    (HR : ∀ (fr : Fr) (kont : AV → St → Ans), (evKR Bk Gx fsT n).1 (D + 1) f (d.v :: caps) (fr :: s) kont = kont (.bool ok) (fr :: s)) (kont : AV → St → Ans) :
    (evKR Bk Gx fsT (n + 1)).1 D 63 [d.v, .fn f [] caps] s kont = kont (.tup [(askD d ok).v, .int .i64 (askE d ok)]) s := by
  refine call_open (show fsT.find 63 = some a63 from rfl) (by omega) fun n' B cl rd hn' hB hcl hrd => ?_
  obtain rfl : n = n' := by omega
  have HC := Check_ev (G := Gx) (n := n) d hd (by omega)
  rw [← hcl] at HC HR
  have hl1 : ∀ (g : Fr), D + 1 = (g :: s : St).length := fun _ => by simp [hD]
  have z1 := fun e => frz_desk (s := s) (l := D) hd e
  cases hc : d.check
  · rw [hc] at HC
    conv => lhs; whnf
    repeat' ((first
      | refine fnat_pred hB ?_
      | refine tok_step hB hd.tp ?_
      | refine tok_step hB hd.tb ?_
      | refine obj_step hB (hl1 _) ((getObj_top hD).trans rfl) ?_
      | refine sob_step hB (hl1 _) (setTop1 hD) ?_
      | refine sob_step hB (hl1 _) (setTop2 hD) ?_
      | refine purs_step hB (by simp [purs, pur, hd.tp, hd.tb]) ?_
      | refine pans_step hB HC ?_
      | refine fbool_same hB (by first
      | rfl
      | omega) ?_
      | refine purs_step hB rfl ?_
      | refine lt_tt hB (by decide) ?_
      | refine lt_ff hB (by decide) ?_
      | refine le_tt hB (by decide) ?_
      | refine le_ff hB (by decide) ?_
      | refine eq_tt hB (by decide) ?_
      | refine eq_ff hB (by decide) ?_
      | refine fint_wrp hB (by omega) (by omega) ?_
      | refine fint_step hB ?_
      | refine fbool_tt hB ?_
      | refine fbool_ff hB ?_
      | refine fbool_split hB (fun _ => ?_) (fun _ => ?_)
      | refine ftok_step hB ?_
      | refine frows_step hB ?_
      | refine fstr_step hB ?_
      | refine len_map hB ?_
      | refine len_step hB ?_
      | refine lens_step hB ?_
      | refine byte_step hB ?_
      | refine drop_step hB rfl ?_
      | refine fl_step hB rfl ?_
      | refine add_one hB (by first | omega | decide) ?_
      | refine opt_step hB rfl ?_
      | refine fnat_step hB ?_
      | refine ifk_step hB rfl ?_
      | refine ifk_step hB (flat_or rfl) ?_
      | refine opt2_step hB rfl ?_
      | refine obj_raw hB ?_
      | refine sob_raw hB ?_
      | refine fst_raw hB ?_
      | refine optl_raw hB ?_
      | refine tok_step hB rfl ?_
      ) <;> conv => lhs; whnf)
    refine congrArg (fun v => kont v s) ?_
    simp [askD, askE, hc, zeroD, Desk.v, Desk.c, eraseTok]
  · rw [hc] at HC
    have HT := true_ev (n := n) (by omega) d hd hc
    rw [← hcl] at HT
    conv => lhs; whnf
    repeat' ((first
      | refine fnat_pred hB ?_
      | refine tok_step hB hd.tp ?_
      | refine tok_step hB hd.tb ?_
      | refine obj_step hB (hl1 _) ((getObj_top hD).trans rfl) ?_
      | refine sob_step hB (hl1 _) (setTop1 hD) ?_
      | refine sob_step hB (hl1 _) (setTop2 hD) ?_
      | refine purs_step hB (by simp [purs, pur, hd.tp, hd.tb]) ?_
      | refine pans_step hB HC ?_
      | refine fbool_same hB (by first
      | rfl
      | omega) ?_
      | refine (HR _ _).trans ?_
      | refine purs_step hB rfl ?_
      | refine lt_tt hB (by decide) ?_
      | refine lt_ff hB (by decide) ?_
      | refine le_tt hB (by decide) ?_
      | refine le_ff hB (by decide) ?_
      | refine eq_tt hB (by decide) ?_
      | refine eq_ff hB (by decide) ?_
      | refine fint_wrp hB (by omega) (by omega) ?_
      | refine fint_step hB ?_
      | refine fbool_tt hB ?_
      | refine fbool_ff hB ?_
      | refine fbool_split hB (fun _ => ?_) (fun _ => ?_)
      | refine ftok_step hB ?_
      | refine frows_step hB ?_
      | refine fstr_step hB ?_
      | refine len_map hB ?_
      | refine len_step hB ?_
      | refine lens_step hB ?_
      | refine byte_step hB ?_
      | refine drop_step hB rfl ?_
      | refine fl_step hB rfl ?_
      | refine add_one hB (by first | omega | decide) ?_
      | refine opt_step hB rfl ?_
      | refine fnat_step hB ?_
      | refine ifk_step hB rfl ?_
      | refine ifk_step hB (flat_or rfl) ?_
      | refine opt2_step hB rfl ?_
      | refine obj_raw hB ?_
      | refine sob_raw hB ?_
      | refine fst_raw hB ?_
      | refine optl_raw hB ?_
      | refine tok_step hB rfl ?_
      ) <;> conv => lhs; whnf)
    cases ok
    · conv => lhs; whnf
      repeat' ((first
        | refine fnat_pred hB ?_
        | refine tok_step hB hd.tp ?_
        | refine tok_step hB hd.tb ?_
        | refine obj_step hB (hl1 _) ((getObj_top hD).trans rfl) ?_
        | refine sob_step hB (hl1 _) (setTop1 hD) ?_
        | refine sob_step hB (hl1 _) (setTop2 hD) ?_
        | refine purs_step hB (by simp [purs, pur, hd.tp, hd.tb]) ?_
        | refine pans_step hB HC ?_
        | refine fbool_same hB (by first
        | rfl
        | omega) ?_
        | refine purs_step hB rfl ?_
        | refine lt_tt hB (by decide) ?_
        | refine lt_ff hB (by decide) ?_
        | refine le_tt hB (by decide) ?_
        | refine le_ff hB (by decide) ?_
        | refine eq_tt hB (by decide) ?_
        | refine eq_ff hB (by decide) ?_
        | refine fint_wrp hB (by omega) (by omega) ?_
        | refine fint_step hB ?_
        | refine fbool_tt hB ?_
        | refine fbool_ff hB ?_
        | refine fbool_split hB (fun _ => ?_) (fun _ => ?_)
        | refine ftok_step hB ?_
        | refine frows_step hB ?_
        | refine fstr_step hB ?_
        | refine len_map hB ?_
        | refine len_step hB ?_
        | refine lens_step hB ?_
        | refine byte_step hB ?_
        | refine drop_step hB rfl ?_
        | refine fl_step hB rfl ?_
        | refine add_one hB (by first | omega | decide) ?_
        | refine opt_step hB rfl ?_
        | refine fnat_step hB ?_
        | refine ifk_step hB rfl ?_
        | refine ifk_step hB (flat_or rfl) ?_
        | refine opt2_step hB rfl ?_
        | refine obj_raw hB ?_
        | refine sob_raw hB ?_
        | refine fst_raw hB ?_
        | refine optl_raw hB ?_
        | refine tok_step hB rfl ?_
        ) <;> conv => lhs; whnf)
      refine congrArg (fun v => kont v s) ?_
      simp [askD, askE, hc, zeroD, Desk.v, Desk.c, eraseTok]
    · cases ht : trueB d
      all_goals
        rw [ht] at HT
        conv => lhs; whnf
        repeat' ((first
          | refine fnat_pred hB ?_
          | refine tok_step hB hd.tp ?_
          | refine tok_step hB hd.tb ?_
          | refine obj_step hB (hl1 _) ((getObj_top hD).trans rfl) ?_
          | refine sob_step hB (hl1 _) (setTop1 hD) ?_
          | refine sob_step hB (hl1 _) (setTop2 hD) ?_
          | refine purs_step hB (by simp [purs, pur, hd.tp, hd.tb]) ?_
          | refine pans_step hB HC ?_
          | refine fbool_same hB (by first
          | rfl
          | omega) ?_
          | refine pans_step hB HT ?_
          | refine purs_step hB rfl ?_
          | refine lt_tt hB (by decide) ?_
          | refine lt_ff hB (by decide) ?_
          | refine le_tt hB (by decide) ?_
          | refine le_ff hB (by decide) ?_
          | refine eq_tt hB (by decide) ?_
          | refine eq_ff hB (by decide) ?_
          | refine fint_wrp hB (by omega) (by omega) ?_
          | refine fint_step hB ?_
          | refine fbool_tt hB ?_
          | refine fbool_ff hB ?_
          | refine fbool_split hB (fun _ => ?_) (fun _ => ?_)
          | refine ftok_step hB ?_
          | refine frows_step hB ?_
          | refine fstr_step hB ?_
          | refine len_map hB ?_
          | refine len_step hB ?_
          | refine lens_step hB ?_
          | refine byte_step hB ?_
          | refine drop_step hB rfl ?_
          | refine fl_step hB rfl ?_
          | refine add_one hB (by first | omega | decide) ?_
          | refine opt_step hB rfl ?_
          | refine fnat_step hB ?_
          | refine ifk_step hB rfl ?_
          | refine ifk_step hB (flat_or rfl) ?_
          | refine opt2_step hB rfl ?_
          | refine obj_raw hB ?_
          | refine sob_raw hB ?_
          | refine fst_raw hB ?_
          | refine optl_raw hB ?_
          | refine tok_step hB rfl ?_
          ) <;> conv => lhs; whnf)
        refine congrArg (fun v => kont v s) ?_
        simp [askD, askE, hc, ht, zeroD, Desk.v, Desk.c, eraseTok_pur hd.tp, eraseTok_pur hd.tb, show eraseTok .nil = .nil from rfl]

/-! ### lists that grow -/
def rowsI (l : List Int) : List (List AV) := l.map fun k => [.int .i64 k]
def tk (h p : Nat) (l : List Int) : Tok := if l.isEmpty = true then .nil else .site h p 1
def tks (p : Nat) (l : List Int) : List (Nat × Nat × Nat) := if l.isEmpty = true then [] else [(p, 1, l.length)]
theorem clamp_tk {h p lv : Nat} (hl : h ≤ lv) (l : List Int) : clampTok lv (tk h p l) = tk h p l := by
  unfold tk; split
  · rfl
  · simp [clampTok, hl]
theorem app_tk {os : List AObj} {p : Nat} (acc : List Int) (k : Int) (hl : acc.length ≤ 1000) (f : List AObj) :
    appAt 0 [⟨f, []⟩, ⟨os, tks p acc⟩] p 1 8 (.sl (rowsI acc) (tk 0 p acc)) (.sl [[.int .i64 k]] .full) = some (.sl (rowsI (acc ++ [k])) (tk 0 p (acc ++ [k])), [⟨f, []⟩, ⟨os, tks p (acc ++ [k])⟩]) := by
  cases acc with
  | nil => simp [appAt, rowsAt, rowsI, tk, tks, headFit, purs, pur, getTok, setTok, modFr, getFr, tokGet, tokSet]
  | cons a acc =>
    have h1 : ((acc.length + 1 + 1) * 8 ≤ 140737488355328) := by simp at hl; omega
    simp [appAt, rowsAt, rowsI, tk, tks, headFit, purs, pur, getTok, setTok, modFr, getFr, tokGet, tokSet, h1]
/-- All of the list, its room cut off. -/
def wtok (l : List Int) : Tok := if l.isEmpty = true then .nil else .full
theorem wtok_pur (l : List Int) : purTok (wtok l) = true := by unfold wtok; split <;> rfl
theorem slice_tk {h p : Nat} (l : List Int) : sliceAV 1 (.sl (rowsI l) (tk h p l)) none (some (.int .i64 (.ofNat l.length))) (some (.int .i64 (.ofNat l.length))) = some (.sl (rowsI l) (wtok l)) := by
  cases l with
  | nil => rfl
  | cons a l =>
    have h : (0 : Int) ≤ (l.length : Int) + 1 := by omega
    simp [sliceAV, rowsI, headFit, bound, optBound, tk, wtok, h]
    exact List.take_of_length_le (by simp)

/-! ### Which -/
theorem box1_ev {n : Nat} (hn : 3 ≤ n) (d : Desk) (hd : d.ok) (os : List AObj) (z : Int) (hz : getO os 1 = some (.cells [.int .i64 z])) (fr : Fr) (kont : AV → St → Ans) :
    (evKR Bk Gx fsT n).1 2 70 [d.v, .ptr 0 1 0] [fr, ⟨os, []⟩] kont = kont (.bool (within z 0 ((d.bs.length : Int) - 1))) [fr, ⟨os, []⟩] := by
  refine call_open (show fsT.find 70 = some a70 from rfl) (by omega) fun n' B cl rd hn' hB hcl hrd => ?_
  have H := isBox_ev (G := Gx) (n := n') (by omega) d hd z
  rw [← hcl] at H
  conv => lhs; whnf
  repeat' ((first
    | refine fnat_pred hB ?_
    | refine tok_step hB hd.tp ?_
    | refine tok_step hB hd.tb ?_
    | refine purs_step hB (by simp [purs, pur, hd.tp, hd.tb]) ?_
    | refine obj_step hB (s := [_, _, ⟨os, []⟩]) (l := 0) rfl hz ?_
    | refine pans_step hB H ?_
    | refine purs_step hB rfl ?_
    | refine lt_tt hB (by decide) ?_
    | refine lt_ff hB (by decide) ?_
    | refine le_tt hB (by decide) ?_
    | refine le_ff hB (by decide) ?_
    | refine eq_tt hB (by decide) ?_
    | refine eq_ff hB (by decide) ?_
    | refine fint_wrp hB (by omega) (by omega) ?_
    | refine fint_step hB ?_
    | refine fbool_tt hB ?_
    | refine fbool_ff hB ?_
    | refine fbool_split hB (fun _ => ?_) (fun _ => ?_)
    | refine ftok_step hB ?_
    | refine frows_step hB ?_
    | refine fstr_step hB ?_
    | refine len_map hB ?_
    | refine len_step hB ?_
    | refine lens_step hB ?_
    | refine byte_step hB ?_
    | refine drop_step hB rfl ?_
    | refine fl_step hB rfl ?_
    | refine add_one hB (by first | omega | decide) ?_
    | refine opt_step hB rfl ?_
    | refine fnat_step hB ?_
    | refine ifk_step hB rfl ?_
    | refine ifk_step hB (flat_or rfl) ?_
    | refine opt2_step hB rfl ?_
    | refine obj_raw hB ?_
    | refine sob_raw hB ?_
    | refine fst_raw hB ?_
    | refine optl_raw hB ?_
    | refine tok_step hB rfl ?_
    ) <;> conv => lhs; whnf)
  all_goals rfl
/-- The parcels, from one on, that a box can be. -/
def whichFrom (d : Desk) (z : Int) (j : Nat) : List Int := List.map (fun k : Nat => (k : Int)) ((List.range' j (d.ps.length - j)).filter fun k => canB d z (k : Int))
theorem whichFrom_end {d : Desk} {z : Int} {j : Nat} (h : d.ps.length ≤ j) : whichFrom d z j = [] := by
  unfold whichFrom
  rw [Nat.sub_eq_zero_of_le h]; rfl
theorem whichFrom_yes {d : Desk} {z : Int} {j : Nat} (h : j < d.ps.length) (hf : canB d z (j : Int) = true) : whichFrom d z j = (j : Int) :: whichFrom d z (j + 1) := by
  unfold whichFrom
  rw [show d.ps.length - j = (d.ps.length - (j + 1)) + 1 by omega, List.range'_succ, List.filter_cons_of_pos (p := fun k : Nat => canB d z (k : Int)) hf]; rfl
theorem whichFrom_no {d : Desk} {z : Int} {j : Nat} (h : j < d.ps.length) (hf : canB d z (j : Int) = false) : whichFrom d z j = whichFrom d z (j + 1) := by
  unfold whichFrom
  rw [show d.ps.length - j = (d.ps.length - (j + 1)) + 1 by omega, List.range'_succ, List.filter_cons_of_neg (p := fun k : Nat => canB d z (k : Int)) (by rw [hf]; exact Bool.false_ne_true)]
def whichE (d : Desk) (z : Int) : Int := askE d (within z 0 ((d.bs.length : Int) - 1))
def whichL (d : Desk) (z : Int) : List Int := if whichE d z = 0 then whichFrom d z 0 else []

theorem a22_L1_step {B : Bnd} (hB : B = Bk) {cl : CallK} {rd : RoundK} (d : Desk) (hd : d.ok) (hp : d.ps.length ≤ 8) (z : Int) (H71 : ∀ k : Int, cl 0 71 [d.v, .int .i64 z, .int .i64 k] [] ansK = some (.bool (canB d z k), []))
    (n : Nat) (k : Ex → Env → St → Ans) (r : Ans) :
    ∀ (j i0 : Nat) (acc : List Int), d.ps.length < i0 + j → i0 ≤ d.ps.length → acc.length ≤ i0 →
    (k (.exit 0) [(3, .ptr 0 1 0), (6, .ptr 0 2 0), (8, .sl (rowsI (acc ++ whichFrom d z i0)) (tk 0 33 (acc ++ whichFrom d z i0))), (22, .int .i64 (.ofNat d.ps.length)), (23, .int .i64 (.ofNat d.ps.length))] [⟨[.cells d.c, .cells [.int .i64 z], .cells d.c], tks 33 (acc ++ whichFrom d z i0)⟩] = r) →
    B.loop (evCK B a22_L1) [3, 6, 8, 22, 23] n j cl rd Gx 0 1 [(3, .ptr 0 1 0), (6, .ptr 0 2 0), (8, .sl (rowsI acc) (tk 0 33 acc)), (22, .int .i64 (.ofNat d.ps.length)), (23, .int .i64 (.ofNat i0))] [⟨[.cells d.c, .cells [.int .i64 z], .cells d.c], tks 33 acc⟩] k = r := by
  intro j
  induction j with
  | zero => intro i0 acc h1 h2; omega
  | succ j ih =>
    intro i0 acc h1 h2 h3 k1
    refine loop_succ hB ?_
    conv => lhs; whnf
    refine lt_nat hB (fun h => ?_) (fun h => ?_) <;> conv => lhs; whnf
    · repeat' ((first
        | refine fnat_pred hB ?_
        | refine tok_step hB hd.tp ?_
        | refine tok_step hB hd.tb ?_
        | refine purs_step hB (by simp [purs, pur, hd.tp, hd.tb]) ?_
        | refine pans_bool hB (H71 _) (fun hc => ?_) (fun hc => ?_)
        | refine opt2_step hB (app_tk acc (i0 : Int) (by omega) _) ?_
        | refine purs_step hB rfl ?_
        | refine lt_tt hB (by decide) ?_
        | refine lt_ff hB (by decide) ?_
        | refine le_tt hB (by decide) ?_
        | refine le_ff hB (by decide) ?_
        | refine eq_tt hB (by decide) ?_
        | refine eq_ff hB (by decide) ?_
        | refine fint_wrp hB (by omega) (by omega) ?_
        | refine fint_step hB ?_
        | refine fbool_tt hB ?_
        | refine fbool_ff hB ?_
        | refine fbool_split hB (fun _ => ?_) (fun _ => ?_)
        | refine ftok_step hB ?_
        | refine frows_step hB ?_
        | refine fstr_step hB ?_
        | refine len_map hB ?_
        | refine len_step hB ?_
        | refine lens_step hB ?_
        | refine byte_step hB ?_
        | refine drop_step hB rfl ?_
        | refine fl_step hB rfl ?_
        | refine add_one hB (by first | omega | decide) ?_
        | refine opt_step hB rfl ?_
        | refine fnat_step hB ?_
        | refine ifk_step hB rfl ?_
        | refine ifk_step hB (flat_or rfl) ?_
        | refine opt2_step hB rfl ?_
        | refine obj_raw hB ?_
        | refine sob_raw hB ?_
        | refine fst_raw hB ?_
        | refine optl_raw hB ?_
        | refine tok_step hB rfl ?_
        ) <;> conv => lhs; whnf)
      · rw [whichFrom_yes h hc] at k1
        rw [clamp_tk (by omega)]
        refine ih (i0 + 1) (acc ++ [(i0 : Int)]) (by omega) (by omega) (by simp; omega) ?_
        rw [List.append_assoc]; exact k1
      · rw [whichFrom_no h hc] at k1
        rw [clamp_tk (by omega)]
        exact ih (i0 + 1) acc (by omega) (by omega) (by omega) k1
    · repeat' ((first
        | refine purs_step hB rfl ?_
        | refine lt_tt hB (by decide) ?_
        | refine lt_ff hB (by decide) ?_
        | refine le_tt hB (by decide) ?_
        | refine le_ff hB (by decide) ?_
        | refine eq_tt hB (by decide) ?_
        | refine eq_ff hB (by decide) ?_
        | refine fint_wrp hB (by omega) (by omega) ?_
        | refine fint_step hB ?_
        | refine fbool_tt hB ?_
        | refine fbool_ff hB ?_
        | refine fbool_split hB (fun _ => ?_) (fun _ => ?_)
        | refine ftok_step hB ?_
        | refine frows_step hB ?_
        | refine fstr_step hB ?_
        | refine len_map hB ?_
        | refine len_step hB ?_
        | refine lens_step hB ?_
        | refine byte_step hB ?_
        | refine drop_step hB rfl ?_
        | refine fl_step hB rfl ?_
        | refine add_one hB (by first | omega | decide) ?_
        | refine opt_step hB rfl ?_
        | refine fnat_step hB ?_
        | refine ifk_step hB rfl ?_
        | refine ifk_step hB (flat_or rfl) ?_
        | refine opt2_step hB rfl ?_
        | refine obj_raw hB ?_
        | refine sob_raw hB ?_
        | refine fst_raw hB ?_
        | refine optl_raw hB ?_
        | refine tok_step hB rfl ?_
        ) <;> conv => lhs; whnf)
      have hi : i0 = d.ps.length := by omega
      subst hi
      rw [whichFrom_end (Nat.le_refl _), List.append_nil] at k1
      rw [clamp_tk (by omega)]
      exact k1

theorem Which_ev {n : Nat} (hn : 1000000000000400 ≤ n) (d : Desk) (hd : d.ok) (z : Int) : (evKR Bk Gx fsT n).1 0 22 [d.v, .int .i64 z] [] ansK = some (.tup [.sl (rowsI (whichL d z)) (wtok (whichL d z)), .int .i64 (whichE d z)], []) := by
  refine call_open (show fsT.find 22 = some a22 from rfl) (by omega) fun n' B cl rd hn' hB hcl hrd => ?_
  obtain ⟨n2, rfl⟩ : ∃ n2, n' = n2 + 1 := ⟨n' - 1, by omega⟩
  have H63 := fun kont => asked_ev (n := n2) (by omega) d hd 70 [.ptr 0 1 0] [⟨[.cells d.c, .cells [.int .i64 z]], []⟩] (D := 1) rfl (within z 0 ((d.bs.length : Int) - 1)) (fun fr kont => box1_ev (by omega) d hd _ z rfl fr kont) kont
  have H63 : ∀ kont, (evKR Bk Gx fsT (n2 + 1)).1 1 63 [d.v, .fn 70 [] [.ptr 0 1 0]] [⟨[.cells d.c, .cells [.int .i64 z]], []⟩] kont = kont (.tup [(askD d (within z 0 ((d.bs.length : Int) - 1))).v, .int .i64 (whichE d z)]) [⟨[.cells d.c, .cells [.int .i64 z]], []⟩] := H63
  rw [← hcl] at H63
  by_cases he : whichE d z = 0
  · have hck : d.check = true := by
      unfold whichE askE at he
      cases hc : d.check
      · rw [hc] at he; simp at he
      · rfl
    have hf := check_fine hck
    have hnp := hf.np
    have H71 := fun k => can_ev (n := n2 + 1) (by omega) d hd hck z k
    rw [← hcl] at H71
    have hL : whichL d z = whichFrom d z 0 := by simp [whichL, he]
    rw [show askD d (within z 0 ((d.bs.length : Int) - 1)) = d from if_pos he, he] at H63
    rw [hL, he]
    conv => lhs; whnf
    repeat' ((first
      | refine fnat_pred hB ?_
      | refine tok_step hB hd.tp ?_
      | refine tok_step hB hd.tb ?_
      | refine (H63 _).trans ?_
      | refine a22_L1_step hB d hd hnp z H71 _ _ _ _ 0 [] (by omega) (by omega) (by simp) ?_
      | refine opt_step hB (slice_tk _) ?_
      | refine tok_step hB (wtok_pur _) ?_
      | refine purs_step hB rfl ?_
      | refine lt_tt hB (by decide) ?_
      | refine lt_ff hB (by decide) ?_
      | refine le_tt hB (by decide) ?_
      | refine le_ff hB (by decide) ?_
      | refine eq_tt hB (by decide) ?_
      | refine eq_ff hB (by decide) ?_
      | refine fint_wrp hB (by omega) (by omega) ?_
      | refine fint_step hB ?_
      | refine fbool_tt hB ?_
      | refine fbool_ff hB ?_
      | refine fbool_split hB (fun _ => ?_) (fun _ => ?_)
      | refine ftok_step hB ?_
      | refine frows_step hB ?_
      | refine fstr_step hB ?_
      | refine len_map hB ?_
      | refine len_step hB ?_
      | refine lens_step hB ?_
      | refine byte_step hB ?_
      | refine drop_step hB rfl ?_
      | refine fl_step hB rfl ?_
      | refine add_one hB (by first | omega | decide) ?_
      | refine opt_step hB rfl ?_
      | refine fnat_step hB ?_
      | refine ifk_step hB rfl ?_
      | refine ifk_step hB (flat_or rfl) ?_
      | refine opt2_step hB rfl ?_
      | refine obj_raw hB ?_
      | refine sob_raw hB ?_
      | refine fst_raw hB ?_
      | refine optl_raw hB ?_
      | refine tok_step hB rfl ?_
      ) <;> conv => lhs; whnf)
    rfl
  · rw [show whichL d z = [] by simp [whichL, he]]
    have hz : (askD d (within z 0 ((d.bs.length : Int) - 1))) = zeroD := if_neg he
    rw [hz] at H63
    conv => lhs; whnf
    repeat' ((first
      | refine fnat_pred hB ?_
      | refine tok_step hB hd.tp ?_
      | refine tok_step hB hd.tb ?_
      | refine (H63 _).trans ?_
      | refine eq_ff hB he ?_
      | refine purs_step hB rfl ?_
      | refine lt_tt hB (by decide) ?_
      | refine lt_ff hB (by decide) ?_
      | refine le_tt hB (by decide) ?_
      | refine le_ff hB (by decide) ?_
      | refine eq_tt hB (by decide) ?_
      | refine eq_ff hB (by decide) ?_
      | refine fint_wrp hB (by omega) (by omega) ?_
      | refine fint_step hB ?_
      | refine fbool_tt hB ?_
      | refine fbool_ff hB ?_
      | refine fbool_split hB (fun _ => ?_) (fun _ => ?_)
      | refine ftok_step hB ?_
      | refine frows_step hB ?_
      | refine fstr_step hB ?_
      | refine len_map hB ?_
      | refine len_step hB ?_
      | refine lens_step hB ?_
      | refine byte_step hB ?_
      | refine drop_step hB rfl ?_
      | refine fl_step hB rfl ?_
      | refine add_one hB (by first | omega | decide) ?_
      | refine opt_step hB rfl ?_
      | refine fnat_step hB ?_
      | refine ifk_step hB rfl ?_
      | refine ifk_step hB (flat_or rfl) ?_
      | refine opt2_step hB rfl ?_
      | refine obj_raw hB ?_
      | refine sob_raw hB ?_
      | refine fst_raw hB ?_
      | refine optl_raw hB ?_
      | refine tok_step hB rfl ?_
      ) <;> conv => lhs; whnf)
    rfl

/-! ### Told -/
def toldE (d : Desk) (z : Int) : Int := whichE d z
def toldV (d : Desk) (z : Int) : Int := if whichE d z = 0 then (if (whichL d z).length = 0 then 0 else if canB d z (-1) = true then 2 else 1) else 0
theorem Told_ev {n : Nat} (hn : 1000000000000500 ≤ n) (d : Desk) (hd : d.ok) (z : Int) : (evKR Bk Gx fsT n).1 0 25 [d.v, .int .i64 z] [] ansK = some (.tup [.int .i64 (toldV d z), .int .i64 (toldE d z)], []) := by
  refine call_open (show fsT.find 25 = some a25 from rfl) (by omega) fun n' B cl rd hn' hB hcl hrd => ?_
  have H22 := Which_ev (n := n') (by omega) d hd z
  rw [← hcl] at H22
  by_cases he : whichE d z = 0
  · have hck : d.check = true := by
      unfold whichE askE at he
      cases hc : d.check
      · rw [hc] at he; simp at he
      · rfl
    have H71 := can_ev (n := n') (by omega) d hd hck z (-1)
    rw [← hcl] at H71
    rw [he] at H22
    conv => lhs; whnf
    repeat' ((first
      | refine fnat_pred hB ?_
      | refine tok_step hB hd.tp ?_
      | refine tok_step hB hd.tb ?_
      | refine tok_step hB (wtok_pur _) ?_
      | refine purs_step hB (by simp [purs, pur, hd.tp, hd.tb]) ?_
      | refine pans_step hB H22 ?_
      | refine pans_bool hB H71 (fun hc => ?_) (fun hc => ?_)
      | refine eq_tt hB (by decide) ?_
      | refine eq_ff hB (by decide) ?_
      | refine eq_split hB (fun heq => ?_) (fun heq => ?_)
      | refine purs_step hB rfl ?_
      | refine lt_tt hB (by decide) ?_
      | refine lt_ff hB (by decide) ?_
      | refine le_tt hB (by decide) ?_
      | refine le_ff hB (by decide) ?_
      | refine eq_tt hB (by decide) ?_
      | refine eq_ff hB (by decide) ?_
      | refine fint_wrp hB (by omega) (by omega) ?_
      | refine fint_step hB ?_
      | refine fbool_tt hB ?_
      | refine fbool_ff hB ?_
      | refine fbool_split hB (fun _ => ?_) (fun _ => ?_)
      | refine ftok_step hB ?_
      | refine frows_step hB ?_
      | refine fstr_step hB ?_
      | refine len_map hB ?_
      | refine len_step hB ?_
      | refine lens_step hB ?_
      | refine byte_step hB ?_
      | refine drop_step hB rfl ?_
      | refine fl_step hB rfl ?_
      | refine add_one hB (by first | omega | decide) ?_
      | refine opt_step hB rfl ?_
      | refine fnat_step hB ?_
      | refine ifk_step hB rfl ?_
      | refine ifk_step hB (flat_or rfl) ?_
      | refine opt2_step hB rfl ?_
      | refine obj_raw hB ?_
      | refine sob_raw hB ?_
      | refine fst_raw hB ?_
      | refine optl_raw hB ?_
      | refine tok_step hB rfl ?_
      ) <;> conv => lhs; whnf)
    all_goals
      refine congrArg some (congrArg (·, []) (congrArg AV.tup ?_))
      simp_all [toldV, toldE]
  · conv => lhs; whnf
    repeat' ((first
      | refine fnat_pred hB ?_
      | refine tok_step hB hd.tp ?_
      | refine tok_step hB hd.tb ?_
      | refine tok_step hB (wtok_pur _) ?_
      | refine purs_step hB (by simp [purs, pur, hd.tp, hd.tb]) ?_
      | refine pans_step hB H22 ?_
      | refine eq_ff hB he ?_
      | refine purs_step hB rfl ?_
      | refine lt_tt hB (by decide) ?_
      | refine lt_ff hB (by decide) ?_
      | refine le_tt hB (by decide) ?_
      | refine le_ff hB (by decide) ?_
      | refine eq_tt hB (by decide) ?_
      | refine eq_ff hB (by decide) ?_
      | refine fint_wrp hB (by omega) (by omega) ?_
      | refine fint_step hB ?_
      | refine fbool_tt hB ?_
      | refine fbool_ff hB ?_
      | refine fbool_split hB (fun _ => ?_) (fun _ => ?_)
      | refine ftok_step hB ?_
      | refine frows_step hB ?_
      | refine fstr_step hB ?_
      | refine len_map hB ?_
      | refine len_step hB ?_
      | refine lens_step hB ?_
      | refine byte_step hB ?_
      | refine drop_step hB rfl ?_
      | refine fl_step hB rfl ?_
      | refine add_one hB (by first | omega | decide) ?_
      | refine opt_step hB rfl ?_
      | refine fnat_step hB ?_
      | refine ifk_step hB rfl ?_
      | refine ifk_step hB (flat_or rfl) ?_
      | refine opt2_step hB rfl ?_
      | refine obj_raw hB ?_
      | refine sob_raw hB ?_
      | refine fst_raw hB ?_
      | refine optl_raw hB ?_
      | refine tok_step hB rfl ?_
      ) <;> conv => lhs; whnf)
    refine congrArg some (congrArg (·, []) (congrArg AV.tup ?_))
    simp [toldV, toldE, he]
end Go.Ab.Cl
