/-
  The claims, the specification: the walk through all truths.
-/
import Derived.Test.YthbekoofiienjaaDoorClJf
namespace Go.Ab.Cl
open Go.Ab

def cellsI (l : List Nat) : List AV := l.map fun x : Nat => .int .i64 (x : Int)
def nats (l : List Nat) : List Int := l.map fun x : Nat => (x : Int)
def Sn.c (s : Sn) (v : AV) : List AV := [.int .i64 s.many, v, .int .i64 (s.all : Int), .int .i64 (s.some : Int), .int .i64 s.lo, .int .i64 s.hi]
/-- A value that stands for numbers, seen from below a frame. -/
def IsV (s : St) (v : AV) (is : List Nat) : Prop := (∃ t, purTok t = true ∧ v = .sl (rowsI (nats is)) t) ∨ ∃ l i, v = .os l i 0 is.length 1 ∧ l < s.length ∧ getObj s l i = some (.cells (cellsI is))
def wt : List Nat → Tok
  | [] => .full
  | _ :: _ => .any
theorem wt_pur (l : List Nat) : purTok (wt l) = true := by cases l <;> rfl
theorem wt_ne {l : List Nat} (h : l ≠ []) : wt l = .any := by cases l <;> first | rfl | exact absurd rfl h
def IsR (v : AV) (is : List Nat) (v' : AV) (is' : List Nat) : Prop := v' = .sl (rowsI (nats is')) (wt is') ∨ (v' = v ∧ is' = is ∧ is ≠ [])
theorem IsR.refl (v : AV) {is : List Nat} (h : is ≠ []) : IsR v is v is := .inr ⟨rfl, rfl, h⟩
theorem IsR.trans {v v' v'' : AV} {is is' is'' : List Nat} (h : IsR v is v' is') (h' : IsR v' is' v'' is'') : IsR v is v'' is'' := by
  rcases h' with h' | ⟨rfl, rfl, _⟩
  · exact .inl h'
  · exact h
theorem IsR.isV {s : St} {v v' : AV} {is is' : List Nat} (h : IsR v is v' is') (hv : IsV s v is) : IsV s v' is' := by
  rcases h with rfl | ⟨rfl, rfl, _⟩
  · exact .inl ⟨_, wt_pur _, rfl⟩
  · exact hv
theorem IsV.up {s : St} {v : AV} {is : List Nat} (h : IsV s v is) (f : Fr) : IsV (f :: s) v is := by
  rcases h with h | ⟨l, i, h1, h2, h3⟩
  · exact .inl h
  · exact .inr ⟨l, i, h1, by simp; omega, (getObj_sub h2).trans h3⟩

theorem clamps_sn {s : St} {D : Nat} (hD : D = s.length) {v : AV} {is : List Nat} (sn : Sn) (hv : IsV s v is) : clamps D (sn.c v) = some (sn.c v) := by
  rcases hv with ⟨t, ht, rfl⟩ | ⟨l, i, rfl, h1, _⟩
  · simp [clamps, clamp, Sn.c, clampTok_pur ht]
  · have : l ≤ D := by omega
    simp [clamps, clamp, Sn.c, this]
theorem a87_L2_step {B : Bnd} (hB : B = Bk) {cl : CallK} {rd : RoundK} (d : Desk) (hd : d.ok) (hc : d.check = true) (i t : Nat) (ht : t < 256) (b : Box) (hb : d.bs[i]? = some b) (st : Int) {zi zt : Int} (hzi : zi = (i : Int)) (hzt : zt = (t : Int))
    (pre : List Int) {tp : Tok} (htp : purTok tp = true) (s : St) {D : Nat} (hD : D = s.length) (z6 : List AV) (rest : List Int → Nat → Int → Sn → Sn)
    (H40 : ∀ k : Nat, k < 9 → cl 0 40 [.int .i64 zt, .int .i64 (k : Int)] [] ansK = some (.bool (t.testBit k), []))
    (H56 : ∀ (k : Nat) (p : Parcel), d.ps[k]? = some p → cl 0 56 [d.v, .int .i64 zi, .int .i64 (k : Int)] [] ansK = some (.bool (couldB d b p), []))
    (H90 : ∀ k : Nat, cl 0 90 [.sl (rowsI pre) tp, .int .i64 (k : Int)] [] ansK = some (.sl (rowsI (pre ++ [(k : Int)])) .any, []))
    (Q : Nat → Sn → Prop)
    (H87 : ∀ (k : Nat) (sn : Sn) (v : AV) (f f' : Fr) (kont : AV → St → Ans) (r : Ans), k < d.ps.length → fitsB d i t k = true → Q k sn → IsV s v sn.is → (∀ v', IsR v sn.is v' (rest (pre ++ [(k : Int)]) (t ||| 1 <<< k) st sn).is → kont (.agg ((rest (pre ++ [(k : Int)]) (t ||| 1 <<< k) st sn).c v')) (f :: f' :: s) = r) →
      cl (D + 1 + 1) 87 [d.v, .sl (rowsI (pre ++ [(k : Int)])) .any, .int .i64 ((t ||| 1 <<< k : Nat) : Int), .int .i64 st, .agg (sn.c v)] (f :: f' :: s) kont = r)
    (hQ : ∀ k sn, k < d.ps.length → fitsB d i t k = true → Q k sn → Q (k + 1) (rest (pre ++ [(k : Int)]) (t ||| 1 <<< k) st sn)) (hQn : ∀ k sn, Q k sn → Q (k + 1) sn) (hQe : ∀ k sn, Q k sn → sn.is ≠ [])
    (n : Nat) (k : Ex → Env → St → Ans) (r : Ans) :
    ∀ (j i0 : Nat) (sn : Sn) (v : AV), d.ps.length < i0 + j → i0 ≤ d.ps.length → Q i0 sn → IsV s v sn.is →
    (∀ v' x, IsR v sn.is v' ((optsFrom d i t i0).foldl (stepS d rest pre t st) sn).is → k (.exit 2) [(1, .sl (rowsI pre) tp), (2, .int .i64 zt), (3, .int .i64 st), (5, .ptr D 0 0), (9, .ptr D 1 0), (10, .ptr D 2 0), (14, .int .i64 zi), (15, .int .i64 x)] (⟨[.cells d.c, .cells (((optsFrom d i t i0).foldl (stepS d rest pre t st) sn).c v'), .cells z6], []⟩ :: s) = r) →
    B.loop (evCK B a87_L2) [1, 2, 3, 5, 9, 10, 14, 15] n j cl rd Gx D (D + 1) [(1, .sl (rowsI pre) tp), (2, .int .i64 zt), (3, .int .i64 st), (5, .ptr D 0 0), (9, .ptr D 1 0), (10, .ptr D 2 0), (14, .int .i64 zi), (15, .int .i64 (.ofNat i0))] (⟨[.cells d.c, .cells (sn.c v), .cells z6], []⟩ :: s) k = r := by
  intro j
  induction j with
  | zero => intro i0 sn v h1 h2; omega
  | succ j ih =>
    intro i0 sn v h1 h2 h3 hv k1
    have hnp := (check_fine hc).np
    have hi := (List.getElem?_eq_some_iff.1 hb).1
    have hnb := (check_fine hc).nb
    have hl2 : ∀ (g g' : Fr), D + 1 + 1 = (g :: g' :: s : St).length := fun _ _ => by simp [hD]
    have hl0 : ∀ (g : Fr), D < (g :: s : St).length := fun _ => by simp [hD]
    refine loop_succ hB ?_
    conv => lhs; whnf
    repeat' ((first | refine fnat_pred hB ?_ | refine obj_step hB (hl2 _ _) ((getObj_sub (hl0 _)).trans ((getObj_top hD).trans rfl)) ?_ | refine sob_step hB (hl2 _ _) ((setObj_sub (hl0 _)).trans (congrArg (_ :: ·) (setTop1 hD))) ?_ | refine lt_nat hB (fun h => ?_) (fun h => ?_) | refine purs_step hB rfl ?_ | refine lt_tt hB (by decide) ?_ | refine lt_ff hB (by decide) ?_ | refine le_tt hB (by decide) ?_ | refine le_ff hB (by decide) ?_ | refine eq_tt hB (by decide) ?_ | refine eq_ff hB (by decide) ?_ | refine fint_wrp hB (by omega) (by omega) ?_ | refine fint_step hB ?_ | refine fbool_tt hB ?_ | refine fbool_ff hB ?_ | refine fbool_split hB (fun _ => ?_) (fun _ => ?_) | refine ftok_step hB ?_ | refine frows_step hB ?_ | refine fstr_step hB ?_ | refine len_map hB ?_ | refine len_step hB ?_ | refine lens_step hB ?_ | refine byte_step hB ?_ | refine drop_step hB rfl ?_ | refine fl_step hB rfl ?_ | refine add_one hB (by first | omega | decide) ?_ | refine opt_step hB rfl ?_ | refine fnat_step hB ?_ | refine ifk_step hB rfl ?_ | refine ifk_step hB (flat_or rfl) ?_ | refine opt2_step hB rfl ?_ | refine obj_raw hB ?_ | refine sob_raw hB ?_ | refine fst_raw hB ?_ | refine optl_raw hB ?_ | refine tok_step hB rfl ?_) <;> conv => lhs; whnf)
    · obtain ⟨p, hp⟩ := meantRow d h
      have hfit : fitsB d i t i0 = (!t.testBit i0 && couldB d b p) := by simp [fitsB, hb, hp]
      have HIn := H40 i0 (by omega)
      have HC := H56 i0 p hp
      have HW := H90 i0
      have hv0 := hv
      rcases hv with ⟨tv, htv, rfl⟩ | ⟨lv, iv, rfl, hlv, hgv⟩
      · conv => lhs; whnf
        repeat' ((first | refine fnat_pred hB ?_ | refine tok_step hB hd.tp ?_ | refine tok_step hB hd.tb ?_ | refine tok_step hB htp ?_ | refine tok_step hB htv ?_ | refine purs_step hB (by simp [purs, pur, hd.tp, hd.tb, htp]) ?_ | refine obj_step hB (hl2 _ _) ((getObj_sub (hl0 _)).trans ((getObj_top hD).trans rfl)) ?_ | refine sob_step hB (hl2 _ _) ((setObj_sub (hl0 _)).trans (congrArg (_ :: ·) (setTop1 hD))) ?_ | refine pans_bool hB HIn (fun a1 => ?_) (fun a1 => ?_) | refine pans_bool hB HC (fun a2 => ?_) (fun a2 => ?_) | refine pans_step hB HW ?_ | refine opt_step hB (shl_ok rfl (by omega)) ?_ | refine opt_step hB (or_ok hzt ht (by omega)) ?_ | refine fbool_same hB (by omega) ?_ | refine fbool_other hB (by omega) ?_ | refine ifk_step hB (Nat.ble_eq_true_of_le (by omega)) ?_ | refine optl_step hB (clamps_sn hD _ (hv'.isV hv0)) ?_ | refine H87 i0 sn _ _ _ _ _ h (by rw [hfit, a1, a2]; rfl) h3 hv0 (fun v' hv' => ?_) | refine purs_step hB rfl ?_ | refine lt_tt hB (by decide) ?_ | refine lt_ff hB (by decide) ?_ | refine le_tt hB (by decide) ?_ | refine le_ff hB (by decide) ?_ | refine eq_tt hB (by decide) ?_ | refine eq_ff hB (by decide) ?_ | refine fint_wrp hB (by omega) (by omega) ?_ | refine fint_step hB ?_ | refine fbool_tt hB ?_ | refine fbool_ff hB ?_ | refine fbool_split hB (fun _ => ?_) (fun _ => ?_) | refine ftok_step hB ?_ | refine frows_step hB ?_ | refine fstr_step hB ?_ | refine len_map hB ?_ | refine len_step hB ?_ | refine lens_step hB ?_ | refine byte_step hB ?_ | refine drop_step hB rfl ?_ | refine fl_step hB rfl ?_ | refine add_one hB (by first | omega | decide) ?_ | refine opt_step hB rfl ?_ | refine fnat_step hB ?_ | refine ifk_step hB rfl ?_ | refine ifk_step hB (flat_or rfl) ?_ | refine opt2_step hB rfl ?_ | refine obj_raw hB ?_ | refine sob_raw hB ?_ | refine fst_raw hB ?_ | refine optl_raw hB ?_ | refine tok_step hB rfl ?_) <;> conv => lhs; whnf)
        · rw [optsFrom_no h (by rw [hfit, a1]; rfl)] at k1
          rw [clampTok_pur htp]
          exact ih (i0 + 1) sn _ (by omega) (by omega) (hQn _ _ h3) hv0 k1
        · have hf : fitsB d i t i0 = true := by rw [hfit, a1, a2]; rfl
          have hne : ¬ ((i0 : Int) = -1) := by omega
          have hstep : stepS d rest pre t st sn (i0 : Int) = rest (pre ++ [(i0 : Int)]) (t ||| 1 <<< i0) st sn := by
            unfold stepS
            rw [if_neg hne, Int.toNat_natCast]
          rw [optsFrom_yes h hf, List.foldl_cons, hstep] at k1
          rw [clampTok_pur htp]
          exact ih (i0 + 1) _ _ (by omega) (by omega) (hQ i0 sn h hf h3) (hv'.isV hv0) fun v'' x hr => k1 v'' x (hv'.trans hr)
        · rw [optsFrom_no h (by rw [hfit, a1, a2]; rfl)] at k1
          rw [clampTok_pur htp]
          exact ih (i0 + 1) sn _ (by omega) (by omega) (hQn _ _ h3) hv0 k1
      · conv => lhs; whnf
        repeat' ((first | refine fnat_pred hB ?_ | refine tok_step hB hd.tp ?_ | refine tok_step hB hd.tb ?_ | refine tok_step hB htp ?_ | refine fnat_step hB ?_ | refine purs_step hB (by simp [purs, pur, hd.tp, hd.tb, htp]) ?_ | refine obj_step hB (hl2 _ _) ((getObj_sub (hl0 _)).trans ((getObj_top hD).trans rfl)) ?_ | refine sob_step hB (hl2 _ _) ((setObj_sub (hl0 _)).trans (congrArg (_ :: ·) (setTop1 hD))) ?_ | refine pans_bool hB HIn (fun a1 => ?_) (fun a1 => ?_) | refine pans_bool hB HC (fun a2 => ?_) (fun a2 => ?_) | refine pans_step hB HW ?_ | refine opt_step hB (shl_ok rfl (by omega)) ?_ | refine opt_step hB (or_ok hzt ht (by omega)) ?_ | refine fbool_same hB (by omega) ?_ | refine fbool_other hB (by omega) ?_ | refine ifk_step hB (Nat.ble_eq_true_of_le (by omega)) ?_ | refine optl_step hB (clamps_sn hD _ (hv'.isV hv0)) ?_ | refine H87 i0 sn _ _ _ _ _ h (by rw [hfit, a1, a2]; rfl) h3 hv0 (fun v' hv' => ?_) | refine purs_step hB rfl ?_ | refine lt_tt hB (by decide) ?_ | refine lt_ff hB (by decide) ?_ | refine le_tt hB (by decide) ?_ | refine le_ff hB (by decide) ?_ | refine eq_tt hB (by decide) ?_ | refine eq_ff hB (by decide) ?_ | refine fint_wrp hB (by omega) (by omega) ?_ | refine fint_step hB ?_ | refine fbool_tt hB ?_ | refine fbool_ff hB ?_ | refine fbool_split hB (fun _ => ?_) (fun _ => ?_) | refine ftok_step hB ?_ | refine frows_step hB ?_ | refine fstr_step hB ?_ | refine len_map hB ?_ | refine len_step hB ?_ | refine lens_step hB ?_ | refine byte_step hB ?_ | refine drop_step hB rfl ?_ | refine fl_step hB rfl ?_ | refine add_one hB (by first | omega | decide) ?_ | refine opt_step hB rfl ?_ | refine fnat_step hB ?_ | refine ifk_step hB rfl ?_ | refine ifk_step hB (flat_or rfl) ?_ | refine opt2_step hB rfl ?_ | refine obj_raw hB ?_ | refine sob_raw hB ?_ | refine fst_raw hB ?_ | refine optl_raw hB ?_ | refine tok_step hB rfl ?_) <;> conv => lhs; whnf)
        · rw [optsFrom_no h (by rw [hfit, a1]; rfl)] at k1
          rw [clampTok_pur htp]
          exact ih (i0 + 1) sn _ (by omega) (by omega) (hQn _ _ h3) hv0 k1
        · have hf : fitsB d i t i0 = true := by rw [hfit, a1, a2]; rfl
          have hne : ¬ ((i0 : Int) = -1) := by omega
          have hstep : stepS d rest pre t st sn (i0 : Int) = rest (pre ++ [(i0 : Int)]) (t ||| 1 <<< i0) st sn := by
            unfold stepS
            rw [if_neg hne, Int.toNat_natCast]
          rw [optsFrom_yes h hf, List.foldl_cons, hstep] at k1
          rw [clampTok_pur htp]
          exact ih (i0 + 1) _ _ (by omega) (by omega) (hQ i0 sn h hf h3) (hv'.isV hv0) fun v'' x hr => k1 v'' x (hv'.trans hr)
        · rw [optsFrom_no h (by rw [hfit, a1, a2]; rfl)] at k1
          rw [clampTok_pur htp]
          exact ih (i0 + 1) sn _ (by omega) (by omega) (hQn _ _ h3) hv0 k1
    · repeat' ((first | refine ifk_step hB (Nat.ble_eq_true_of_le (by omega)) ?_ | refine tok_step hB htp ?_ | refine purs_step hB rfl ?_ | refine lt_tt hB (by decide) ?_ | refine lt_ff hB (by decide) ?_ | refine le_tt hB (by decide) ?_ | refine le_ff hB (by decide) ?_ | refine eq_tt hB (by decide) ?_ | refine eq_ff hB (by decide) ?_ | refine fint_wrp hB (by omega) (by omega) ?_ | refine fint_step hB ?_ | refine fbool_tt hB ?_ | refine fbool_ff hB ?_ | refine fbool_split hB (fun _ => ?_) (fun _ => ?_) | refine ftok_step hB ?_ | refine frows_step hB ?_ | refine fstr_step hB ?_ | refine len_map hB ?_ | refine len_step hB ?_ | refine lens_step hB ?_ | refine byte_step hB ?_ | refine drop_step hB rfl ?_ | refine fl_step hB rfl ?_ | refine add_one hB (by first | omega | decide) ?_ | refine opt_step hB rfl ?_ | refine fnat_step hB ?_ | refine ifk_step hB rfl ?_ | refine ifk_step hB (flat_or rfl) ?_ | refine opt2_step hB rfl ?_ | refine obj_raw hB ?_ | refine sob_raw hB ?_ | refine fst_raw hB ?_ | refine optl_raw hB ?_ | refine tok_step hB rfl ?_) <;> conv => lhs; whnf)
      have hi : i0 = d.ps.length := by omega
      subst hi
      rw [optsFrom_end (Nat.le_refl _)] at k1
      rw [clampTok_pur htp]
      exact k1 v _ (IsR.refl _ (hQe _ _ h3))
end Go.Ab.Cl

namespace Go.Ab.Cl
open Go.Ab

theorem cellsI_app (a b : List Nat) : cellsI (a ++ b) = cellsI a ++ cellsI b := by simp [cellsI]
theorem cellsI_len (a : List Nat) : (cellsI a).length = a.length := by simp [cellsI]
theorem cellsI_drop {done rest : List Nat} {x i : Nat} (hi : i = done.length) : (cellsI (done ++ x :: rest)).drop (Nat.add 0 (Nat.mul i 1)) = .int .i64 (x : Int) :: cellsI rest := by
  have : Nat.add 0 (Nat.mul i 1) = (cellsI done).length := by rw [cellsI_len, ← hi]; simp
  rw [this, cellsI_app, List.drop_left]
  rfl
theorem cellsI_put {done rest : List Nat} {x y i : Nat} (hi : i = done.length) : putAt (cellsI (done ++ x :: rest)) (Nat.add 0 (Nat.mul i 1)) [.int .i64 (y : Int)] = cellsI ((done ++ [y]) ++ rest) := by
  have h : Nat.add 0 (Nat.mul i 1) = (cellsI done).length := by rw [cellsI_len, ← hi]; simp
  rw [h, cellsI_app, cellsI_app, cellsI_app]
  simp [putAt, cellsI, List.drop_append]
theorem flat_int : ∀ (l : List Nat), (rowsI (nats l)).flatten = cellsI l
  | [] => rfl
  | x :: l => by
    have := flat_int l
    simp only [rowsI, nats, cellsI, List.map_cons, List.flatten_cons] at *
    rw [this]; rfl
theorem rows_int {l : List Nat} : rowsOf 1 l.length (cellsI l) = rowsI (nats l) := by
  rw [← flat_int]
  have := rowsOf_flat (e := 1) (rowsI (nats l)) (by simp [rowsI])
  simpa [rowsI, nats] using this
theorem cells_pur (l : List Nat) : purs (cellsI l) = true := pures_of fun v hv => by
  simp only [cellsI, List.mem_map] at hv
  obtain ⟨x, _, rfl⟩ := hv
  rfl
theorem rowsAt_v {s : St} {v : AV} {is : List Nat} (hv : IsV s v is) : rowsAt s 1 v = some (rowsI (nats is)) := by
  rcases hv with ⟨t, ht, rfl⟩ | ⟨l, i, rfl, h1, h2⟩
  · rfl
  · have h3 : is.length ≤ (cellsI is).length := by rw [cellsI_len]; omega
    have h4 : purs ((cellsI is).take is.length) = true := by rw [List.take_of_length_le (by rw [cellsI_len]; omega)]; exact cells_pur is
    simp [rowsAt, h2, h3, h4, rows_int]
theorem appo_v {s : St} {f : Fr} {v : AV} {is : List Nat} (hv : IsV (f :: s) v is) (hl : is.length ≤ 1000) : appoAt (f :: s) 1 8 (.sl [] .full) v = some (if is = [] then (.sl [] .full, f :: s) else (.os s.length f.objs.length 0 is.length 1, ⟨f.objs ++ [.cells (cellsI is)], f.toks⟩ :: s)) := by
  obtain ⟨os, tk⟩ := f
  cases is with
  | nil => simp [appoAt, rowsAt_v hv, rowsI, nats]
  | cons x is =>
    have h1 := flat_int (x :: is)
    simp only [rowsI, nats, List.map_cons] at h1
    have h2 : (is.length + 1) * 8 ≤ 140737488355328 := by simp at hl; omega
    simp [appoAt, rowsAt_v hv, newObj, rowsI, nats, headFit, h2, h1] <;> simpa using h1

theorem cells_room {done rest : List Nat} {x i : Nat} (hi : i = done.length) : Nat.ble (Nat.add (Nat.add 0 (Nat.mul i 1)) 1) (lenK (cellsI (done ++ x :: rest))) = true := by
  rw [lenK_eq, cellsI_len]
  refine Nat.ble_eq_true_of_le ?_
  show 0 + i * 1 + 1 ≤ _
  simp; omega
theorem val_cons (d : Desk) (z : Int) (l : List Int) : val d (z :: l) = (if z = -1 then 0 else valueOf d z.toNat) + val d l := rfl
theorem a87_L1_step {B : Bnd} (hB : B = Bk) {cl : CallK} {rd : RoundK} (d : Desk) (hd : d.ok) (hc : d.check = true) (l : List Int) (hl6 : l.length ≤ 6) {tp : Tok} (htp : purTok tp = true) {zt : Int} (s : St) {D : Nat} (hD : D = s.length) (z6 sc : List AV) (nn : Nat)
    (hge : ∀ z ∈ l, -1 ≤ z) (hlt : ∀ z ∈ l, z < d.ps.length) (n : Nat) (k : Ex → Env → St → Ans) (r : Ans) :
    ∀ (lr : List Int) (rest : List Nat) (j i0 : Nat) (done : List Nat) (ld : List Int) (w : Int), rest.length = lr.length → i0 = done.length → i0 = ld.length → l = ld ++ lr → nn = i0 + lr.length → (∀ x ∈ rest, x < 512) → lr.length < j → 0 ≤ w → w ≤ 100000 * (i0 : Int) →
    (∀ x, k (.exit 0) [(1, .sl (rowsI l) tp), (2, .int .i64 zt), (5, .ptr D 0 0), (9, .ptr D 1 0), (10, .ptr D 2 0), (11, .int .i64 (w + val d lr)), (12, .os D 3 0 nn 1), (13, .int .i64 x)] (⟨[.cells d.c, .cells sc, .cells z6, .cells (cellsI (done ++ markIs d.ps.length rest lr))], []⟩ :: s) = r) →
    B.loop (evCK B a87_L1) [1, 2, 5, 9, 10, 11, 12, 13] n j cl rd Gx D (D + 1) [(1, .sl (rowsI l) tp), (2, .int .i64 zt), (5, .ptr D 0 0), (9, .ptr D 1 0), (10, .ptr D 2 0), (11, .int .i64 w), (12, .os D 3 0 nn 1), (13, .int .i64 (.ofNat i0))] (⟨[.cells d.c, .cells sc, .cells z6, .cells (cellsI (done ++ rest))], []⟩ :: s) k = r := by
  intro lr
  induction lr with
  | nil =>
    intro rest j i0 done ld w h1 h2 h3 h4 h5 h6 h7 h8 h9 k1
    obtain ⟨j, rfl⟩ : ∃ j', j = j' + 1 := ⟨j - 1, by simp at h7; omega⟩
    refine loop_succ hB ?_
    have hl2 : ∀ (g g' : Fr), D + 1 + 1 = (g :: g' :: s : St).length := fun _ _ => by simp [hD]
    have hl0 : ∀ (g : Fr), D < (g :: s : St).length := fun _ => by simp [hD]
    have hn : ¬ i0 < l.length := by rw [h4]; simp; omega
    conv => lhs; whnf
    repeat' ((first | refine fnat_pred hB ?_ | refine tok_step hB htp ?_ | refine len_map hB ?_ | refine lt_nat hB (fun h => absurd h hn) (fun h => ?_) | refine ifk_step hB (Nat.ble_eq_true_of_le (by omega)) ?_ | refine purs_step hB rfl ?_ | refine lt_tt hB (by decide) ?_ | refine lt_ff hB (by decide) ?_ | refine le_tt hB (by decide) ?_ | refine le_ff hB (by decide) ?_ | refine eq_tt hB (by decide) ?_ | refine eq_ff hB (by decide) ?_ | refine fint_wrp hB (by omega) (by omega) ?_ | refine fint_step hB ?_ | refine fbool_tt hB ?_ | refine fbool_ff hB ?_ | refine fbool_split hB (fun _ => ?_) (fun _ => ?_) | refine ftok_step hB ?_ | refine frows_step hB ?_ | refine fstr_step hB ?_ | refine len_map hB ?_ | refine len_step hB ?_ | refine lens_step hB ?_ | refine byte_step hB ?_ | refine drop_step hB rfl ?_ | refine fl_step hB rfl ?_ | refine add_one hB (by first | omega | decide) ?_ | refine opt_step hB rfl ?_ | refine fnat_step hB ?_ | refine ifk_step hB rfl ?_ | refine ifk_step hB (flat_or rfl) ?_ | refine opt2_step hB rfl ?_ | refine obj_raw hB ?_ | refine sob_raw hB ?_ | refine fst_raw hB ?_ | refine optl_raw hB ?_ | refine tok_step hB rfl ?_) <;> conv => lhs; whnf)
    rw [clampTok_pur htp]
    have e1 : markIs d.ps.length rest [] = rest := by
      have : rest = [] := List.length_eq_zero_iff.1 h1
      subst this; rfl
    have k1 := k1 (.ofNat i0)
    rw [e1, show w + val d [] = w from Int.add_zero w] at k1
    exact k1
  | cons z lr ih =>
    intro rest j i0 done ld w h1 h2 h3 h4 h5 h6 h7 h8 h9 k1
    obtain ⟨j, rfl⟩ : ∃ j', j = j' + 1 := ⟨j - 1, by simp at h7; omega⟩
    refine loop_succ hB ?_
    have hl2 : ∀ (g g' : Fr), D + 1 + 1 = (g :: g' :: s : St).length := fun _ _ => by simp [hD]
    have hl0 : ∀ (g : Fr), D < (g :: s : St).length := fun _ => by simp [hD]
    have hn : i0 < l.length := by rw [h4]; simp; omega
    have hz : (rowsI l)[i0]? = some [.int .i64 z] := by
      rw [h4, h3]; simp [rowsI]
    have hzm : z ∈ l := by rw [h4]; simp
    have hz1 := hge z hzm
    have h5' : nn = i0 + (lr.length + 1) := h5
    have hz2 := hlt z hzm
    have hnp := (check_fine hc).np
    match rest, h1 with
    | x :: rest, h1 =>
      have hx := h6 x (List.mem_cons_self ..)
      have h6' : ∀ y ∈ rest, y < 512 := fun y hy => h6 y (List.mem_cons_of_mem _ hy)
      have h1' : rest.length = lr.length := by simpa using h1
      have h7' : lr.length < j := by simp at h7; omega
      have hmk : markIs d.ps.length (x :: rest) (z :: lr) = (x ||| 1 <<< keyOf d.ps.length z) :: markIs d.ps.length rest lr := rfl
      rw [hmk, val_cons] at k1
      by_cases hneg : z < 0
      · have hm1 : z = -1 := by omega
        subst hm1
        have hk : keyOf d.ps.length (-1) = d.ps.length := rfl
        rw [hk, if_pos rfl] at k1
        conv => lhs; whnf
        repeat' ((first | refine fnat_pred hB ?_ | refine tok_step hB htp ?_ | refine tok_step hB hd.tp ?_ | refine tok_step hB hd.tb ?_ | refine len_map hB ?_ | refine lt_nat hB (fun h => ?_) (fun h => absurd hn h) | refine natOf_step hB (m := i0) rfl ?_ | refine nth_step hB hz ?_ | refine lt_tt hB hneg ?_ | refine opt_step hB (shl_gen (k := d.ps.length) rfl (by omega)) ?_ | refine opt_step hB (or_gen hx (shl_lt (by omega))) ?_ | refine obj_step hB (hl2 _ _) ((getObj_sub (hl0 _)).trans ((getObj_top hD).trans rfl)) ?_ | refine sob_step hB (hl2 _ _) ((setObj_sub (hl0 _)).trans (congrArg (_ :: ·) (setTop3 hD))) ?_ | refine drop_step hB (cellsI_drop h2) ?_ | refine ifk_step hB (cells_room h2) ?_ | refine optl_step hB rfl ?_ | refine fl_step hB (cellsI_put h2) ?_ | refine ifk_step hB (Nat.ble_eq_true_of_le (by omega)) ?_ | refine fbool_same hB (by omega) ?_ | refine fbool_other hB (by omega) ?_ | refine purs_step hB rfl ?_ | refine lt_tt hB (by decide) ?_ | refine lt_ff hB (by decide) ?_ | refine le_tt hB (by decide) ?_ | refine le_ff hB (by decide) ?_ | refine eq_tt hB (by decide) ?_ | refine eq_ff hB (by decide) ?_ | refine fint_wrp hB (by omega) (by omega) ?_ | refine fint_step hB ?_ | refine fbool_tt hB ?_ | refine fbool_ff hB ?_ | refine fbool_split hB (fun _ => ?_) (fun _ => ?_) | refine ftok_step hB ?_ | refine frows_step hB ?_ | refine fstr_step hB ?_ | refine len_map hB ?_ | refine len_step hB ?_ | refine lens_step hB ?_ | refine byte_step hB ?_ | refine drop_step hB rfl ?_ | refine fl_step hB rfl ?_ | refine add_one hB (by first | omega | decide) ?_ | refine opt_step hB rfl ?_ | refine fnat_step hB ?_ | refine ifk_step hB rfl ?_ | refine ifk_step hB (flat_or rfl) ?_ | refine opt2_step hB rfl ?_ | refine obj_raw hB ?_ | refine sob_raw hB ?_ | refine fst_raw hB ?_ | refine optl_raw hB ?_ | refine tok_step hB rfl ?_) <;> conv => lhs; whnf)
        rw [clampTok_pur htp]
        refine ih rest j (i0 + 1) (done ++ [x ||| 1 <<< d.ps.length]) (ld ++ [-1]) w h1' (by simp; omega) (by simp; omega) (by simp [h4]) (by omega) h6' h7' h8 (by omega) fun x' => ?_
        have k1 := k1 x'
        rw [Int.zero_add] at k1
        rw [List.append_assoc]
        exact k1
      · obtain ⟨m, rfl⟩ : ∃ m : Nat, z = (m : Int) := ⟨z.toNat, by omega⟩
        have hm : m < d.ps.length := by omega
        obtain ⟨p, hp⟩ := meantRow d hm
        have hpx : (d.ps.map Parcel.c)[m]? = some p.c := by simp [hp]
        have hk : keyOf d.ps.length (m : Int) = m := by unfold keyOf; rw [if_neg hneg, Int.toNat_natCast]
        have hv : valueOf d m = p.value := by unfold valueOf; rw [hp]
        have hvb := value_in hc m
        rw [hv] at hvb
        rw [hk, if_neg (by omega), Int.toNat_natCast, hv] at k1
        conv => lhs; whnf
        repeat' ((first | refine fnat_pred hB ?_ | refine tok_step hB htp ?_ | refine tok_step hB hd.tp ?_ | refine tok_step hB hd.tb ?_ | refine len_map hB ?_ | refine lt_nat hB (fun h => ?_) (fun h => absurd hn h) | refine natOf_step hB (m := i0) rfl ?_ | refine nth_step hB hz ?_ | refine lt_ff hB hneg ?_ | refine natOf_step hB (m := m) rfl ?_ | refine nth_step hB hpx ?_ | refine opt_step hB (shl_gen (k := m) rfl (by omega)) ?_ | refine opt_step hB (or_gen hx (shl_lt (by omega))) ?_ | refine add_step hB (by omega) (by omega) ?_ | refine obj_step hB (hl2 _ _) ((getObj_sub (hl0 _)).trans ((getObj_top hD).trans rfl)) ?_ | refine sob_step hB (hl2 _ _) ((setObj_sub (hl0 _)).trans (congrArg (_ :: ·) (setTop3 hD))) ?_ | refine drop_step hB (cellsI_drop h2) ?_ | refine ifk_step hB (cells_room h2) ?_ | refine optl_step hB rfl ?_ | refine fl_step hB (cellsI_put h2) ?_ | refine ifk_step hB (Nat.ble_eq_true_of_le (by omega)) ?_ | refine fbool_same hB (by omega) ?_ | refine fbool_other hB (by omega) ?_ | refine purs_step hB rfl ?_ | refine lt_tt hB (by decide) ?_ | refine lt_ff hB (by decide) ?_ | refine le_tt hB (by decide) ?_ | refine le_ff hB (by decide) ?_ | refine eq_tt hB (by decide) ?_ | refine eq_ff hB (by decide) ?_ | refine fint_wrp hB (by omega) (by omega) ?_ | refine fint_step hB ?_ | refine fbool_tt hB ?_ | refine fbool_ff hB ?_ | refine fbool_split hB (fun _ => ?_) (fun _ => ?_) | refine ftok_step hB ?_ | refine frows_step hB ?_ | refine fstr_step hB ?_ | refine len_map hB ?_ | refine len_step hB ?_ | refine lens_step hB ?_ | refine byte_step hB ?_ | refine drop_step hB rfl ?_ | refine fl_step hB rfl ?_ | refine add_one hB (by first | omega | decide) ?_ | refine opt_step hB rfl ?_ | refine fnat_step hB ?_ | refine ifk_step hB rfl ?_ | refine ifk_step hB (flat_or rfl) ?_ | refine opt2_step hB rfl ?_ | refine obj_raw hB ?_ | refine sob_raw hB ?_ | refine fst_raw hB ?_ | refine optl_raw hB ?_ | refine tok_step hB rfl ?_) <;> conv => lhs; whnf)
        rw [clampTok_pur htp]
        refine ih rest j (i0 + 1) (done ++ [x ||| 1 <<< m]) (ld ++ [(m : Int)]) (w + p.value) h1' (by simp; omega) (by simp; omega) (by simp [h4]) (by omega) h6' h7' (by omega) (by omega) fun x' => ?_
        have k1 := k1 x'
        rw [List.append_assoc, Int.add_assoc]
        exact k1
end Go.Ab.Cl
