/-
  The claims, the specification: the walk at a truth.
-/
import Derived.Test.YthbekoofiienjaaDoorClJc
import Derived.Test.YthbekoofiienjaaDoorClZ
import Derived.Test.YthbekoofiienjaaDoorClD
namespace Go.Ab.Cl
open Go.Ab

theorem cellsI_app (a b : List Nat) : cellsI (a ++ b) = cellsI a ++ cellsI b := by simp [cellsI]
theorem cellsI_len (a : List Nat) : (cellsI a).length = a.length := by simp [cellsI]
theorem cellsI_drop {done rest : List Nat} {x i : Nat} (hi : i = done.length) : (cellsI (done ++ x :: rest)).drop (Nat.add 0 (Nat.mul i 1)) = .int .i64 (x : Int) :: cellsI rest := by
  have : Nat.add 0 (Nat.mul i 1) = (cellsI done).length := by rw [cellsI_len, ← hi]; simp
  rw [this, cellsI_app, List.drop_left]
  rfl
theorem cellsI_put {done rest : List Nat} {x y i : Nat} (hi : i = done.length) : putAt (cellsI (done ++ x :: rest)) (Nat.add 0 (Nat.mul i 1)) [.int .i64 (y : Int)] = cellsI ((done ++ [y]) ++ rest) := by
  have h : Nat.add 0 (Nat.mul i 1) = (cellsI done).length := by rw [cellsI_len, ← hi]; simp
  rw [h, cellsI_app, cellsI_app, cellsI_app]
  simp [putAt, cellsI, List.drop_append]
theorem flat_int : ∀ (l : List Nat), (rowsI (nats l)).flatten = cellsI l
  | [] => rfl
  | x :: l => by
    have := flat_int l
    simp only [rowsI, nats, cellsI, List.map_cons, List.flatten_cons] at *
    rw [this]; rfl
theorem rows_int {l : List Nat} : rowsOf 1 l.length (cellsI l) = rowsI (nats l) := by
  rw [← flat_int]
  have := rowsOf_flat (e := 1) (rowsI (nats l)) (by simp [rowsI])
  simpa [rowsI, nats] using this
theorem cells_pur (l : List Nat) : purs (cellsI l) = true := pures_of fun v hv => by
  simp only [cellsI, List.mem_map] at hv
  obtain ⟨x, _, rfl⟩ := hv
  rfl
theorem rowsAt_v {s : St} {v : AV} {is : List Nat} (hv : IsV s v is) : rowsAt s 1 v = some (rowsI (nats is)) := by
  rcases hv with ⟨t, ht, rfl⟩ | ⟨l, i, rfl, h1, h2⟩
  · rfl
  · have h3 : is.length ≤ (cellsI is).length := by rw [cellsI_len]; omega
    have h4 : purs ((cellsI is).take is.length) = true := by rw [List.take_of_length_le (by rw [cellsI_len]; omega)]; exact cells_pur is
    simp [rowsAt, h2, h3, h4, rows_int]
theorem appo_v {s : St} {f : Fr} {v : AV} {is : List Nat} (hv : IsV (f :: s) v is) (hl : is.length ≤ 1000) : appoAt (f :: s) 1 8 (.sl [] .full) v = some (if is = [] then (.sl [] .full, f :: s) else (.os s.length f.objs.length 0 is.length 1, ⟨f.objs ++ [.cells (cellsI is)], f.toks⟩ :: s)) := by
  obtain ⟨os, tk⟩ := f
  cases is with
  | nil => simp [appoAt, rowsAt_v hv, rowsI, nats]
  | cons x is =>
    have h1 := flat_int (x :: is)
    simp only [rowsI, nats, List.map_cons] at h1
    have h2 : (is.length + 1) * 8 ≤ 140737488355328 := by simp at hl; omega
    simp [appoAt, rowsAt_v hv, newObj, rowsI, nats, headFit, h2, h1] <;> simpa using h1

theorem cells_room {done rest : List Nat} {x i : Nat} (hi : i = done.length) : Nat.ble (Nat.add (Nat.add 0 (Nat.mul i 1)) 1) (lenK (cellsI (done ++ x :: rest))) = true := by
  rw [lenK_eq, cellsI_len]
  refine Nat.ble_eq_true_of_le ?_
  show 0 + i * 1 + 1 ≤ _
  simp; omega
theorem val_cons (d : Desk) (z : Int) (l : List Int) : val d (z :: l) = (if z = -1 then 0 else valueOf d z.toNat) + val d l := rfl
theorem a87_L1_step {B : Bnd} (hB : B = Bk) {cl : CallK} {rd : RoundK} (d : Desk) (hd : d.ok) (hc : d.check = true) (l : List Int) (hl6 : l.length ≤ 6) {tp : Tok} (htp : purTok tp = true) {zt : Int} (s : St) {D : Nat} (hD : D = s.length) (z6 sc : List AV) (nn : Nat)
    (hge : ∀ z ∈ l, -1 ≤ z) (hlt : ∀ z ∈ l, z < d.ps.length) (n : Nat) (k : Ex → Env → St → Ans) (r : Ans) :
    ∀ (lr : List Int) (rest : List Nat) (j i0 : Nat) (done : List Nat) (ld : List Int) (w : Int), rest.length = lr.length → i0 = done.length → i0 = ld.length → l = ld ++ lr → nn = i0 + lr.length → (∀ x ∈ rest, x < 512) → lr.length < j → 0 ≤ w → w ≤ 100000 * (i0 : Int) →
    (∀ x, k (.exit 0) [(1, .sl (rowsI l) tp), (2, .int .i64 zt), (5, .ptr D 0 0), (9, .ptr D 1 0), (10, .ptr D 2 0), (11, .int .i64 (w + val d lr)), (12, .os D 3 0 nn 1), (13, .int .i64 x)] (⟨[.cells d.c, .cells sc, .cells z6, .cells (cellsI (done ++ markIs d.ps.length rest lr))], []⟩ :: s) = r) →
    B.loop (evCK B a87_L1) [1, 2, 5, 9, 10, 11, 12, 13] n j cl rd Gx D (D + 1) [(1, .sl (rowsI l) tp), (2, .int .i64 zt), (5, .ptr D 0 0), (9, .ptr D 1 0), (10, .ptr D 2 0), (11, .int .i64 w), (12, .os D 3 0 nn 1), (13, .int .i64 (.ofNat i0))] (⟨[.cells d.c, .cells sc, .cells z6, .cells (cellsI (done ++ rest))], []⟩ :: s) k = r := by
  intro lr
  induction lr with
  | nil =>
    intro rest j i0 done ld w h1 h2 h3 h4 h5 h6 h7 h8 h9 k1
    obtain ⟨j, rfl⟩ : ∃ j', j = j' + 1 := ⟨j - 1, by simp at h7; omega⟩
    refine loop_succ hB ?_
    have hl2 : ∀ (g g' : Fr), D + 1 + 1 = (g :: g' :: s : St).length := fun _ _ => by simp [hD]
    have hl0 : ∀ (g : Fr), D < (g :: s : St).length := fun _ => by simp [hD]
    have hn : ¬ i0 < l.length := by rw [h4]; simp; omega
    conv => lhs; whnf
    repeat' ((first | refine fnat_pred hB ?_ | refine tok_step hB htp ?_ | refine len_map hB ?_ | refine lt_nat hB (fun h => absurd h hn) (fun h => ?_) | refine ifk_step hB (Nat.ble_eq_true_of_le (by omega)) ?_ | refine purs_step hB rfl ?_ | refine lt_tt hB (by decide) ?_ | refine lt_ff hB (by decide) ?_ | refine le_tt hB (by decide) ?_ | refine le_ff hB (by decide) ?_ | refine eq_tt hB (by decide) ?_ | refine eq_ff hB (by decide) ?_ | refine fint_wrp hB (by omega) (by omega) ?_ | refine fint_step hB ?_ | refine fbool_tt hB ?_ | refine fbool_ff hB ?_ | refine fbool_split hB (fun _ => ?_) (fun _ => ?_) | refine ftok_step hB ?_ | refine frows_step hB ?_ | refine fstr_step hB ?_ | refine len_map hB ?_ | refine len_step hB ?_ | refine lens_step hB ?_ | refine byte_step hB ?_ | refine drop_step hB rfl ?_ | refine fl_step hB rfl ?_ | refine add_one hB (by first | omega | decide) ?_ | refine opt_step hB rfl ?_ | refine fnat_step hB ?_ | refine ifk_step hB rfl ?_ | refine ifk_step hB (flat_or rfl) ?_ | refine opt2_step hB rfl ?_ | refine obj_raw hB ?_ | refine sob_raw hB ?_ | refine fst_raw hB ?_ | refine optl_raw hB ?_ | refine tok_step hB rfl ?_) <;> conv => lhs; whnf)
    rw [clampTok_pur htp]
    have e1 : markIs d.ps.length rest [] = rest := by
      have : rest = [] := List.length_eq_zero_iff.1 h1
      subst this; rfl
    have k1 := k1 (.ofNat i0)
    rw [e1, show w + val d [] = w from Int.add_zero w] at k1
    exact k1
  | cons z lr ih =>
    intro rest j i0 done ld w h1 h2 h3 h4 h5 h6 h7 h8 h9 k1
    obtain ⟨j, rfl⟩ : ∃ j', j = j' + 1 := ⟨j - 1, by simp at h7; omega⟩
    refine loop_succ hB ?_
    have hl2 : ∀ (g g' : Fr), D + 1 + 1 = (g :: g' :: s : St).length := fun _ _ => by simp [hD]
    have hl0 : ∀ (g : Fr), D < (g :: s : St).length := fun _ => by simp [hD]
    have hn : i0 < l.length := by rw [h4]; simp; omega
    have hz : (rowsI l)[i0]? = some [.int .i64 z] := by
      rw [h4, h3]; simp [rowsI]
    have hzm : z ∈ l := by rw [h4]; simp
    have hz1 := hge z hzm
    have h5' : nn = i0 + (lr.length + 1) := h5
    have hz2 := hlt z hzm
    have hnp := (check_fine hc).np
    match rest, h1 with
    | x :: rest, h1 =>
      have hx := h6 x (List.mem_cons_self ..)
      have h6' : ∀ y ∈ rest, y < 512 := fun y hy => h6 y (List.mem_cons_of_mem _ hy)
      have h1' : rest.length = lr.length := by simpa using h1
      have h7' : lr.length < j := by simp at h7; omega
      have hmk : markIs d.ps.length (x :: rest) (z :: lr) = (x ||| 1 <<< keyOf d.ps.length z) :: markIs d.ps.length rest lr := rfl
      rw [hmk, val_cons] at k1
      by_cases hneg : z < 0
      · have hm1 : z = -1 := by omega
        subst hm1
        have hk : keyOf d.ps.length (-1) = d.ps.length := rfl
        rw [hk, if_pos rfl] at k1
        conv => lhs; whnf
        repeat' ((first | refine fnat_pred hB ?_ | refine tok_step hB htp ?_ | refine tok_step hB hd.tp ?_ | refine tok_step hB hd.tb ?_ | refine len_map hB ?_ | refine lt_nat hB (fun h => ?_) (fun h => absurd hn h) | refine natOf_step hB (m := i0) rfl ?_ | refine nth_step hB hz ?_ | refine lt_tt hB hneg ?_ | refine opt_step hB (shl_gen (k := d.ps.length) rfl (by omega)) ?_ | refine opt_step hB (or_gen hx (shl_lt (by omega))) ?_ | refine obj_step hB (hl2 _ _) ((getObj_sub (hl0 _)).trans ((getObj_top hD).trans rfl)) ?_ | refine sob_step hB (hl2 _ _) ((setObj_sub (hl0 _)).trans (congrArg (_ :: ·) (setTop3 hD))) ?_ | refine drop_step hB (cellsI_drop h2) ?_ | refine ifk_step hB (cells_room h2) ?_ | refine optl_step hB rfl ?_ | refine fl_step hB (cellsI_put h2) ?_ | refine ifk_step hB (Nat.ble_eq_true_of_le (by omega)) ?_ | refine fbool_same hB (by omega) ?_ | refine fbool_other hB (by omega) ?_ | refine purs_step hB rfl ?_ | refine lt_tt hB (by decide) ?_ | refine lt_ff hB (by decide) ?_ | refine le_tt hB (by decide) ?_ | refine le_ff hB (by decide) ?_ | refine eq_tt hB (by decide) ?_ | refine eq_ff hB (by decide) ?_ | refine fint_wrp hB (by omega) (by omega) ?_ | refine fint_step hB ?_ | refine fbool_tt hB ?_ | refine fbool_ff hB ?_ | refine fbool_split hB (fun _ => ?_) (fun _ => ?_) | refine ftok_step hB ?_ | refine frows_step hB ?_ | refine fstr_step hB ?_ | refine len_map hB ?_ | refine len_step hB ?_ | refine lens_step hB ?_ | refine byte_step hB ?_ | refine drop_step hB rfl ?_ | refine fl_step hB rfl ?_ | refine add_one hB (by first | omega | decide) ?_ | refine opt_step hB rfl ?_ | refine fnat_step hB ?_ | refine ifk_step hB rfl ?_ | refine ifk_step hB (flat_or rfl) ?_ | refine opt2_step hB rfl ?_ | refine obj_raw hB ?_ | refine sob_raw hB ?_ | refine fst_raw hB ?_ | refine optl_raw hB ?_ | refine tok_step hB rfl ?_) <;> conv => lhs; whnf)
        rw [clampTok_pur htp]
        refine ih rest j (i0 + 1) (done ++ [x ||| 1 <<< d.ps.length]) (ld ++ [-1]) w h1' (by simp; omega) (by simp; omega) (by simp [h4]) (by omega) h6' h7' h8 (by omega) fun x' => ?_
        have k1 := k1 x'
        rw [Int.zero_add] at k1
        rw [List.append_assoc]
        exact k1
      · obtain ⟨m, rfl⟩ : ∃ m : Nat, z = (m : Int) := ⟨z.toNat, by omega⟩
        have hm : m < d.ps.length := by omega
        obtain ⟨p, hp⟩ := meantRow d hm
        have hpx : (d.ps.map Parcel.c)[m]? = some p.c := by simp [hp]
        have hk : keyOf d.ps.length (m : Int) = m := by unfold keyOf; rw [if_neg hneg, Int.toNat_natCast]
        have hv : valueOf d m = p.value := by unfold valueOf; rw [hp]
        have hvb := value_in hc m
        rw [hv] at hvb
        rw [hk, if_neg (by omega), Int.toNat_natCast, hv] at k1
        conv => lhs; whnf
        repeat' ((first | refine fnat_pred hB ?_ | refine tok_step hB htp ?_ | refine tok_step hB hd.tp ?_ | refine tok_step hB hd.tb ?_ | refine len_map hB ?_ | refine lt_nat hB (fun h => ?_) (fun h => absurd hn h) | refine natOf_step hB (m := i0) rfl ?_ | refine nth_step hB hz ?_ | refine lt_ff hB hneg ?_ | refine natOf_step hB (m := m) rfl ?_ | refine nth_step hB hpx ?_ | refine opt_step hB (shl_gen (k := m) rfl (by omega)) ?_ | refine opt_step hB (or_gen hx (shl_lt (by omega))) ?_ | refine add_step hB (by omega) (by omega) ?_ | refine obj_step hB (hl2 _ _) ((getObj_sub (hl0 _)).trans ((getObj_top hD).trans rfl)) ?_ | refine sob_step hB (hl2 _ _) ((setObj_sub (hl0 _)).trans (congrArg (_ :: ·) (setTop3 hD))) ?_ | refine drop_step hB (cellsI_drop h2) ?_ | refine ifk_step hB (cells_room h2) ?_ | refine optl_step hB rfl ?_ | refine fl_step hB (cellsI_put h2) ?_ | refine ifk_step hB (Nat.ble_eq_true_of_le (by omega)) ?_ | refine fbool_same hB (by omega) ?_ | refine fbool_other hB (by omega) ?_ | refine purs_step hB rfl ?_ | refine lt_tt hB (by decide) ?_ | refine lt_ff hB (by decide) ?_ | refine le_tt hB (by decide) ?_ | refine le_ff hB (by decide) ?_ | refine eq_tt hB (by decide) ?_ | refine eq_ff hB (by decide) ?_ | refine fint_wrp hB (by omega) (by omega) ?_ | refine fint_step hB ?_ | refine fbool_tt hB ?_ | refine fbool_ff hB ?_ | refine fbool_split hB (fun _ => ?_) (fun _ => ?_) | refine ftok_step hB ?_ | refine frows_step hB ?_ | refine fstr_step hB ?_ | refine len_map hB ?_ | refine len_step hB ?_ | refine lens_step hB ?_ | refine byte_step hB ?_ | refine drop_step hB rfl ?_ | refine fl_step hB rfl ?_ | refine add_one hB (by first | omega | decide) ?_ | refine opt_step hB rfl ?_ | refine fnat_step hB ?_ | refine ifk_step hB rfl ?_ | refine ifk_step hB (flat_or rfl) ?_ | refine opt2_step hB rfl ?_ | refine obj_raw hB ?_ | refine sob_raw hB ?_ | refine fst_raw hB ?_ | refine optl_raw hB ?_ | refine tok_step hB rfl ?_) <;> conv => lhs; whnf)
        rw [clampTok_pur htp]
        refine ih rest j (i0 + 1) (done ++ [x ||| 1 <<< m]) (ld ++ [(m : Int)]) (w + p.value) h1' (by simp; omega) (by simp; omega) (by simp [h4]) (by omega) h6' h7' (by omega) (by omega) fun x' => ?_
        have k1 := k1 x'
        rw [List.append_assoc, Int.add_assoc]
        exact k1
end Go.Ab.Cl

namespace Go.Ab
theorem getTok_sub {f : Fr} {s : St} {l p : Nat} (h : l < s.length) : getTok (f :: s) l p = getTok s l p := by
  unfold getTok
  show (match (if l = s.length then some f else getFr s l) with | some f => tokGet f.toks p | none => (0, 0)) = _
  rw [if_neg (by omega)]
  rfl
theorem setTok_sub {f : Fr} {s : St} {l p : Nat} {x : Nat × Nat} (h : l < s.length) : setTok (f :: s) l p x = f :: setTok s l p x := by
  show (if l = s.length then _ else f :: modFr _ s l) = _
  rw [if_neg (by omega)]; rfl
theorem getTok_over {fr : List Fr} {s : St} {l p : Nat} (h : l < s.length) : getTok (fr ++ s) l p = getTok s l p := by
  induction fr with
  | nil => rfl
  | cons f fr ih => rw [List.cons_append, getTok_sub (by simp; omega), ih]
theorem setTok_over {fr : List Fr} {s : St} {l p : Nat} {x : Nat × Nat} (h : l < s.length) : setTok (fr ++ s) l p x = fr ++ setTok s l p x := by
  induction fr with
  | nil => rfl
  | cons f fr ih => rw [List.cons_append, setTok_sub (by simp; omega), ih]; rfl
end Go.Ab
namespace Go.Ab.Cl
open Go.Ab

def setI : List (Int × Int) → Int → Int → List (Int × Int)
  | [], i, k => [(i, k)]
  | (a, b) :: l, i, k => if a = i then (i, k) :: l else (a, b) :: setI l i k
theorem setI_ok (ge : List (Int × Int)) (i k : Int) : setE (.s .int) (.int .i64 i) (.int .i64 k) (intsE ge) = some (intsE (setI ge i k)) := by
  induction ge with
  | nil => rfl
  | cons p ge ih =>
    obtain ⟨a, b⟩ := p
    show (eqK (.s .int) (.int .i64 i) (.int .i64 a)).bind _ = _
    have e : eqK (.s .int) (.int .i64 i) (.int .i64 a) = some (i == a) := by simp [eqK, eqS]
    rw [e]
    simp only [Option.bind_some, setI]
    by_cases h : a = i
    · subst h; simp [intsE]
    · have h2 : (i == a) = false := by simpa using fun e => h e.symm
      rw [h2, if_neg h]
      simp only [Bool.false_eq_true, if_false]
      rw [show setE (.s .int) (.int .i64 i) (.int .i64 k) (ge.map fun p => (.int .i64 p.1, .int .i64 p.2)) = _ from ih]
      rfl
theorem look_set (ge : List (Int × Int)) (i k j : Int) : look (setI ge i k) j = if j = i then some k else look ge j := by
  induction ge with
  | nil =>
    unfold look setI
    by_cases h : j = i
    · subst h; simp
    · have h2 : (i == j) = false := by simpa using fun e => h e.symm
      simp [List.find?, h2, h]
  | cons p ge ih =>
    obtain ⟨a, b⟩ := p
    unfold setI
    by_cases h : a = i
    · subst h
      rw [if_pos rfl]
      unfold look
      by_cases h : j = a
      · subst h; simp
      · have h2 : (a == j) = false := by simpa using fun e => h e.symm
        simp [List.find?, h2, h]
    · rw [if_neg h]
      by_cases h3 : a = j
      · subst h3
        rw [if_neg h]
        simp [look]
      · have h2 : (a == j) = false := by simpa using h3
        have e1 : look ((a, b) :: setI ge i k) j = look (setI ge i k) j := by simp [look, List.find?, h2]
        have e2 : look ((a, b) :: ge) j = look ge j := by simp [look, List.find?, h2]
        rw [e1, e2, ih]

def tkf (l : List Int) : Tok := if l.isEmpty = true then .full else .site 0 44 1
theorem clamp_tkf (lv : Nat) (l : List Int) : clampTok lv (tkf l) = tkf l := by
  unfold tkf; split
  · rfl
  · simp [clampTok]
/-- The frames of Truth's rounds. -/
def TS (d : Desk) (zi : Int) (lo : AObj) (ge : List (Int × Int)) (out tout : List Int) : St :=
  [⟨[.cells [.int .i64 zi], lo], []⟩, ⟨[.cells d.c, .cells d.c, .cells [.sl (rowsI out) (tkf out)], .map (intsE ge), .cells [.mp 0 3]], tks 44 tout⟩]
section
variable {d : Desk} {zi : Int} {lo : AObj} {ge : List (Int × Int)} {out tout : List Int} {fr : List Fr}
theorem TS_len : 2 + fr.length = (fr ++ TS d zi lo ge out tout).length := by simp [TS]; omega
theorem TS_get1 : getObj (fr ++ TS d zi lo ge out tout) 0 1 = some (.cells d.c) := (getObj_over (by simp [TS])).trans rfl
theorem TS_get2 : getObj (fr ++ TS d zi lo ge out tout) 0 2 = some (.cells [.sl (rowsI out) (tkf out)]) := (getObj_over (by simp [TS])).trans rfl
theorem TS_get3 : getObj (fr ++ TS d zi lo ge out tout) 0 3 = some (.map (intsE ge)) := (getObj_over (by simp [TS])).trans rfl
theorem TS_get4 : getObj (fr ++ TS d zi lo ge out tout) 0 4 = some (.cells [.mp 0 3]) := (getObj_over (by simp [TS])).trans rfl
theorem TS_geti : getObj (fr ++ TS d zi lo ge out tout) 1 0 = some (.cells [.int .i64 zi]) := (getObj_over (by simp [TS])).trans rfl
theorem TS_getl : getObj (fr ++ TS d zi lo ge out tout) 1 1 = some lo := (getObj_over (by simp [TS])).trans rfl
theorem TS_set3 {ge' : List (Int × Int)} : setObj (fr ++ TS d zi lo ge out tout) 0 3 (.map (intsE ge')) = fr ++ TS d zi lo ge' out tout := (setObj_over (by simp [TS])).trans (congrArg (fr ++ ·) (by simp [TS, setObj, modFr, setO]))
theorem TS_set2 {out' : List Int} : setObj (fr ++ TS d zi lo ge out tout) 0 2 (.cells [.sl (rowsI out') (tkf out')]) = fr ++ TS d zi lo ge out' tout := (setObj_over (by simp [TS])).trans (congrArg (fr ++ ·) (by simp [TS, setObj, modFr, setO]))
theorem TS_setl {lo' : AObj} : setObj (fr ++ TS d zi lo ge out tout) 1 1 lo' = fr ++ TS d zi lo' ge out tout := (setObj_over (by simp [TS])).trans (congrArg (fr ++ ·) (by simp [TS, setObj, modFr, setO]))
theorem TS_app {f : Fr} (hl : out.length ≤ 1000) (z : Int) : appAt 0 (f :: (fr ++ TS d zi lo ge out out)) 44 1 8 (.sl (rowsI out) (tkf out)) (.sl [[.int .i64 z]] .full) = some (.sl (rowsI (out ++ [z])) (tkf (out ++ [z])), f :: (fr ++ TS d zi lo ge out (out ++ [z]))) := by
  have hlen : 0 < (fr ++ TS d zi lo ge out out).length := by simp [TS]
  have hlen2 : 0 < (TS d zi lo ge out out).length := by simp [TS]
  have hg : getTok (f :: (fr ++ TS d zi lo ge out out)) 0 44 = tokGet (tks 44 out) 44 := by
    rw [getTok_sub hlen, getTok_over hlen2]; rfl
  have hs : ∀ x, setTok (f :: (fr ++ TS d zi lo ge out out)) 0 44 x = f :: (fr ++ [⟨[.cells [.int .i64 zi], lo], []⟩, ⟨[.cells d.c, .cells d.c, .cells [.sl (rowsI out) (tkf out)], .map (intsE ge), .cells [.mp 0 3]], tokSet (tks 44 out) 44 x⟩]) := fun x => by
    rw [setTok_sub hlen, setTok_over hlen2]; rfl
  generalize f :: (fr ++ TS d zi lo ge out out) = s at hg hs ⊢
  cases out with
  | nil =>
    simp only [tks, List.isEmpty_nil, if_true] at hg
    simp [appAt, rowsAt, rowsI, tkf, headFit, purs, pur, hg, hs, tokGet, tks, tokSet, TS]
  | cons a out =>
    have h1 : ((out.length + 1 + 1) * 8 ≤ 140737488355328) := by simp at hl; omega
    simp only [tks, List.isEmpty_cons, Bool.false_eq_true, if_false] at hg
    simp [appAt, rowsAt, rowsI, tkf, headFit, purs, pur, hg, hs, tokGet, tks, tokSet, TS, h1]
end
end Go.Ab.Cl

namespace Go.Ab.Cl
open Go.Ab

def wtk : List Nat → Tok
  | [] => .nil
  | _ :: _ => .any
theorem wtk_pur (l : List Nat) : purTok (wtk l) = true := by cases l <;> rfl
def ftok : Tok → Tok
  | .nil => .nil
  | _ => .full
theorem ftok_or (t : Tok) : ftok t = .nil ∨ ftok t = .full := by cases t <;> simp [ftok]
theorem slice_pur {t : Tok} (l : List Int) : sliceAV 1 (.sl (rowsI l) t) none (some (.int .i64 (.ofNat l.length))) (some (.int .i64 (.ofNat l.length))) = some (.sl (rowsI l) (ftok t)) := by
  have h1 : headFit 1 (rowsI l) = true := by cases l <;> rfl
  have h : (0 : Int) ≤ (l.length : Int) := by omega
  have h3 : (rowsI l).length = l.length := by simp [rowsI]
  have h4 : List.take l.length (rowsI l) = rowsI l := List.take_of_length_le (by omega)
  cases t <;> simp [sliceAV, h1, bound, optBound, h, h3, h4, ftok]
theorem app_up {F : Fr} {os : List AObj} {T : List (Nat × Nat × Nat)} {s : St} {D p : Nat} (hD : D = s.length) {l : List Int} {t : Tok} (ht : t = .nil ∨ t = .full) (z : Int) (hl : l.length ≤ 1000) :
    appAt D (F :: ⟨os, T⟩ :: s) p 1 8 (.sl (rowsI l) t) (.sl [[.int .i64 z]] .full) = some (.sl (rowsI (l ++ [z])) (.site D p ((tokGet T p).1 + 1)), F :: ⟨os, tokSet T p ((tokGet T p).1 + 1, l.length + 1)⟩ :: s) := by
  have h1 : headFit 1 (rowsI l) = true := by cases l <;> rfl
  have h2 : (rowsI l).length = l.length := by simp [rowsI]
  have h3 : (l.length + 1) * 8 ≤ 140737488355328 := by omega
  have h4 : getTok (F :: ⟨os, T⟩ :: s) D p = tokGet T p := by
    rw [getTok_sub (by simp [hD])]
    simp [getTok, getFr, hD]
  have h5 : ∀ x, setTok (F :: ⟨os, T⟩ :: s) D p x = F :: ⟨os, tokSet T p x⟩ :: s := fun x => by
    rw [setTok_sub (by simp [hD])]
    simp [setTok, modFr, hD]
  have h6 : rowsI (l ++ [z]) = rowsI l ++ [[.int .i64 z]] := by simp [rowsI]
  have h7 : headFit 1 [[AV.int .i64 z]] = true := rfl
  rcases ht with rfl | rfl <;> simp [appAt, rowsAt, h1, h2, h3, h4, h5, h6, h7, purs, pur]

/-! ### boxes, of a frame below or none -/
def bflat (bs : List Box) : List AV := (bs.map Box.c).flatten
theorem bflat_len (bs : List Box) : (bflat bs).length = bs.length * 5 := by
  unfold bflat
  rw [flat_len5 (e := 5) _ box_len, List.length_map]
def IsBx (s : St) (v : AV) (bs : List Box) : Prop := (∃ t, purTok t = true ∧ v = .sl (bs.map Box.c) t) ∨ ∃ l i, v = .os l i 0 bs.length 5 ∧ l < s.length ∧ getObj s l i = some (.cells (bflat bs))
theorem IsBx.up {s : St} {v : AV} {bs : List Box} (h : IsBx s v bs) (f : Fr) : IsBx (f :: s) v bs := by
  rcases h with h | ⟨l, i, h1, h2, h3⟩
  · exact .inl h
  · exact .inr ⟨l, i, h1, by simp; omega, (getObj_sub h2).trans h3⟩
theorem rowsAt_bx {s : St} {v : AV} {bs : List Box} (hv : IsBx s v bs) : rowsAt s 5 v = some (bs.map Box.c) := by
  rcases hv with ⟨t, ht, rfl⟩ | ⟨l, i, rfl, h1, h2⟩
  · rfl
  · have h3 : bs.length * 5 ≤ (bflat bs).length := by rw [bflat_len]; exact Nat.le_refl _
    have h4 : purs ((bflat bs).take (bs.length * 5)) = true := by
      rw [List.take_of_length_le (by rw [bflat_len]; omega)]
      exact purs_flatten _ fun r hr => (box_pur r hr).2
    have h5 : rowsOf 5 bs.length (bflat bs) = bs.map Box.c := by
      have := rowsOf_flat (e := 5) (bs.map Box.c) box_len
      rwa [List.length_map] at this
    simp [rowsAt, h2, h3, h4, h5]
theorem appo_bx {s : St} {D : Nat} (hD : D = s.length) {f : Fr} {v : AV} {bs : List Box} (hv : IsBx (f :: s) v bs) (hne : bs ≠ []) (hl : bs.length ≤ 1000) : appoAt (f :: s) 5 48 (.sl [] .nil) v = some (.os D f.objs.length 0 bs.length 5, ⟨f.objs ++ [.cells (bflat bs)], f.toks⟩ :: s) := by
  subst hD
  obtain ⟨os, tk⟩ := f
  have h2 : bs.length * 48 ≤ 140737488355328 := by omega
  have h1 : headFit 5 (bs.map Box.c) = true := by cases bs <;> rfl
  simp [appoAt, rowsAt_bx hv, newObj, h1, h2, hne, show headFit 5 [] = true from rfl, bflat]
theorem bflat_drop {bs : List Box} {k : Nat} {b : Box} (hb : bs[k]? = some b) : (bflat bs).drop (Nat.add (Nat.add 0 (Nat.mul k 5)) 4) = .bool b.stamp :: (bflat bs).drop (k * 5 + 5) := by
  have hk : k < bs.length := (List.getElem?_eq_some_iff.1 hb).1
  have key : ∀ (bs : List Box) (k : Nat) (b : Box), bs[k]? = some b → (bflat bs)[k * 5 + 4]? = some (.bool b.stamp) := by
    intro bs
    induction bs with
    | nil => intro k b h; simp at h
    | cons c bs ih =>
      intro k b h
      have e : bflat (c :: bs) = Box.c c ++ bflat bs := rfl
      cases k with
      | zero =>
        have h : c = b := by simpa using h
        subst h; rfl
      | succ k =>
        have := ih k b (by simpa using h)
        rw [e, List.getElem?_append_right (by show 5 ≤ _; omega), show (k + 1) * 5 + 4 - (Box.c c).length = k * 5 + 4 by show (k + 1) * 5 + 4 - 5 = _; omega]
        exact this
  have h4 := key bs k b hb
  have hlt : k * 5 + 4 < (bflat bs).length := by rw [bflat_len]; omega
  rw [List.getElem?_eq_getElem hlt] at h4
  have e : Nat.add (Nat.add 0 (Nat.mul k 5)) 4 = k * 5 + 4 := by show 0 + k * 5 + 4 = _; omega
  rw [e, List.drop_eq_getElem_cons hlt, Option.some.inj h4]
theorem bflat_put {bs : List Box} {k : Nat} {b : Box} (hb : bs[k]? = some b) (c : Bool) : putAt (bflat bs) (Nat.add (Nat.add 0 (Nat.mul k 5)) 4) [.bool c] = bflat (bs.set k { b with stamp := c }) := by
  have e : Nat.add (Nat.add 0 (Nat.mul k 5)) 4 = k * 5 + 4 := by show 0 + k * 5 + 4 = _; omega
  unfold bflat
  rw [e, put_flat (by omega) _ _ k b.c box_len (by simp [hb]), List.map_set]
  rfl
theorem bflat_room {bs : List Box} {k : Nat} (hk : k < bs.length) : Nat.ble (Nat.add (Nat.add (Nat.add 0 (Nat.mul k 5)) 4) 1) (lenK (bflat bs)) = true := by
  rw [lenK_eq, bflat_len]
  exact Nat.ble_eq_true_of_le (by show 0 + k * 5 + 4 + 1 ≤ _; omega)
theorem uns_set {bs : List Box} {l : List Nat} {k : Nat} {b : Box} (hb : (unsB bs (inL l))[k]? = some b) : (unsB bs (inL l)).set k { b with stamp := false } = unsB bs (inL (l ++ [k])) := by
  refine List.ext_getElem? fun i => ?_
  rw [List.getElem?_set, unsB_get, unsB_get]
  rw [unsB_get] at hb
  by_cases hk : k = i
  · subst hk
    rw [if_pos rfl]
    obtain ⟨b0, h1, rfl⟩ := Option.map_eq_some_iff.1 hb
    have hlt : k < (unsB bs (inL l)).length := by rw [unsB_len]; exact (List.getElem?_eq_some_iff.1 h1).1
    rw [if_pos hlt, h1]
    simp [Box.uns, inL]
  · rw [if_neg hk]
    have : inL (l ++ [k]) i = inL l i := by
      unfold inL
      rw [decide_eq_decide, List.mem_append, List.mem_singleton]
      exact ⟨fun h => h.elim id fun h => absurd h.symm hk, .inl⟩
    rw [this]

def dcB (d : Desk) (v : AV) : List AV := [.int .i64 d.lo, .int .i64 d.hi, .int .i64 d.wear, .int .i64 d.strange, .sl (d.ps.map Parcel.c) d.tp, v]
def chooseFrom (d : Desk) (m j : Nat) (l : List Nat) : Option (List Nat) := (List.range' j (d.bs.length - j)).findSome? fun k => if stampB d k = true then chooseV d m (k + 1) (l ++ [k]) else none
theorem cf_end {d : Desk} {m j : Nat} {l : List Nat} (h : d.bs.length ≤ j) : chooseFrom d m j l = none := by
  unfold chooseFrom
  rw [Nat.sub_eq_zero_of_le h]; rfl
theorem cf_skip {d : Desk} {m j : Nat} {l : List Nat} (h : j < d.bs.length) (hs : stampB d j = false) : chooseFrom d m j l = chooseFrom d m (j + 1) l := by
  unfold chooseFrom
  rw [show d.bs.length - j = (d.bs.length - (j + 1)) + 1 by omega, List.range'_succ, List.findSome?_cons]
  simp [hs]
theorem cf_none {d : Desk} {m j : Nat} {l : List Nat} (h : j < d.bs.length) (hs : stampB d j = true) (hn : chooseV d m (j + 1) (l ++ [j]) = none) : chooseFrom d m j l = chooseFrom d m (j + 1) l := by
  unfold chooseFrom
  rw [show d.bs.length - j = (d.bs.length - (j + 1)) + 1 by omega, List.range'_succ, List.findSome?_cons]
  simp [hs, hn]
theorem cf_some {d : Desk} {m j : Nat} {l x : List Nat} (h : j < d.bs.length) (hs : stampB d j = true) (hn : chooseV d m (j + 1) (l ++ [j]) = some x) : chooseFrom d m j l = some x := by
  unfold chooseFrom
  rw [show d.bs.length - j = (d.bs.length - (j + 1)) + 1 by omega, List.range'_succ, List.findSome?_cons]
  simp [hs, hn]

set_option maxHeartbeats 4000000 in
theorem a78_L1_step {B : Bnd} (hB : B = Bk) {cl : CallK} {rd : RoundK} (d : Desk) (hd : d.ok) (hc : d.check = true) (m : Nat) (l : List Nat) (hlm : l.length + m ≤ 100) {tk : Tok} (htk : purTok tk = true) {zm : Int} (s : St) {D : Nat} (hD : D = s.length) (h0 : 0 < s.length)
    (hS : getObj s 0 1 = some (.cells [.fn 78 [] [.ptr 0 1 0]])) {v : AV} (hv : IsBx s v (unsB d.bs (inL l)))
    (HC : ∀ (k : Nat) (f f' : Fr) (v : AV) (kont : AV → St → Ans) (r : Ans), k < d.bs.length → (∀ x ∈ l, x < k) → IsBx (f :: f' :: s) v (unsB d.bs (inL (l ++ [k]))) →
      (∀ x, chooseV d m (k + 1) (l ++ [k]) = some x → kont (.tup [.sl (rowsI (nats x)) (wtk x), .bool true]) (f :: f' :: s) = r) →
      (chooseV d m (k + 1) (l ++ [k]) = none → ∀ x t, purTok t = true → kont (.tup [.sl (rowsI x) t, .bool false]) (f :: f' :: s) = r) →
      cl (D + 1 + 1) 78 [.agg (dcB d v), .int .i64 ((k : Int) + 1), .int .i64 zm, .sl (rowsI (nats l ++ [(k : Int)])) .any, .ptr 0 1 0] (f :: f' :: s) kont = r)
    (n : Nat) (k : Ex → Env → St → Ans) (r : Ans) :
    ∀ (j i0 : Nat) (T : List (Nat × Nat × Nat)), d.bs.length < i0 + j → i0 ≤ d.bs.length → (∀ x ∈ l, x < i0) →
    (chooseFrom d m i0 l = none → ∀ x T', k (.exit 0) [(2, .int .i64 zm), (3, .sl (rowsI (nats l)) tk), (4, .ptr 0 1 0), (5, .ptr D 0 0), (9, .sl [] .nil), (10, .bool false), (11, .int .i64 x)] (⟨[.cells (dcB d v)], T'⟩ :: s) = r) →
    (∀ x, chooseFrom d m i0 l = some x → ∀ e T', k .ret ((2, .int .i64 zm) :: (3, .sl (rowsI (nats l)) tk) :: (4, .ptr 0 1 0) :: (5, .ptr D 0 0) :: (9, .sl (rowsI (nats x)) (wtk x)) :: (10, .bool true) :: e) (⟨[.cells (dcB d v)], T'⟩ :: s) = r) →
    B.loop (evCK B a78_L1) [2, 3, 4, 5, 9, 10, 11] n j cl rd Gx D (D + 1) [(2, .int .i64 zm), (3, .sl (rowsI (nats l)) tk), (4, .ptr 0 1 0), (5, .ptr D 0 0), (9, .sl [] .nil), (10, .bool false), (11, .int .i64 (.ofNat i0))] (⟨[.cells (dcB d v)], T⟩ :: s) k = r := by
  intro j
  induction j with
  | zero => intro i0 T h1 h2; omega
  | succ j ih =>
    intro i0 T h1 h2 hlt k1 k2
    have hnb := (check_fine hc).nb
    have hl2 : ∀ (g g' : Fr), D + 1 + 1 = (g :: g' :: s : St).length := fun _ _ => by simp [hD]
    have hl0 : ∀ (g : Fr), D < (g :: s : St).length := fun _ => by simp [hD]
    have hl1 : ∀ (g : Fr), D + 1 = (g :: s : St).length := fun _ => by simp [hD]
    refine loop_succ hB ?_
    have hne : unsB d.bs (inL l) ≠ [] ∨ d.bs.length ≤ i0 := by
      by_cases h : i0 < d.bs.length
      · exact .inl fun e => by have := congrArg List.length e; rw [unsB_len] at this; have this : d.bs.length = 0 := this; omega
      · exact .inr (by omega)
    have hbox : ∀ h : i0 < d.bs.length, ∃ b, (unsB d.bs (inL l))[i0]? = some b ∧ stampB d i0 = b.stamp := fun h => by
      refine ⟨d.bs[i0], ?_, ?_⟩
      · rw [unsB_get, List.getElem?_eq_getElem h]
        have : inL l i0 = false := by
          unfold inL
          rw [decide_eq_false_iff_not]
          intro hm
          have := hlt i0 hm
          omega
        rw [this]
        simp [uns_same]
      · unfold stampB
        rw [List.getElem?_eq_getElem h]
    have hub : (unsB d.bs (inL l)).length ≤ 1000 := by rw [unsB_len]; omega
    have hv0 := hv
    rcases hv with ⟨tv, htv, rfl⟩ | ⟨lv, iv, rfl, hlv, hgv⟩
    · conv => lhs; whnf
      repeat' ((first | refine fnat_pred hB ?_ | refine tok_step hB htk ?_ | refine tok_step hB hd.tp ?_ | refine tok_step hB htv ?_ | refine len_map hB ?_ | refine obj_step hB (hl2 _ _) ((getObj_sub (hl0 _)).trans ((getObj_top hD).trans rfl)) ?_ | refine obj_step hB (hl2 _ _) ((getObj_top (hl1 _)).trans rfl) ?_ | refine sob_step hB (hl2 _ _) (setTop0 (hl1 _)) ?_ | refine natOf_step hB (m := i0) rfl ?_ | refine fbool_same hB (by omega) ?_ | refine fbool_other hB (by omega) ?_ | refine ifk_step hB (Nat.ble_eq_true_of_le (by omega)) ?_ | refine purs_step hB rfl ?_ | refine lt_tt hB (by decide) ?_ | refine lt_ff hB (by decide) ?_ | refine le_tt hB (by decide) ?_ | refine le_ff hB (by decide) ?_ | refine eq_tt hB (by decide) ?_ | refine eq_ff hB (by decide) ?_ | refine fint_wrp hB (by omega) (by omega) ?_ | refine fint_step hB ?_ | refine fbool_tt hB ?_ | refine fbool_ff hB ?_ | refine fbool_split hB (fun _ => ?_) (fun _ => ?_) | refine ftok_step hB ?_ | refine frows_step hB ?_ | refine fstr_step hB ?_ | refine len_map hB ?_ | refine len_step hB ?_ | refine lens_step hB ?_ | refine byte_step hB ?_ | refine drop_step hB rfl ?_ | refine fl_step hB rfl ?_ | refine add_one hB (by first | omega | decide) ?_ | refine opt_step hB rfl ?_ | refine fnat_step hB ?_ | refine ifk_step hB rfl ?_ | refine ifk_step hB (flat_or rfl) ?_ | refine opt2_step hB rfl ?_ | refine obj_raw hB ?_ | refine sob_raw hB ?_ | refine fst_raw hB ?_ | refine optl_raw hB ?_ | refine tok_step hB rfl ?_) <;> conv => lhs; whnf)
      refine lt_nat hB (fun h => ?_) (fun h => ?_) <;> rw [unsB_len] at h <;> conv => lhs; whnf
      · obtain ⟨b, hb, hsb⟩ := hbox h
        have hxb : ((unsB d.bs (inL l)).map Box.c)[i0]? = some b.c := by simp [hb]
        have hne := hne.resolve_right (by omega)
        have hroom : i0 + 1 ≤ (unsB d.bs (inL l)).length := by rw [unsB_len]; exact h
        rcases b with ⟨b1, b2, b3, b4, b5⟩
        cases b5
        · repeat' ((first | refine fnat_pred hB ?_ | refine tok_step hB htk ?_ | refine tok_step hB hd.tp ?_ | refine tok_step hB htv ?_ | refine nth_step hB hxb ?_ | refine len_map hB ?_ | refine ifk_step hB (Nat.ble_eq_true_of_le hroom) ?_ | refine obj_step hB (hl2 _ _) ((getObj_sub (hl0 _)).trans ((getObj_top hD).trans rfl)) ?_ | refine obj_step hB (hl2 _ _) ((getObj_top (hl1 _)).trans rfl) ?_ | refine sob_step hB (hl2 _ _) (setTop0 (hl1 _)) ?_ | refine natOf_step hB (m := i0) rfl ?_ | refine fbool_same hB (by omega) ?_ | refine fbool_other hB (by omega) ?_ | refine ifk_step hB (Nat.ble_eq_true_of_le (by omega)) ?_ | refine purs_step hB rfl ?_ | refine lt_tt hB (by decide) ?_ | refine lt_ff hB (by decide) ?_ | refine le_tt hB (by decide) ?_ | refine le_ff hB (by decide) ?_ | refine eq_tt hB (by decide) ?_ | refine eq_ff hB (by decide) ?_ | refine fint_wrp hB (by omega) (by omega) ?_ | refine fint_step hB ?_ | refine fbool_tt hB ?_ | refine fbool_ff hB ?_ | refine fbool_split hB (fun _ => ?_) (fun _ => ?_) | refine ftok_step hB ?_ | refine frows_step hB ?_ | refine fstr_step hB ?_ | refine len_map hB ?_ | refine len_step hB ?_ | refine lens_step hB ?_ | refine byte_step hB ?_ | refine drop_step hB rfl ?_ | refine fl_step hB rfl ?_ | refine add_one hB (by first | omega | decide) ?_ | refine opt_step hB rfl ?_ | refine fnat_step hB ?_ | refine ifk_step hB rfl ?_ | refine ifk_step hB (flat_or rfl) ?_ | refine opt2_step hB rfl ?_ | refine obj_raw hB ?_ | refine sob_raw hB ?_ | refine fst_raw hB ?_ | refine optl_raw hB ?_ | refine tok_step hB rfl ?_) <;> conv => lhs; whnf)
          rw [cf_skip h hsb] at k1
          simp only [cf_skip h hsb] at k2
          rw [clampTok_pur htk]
          exact ih (i0 + 1) T (by omega) (by omega) (fun x hx => by have := hlt x hx; omega) k1 k2
        · have hz1 : ∀ {g : Fr}, 0 < (g :: s : St).length := fun {_} => by simp
          have hnl : (nats l).length ≤ 1000 := by unfold nats; rw [List.length_map]; omega
          have hlen : AV.os (D + 1) 1 0 (unsB d.bs (inL l)).length 5 = AV.os (D + 1) 1 0 (unsB d.bs (inL (l ++ [i0]))).length 5 := by rw [unsB_len, unsB_len]
          have hlt2 : ∀ (g g' : Fr), D + 1 < (g :: g' :: s : St).length := fun _ _ => by simp [hD]
          repeat' ((first | refine fnat_pred hB ?_ | refine tok_step hB htk ?_ | refine tok_step hB hd.tp ?_ | refine tok_step hB htv ?_ | refine nth_step hB hxb ?_ | refine len_map hB ?_ | refine ifk_step hB (Nat.ble_eq_true_of_le hroom) ?_ | refine obj_step hB (hl2 _ _) ((getObj_sub (hl0 _)).trans ((getObj_top hD).trans rfl)) ?_ | refine obj_step hB (hl2 _ _) ((getObj_top (hl1 _)).trans rfl) ?_ | refine sob_step hB (hl2 _ _) (setTop0 (hl1 _)) ?_ | refine natOf_step hB (m := i0) rfl ?_ | refine fbool_same hB (by omega) ?_ | refine fbool_other hB (by omega) ?_ | refine ifk_step hB (Nat.ble_eq_true_of_le (by omega)) ?_ | refine appo_step hB (appo_bx (hl1 _) ((hv0.up _).up _) hne hub) ?_ | refine ifk_step hB (bflat_room hroom) ?_ | refine fl_step hB ((bflat_put hb false).trans (congrArg bflat (uns_set hb))) ?_ | refine sob_step hB (hl2 _ _) (setTop1 (hl1 _)) ?_ | refine obj_step hB (hl2 _ _) ((getObj_sub hz1).trans ((getObj_sub h0).trans hS)) ?_ | refine add_step hB (by simp only [Int.ofNat_eq_natCast]; omega) (by simp only [Int.ofNat_eq_natCast]; omega) ?_ | refine opt_step hB (slice_pur (nats l)) ?_ | refine opt2_step hB (app_up hD (ftok_or tk) (i0 : Int) hnl) ?_ | refine fst_step hB rfl ?_ | refine tok_step hB (wtk_pur _) ?_ | refine tokE_step hB ?_ | refine HC i0 _ _ _ _ _ h hlt (.inr ⟨D + 1, 1, hlen, hlt2 _ _, (getObj_top (hl1 _)).trans rfl⟩) (fun x e => ?_) (fun e x t ht => ?_) | refine purs_step hB rfl ?_ | refine lt_tt hB (by decide) ?_ | refine lt_ff hB (by decide) ?_ | refine le_tt hB (by decide) ?_ | refine le_ff hB (by decide) ?_ | refine eq_tt hB (by decide) ?_ | refine eq_ff hB (by decide) ?_ | refine fint_wrp hB (by omega) (by omega) ?_ | refine fint_step hB ?_ | refine fbool_tt hB ?_ | refine fbool_ff hB ?_ | refine fbool_split hB (fun _ => ?_) (fun _ => ?_) | refine ftok_step hB ?_ | refine frows_step hB ?_ | refine fstr_step hB ?_ | refine len_map hB ?_ | refine len_step hB ?_ | refine lens_step hB ?_ | refine byte_step hB ?_ | refine drop_step hB rfl ?_ | refine fl_step hB rfl ?_ | refine add_one hB (by first | omega | decide) ?_ | refine opt_step hB rfl ?_ | refine fnat_step hB ?_ | refine ifk_step hB rfl ?_ | refine ifk_step hB (flat_or rfl) ?_ | refine opt2_step hB rfl ?_ | refine obj_raw hB ?_ | refine sob_raw hB ?_ | refine fst_raw hB ?_ | refine optl_raw hB ?_ | refine tok_step hB rfl ?_) <;> conv => lhs; whnf)
          · rw [clampTok_pur htk, clampTok_pur (wtk_pur x)]
            exact k2 x (cf_some h hsb e) _ _
          · rw [cf_none h hsb e] at k1
            simp only [cf_none h hsb e] at k2
            rw [clampTok_pur htk]
            exact ih (i0 + 1) _ (by omega) (by omega) (fun x hx => by have := hlt x hx; omega) k1 k2
      · repeat' ((first | refine fnat_pred hB ?_ | refine tok_step hB htk ?_ | refine tok_step hB hd.tp ?_ | refine tok_step hB htv ?_ | refine len_map hB ?_ | refine obj_step hB (hl2 _ _) ((getObj_sub (hl0 _)).trans ((getObj_top hD).trans rfl)) ?_ | refine obj_step hB (hl2 _ _) ((getObj_top (hl1 _)).trans rfl) ?_ | refine sob_step hB (hl2 _ _) (setTop0 (hl1 _)) ?_ | refine natOf_step hB (m := i0) rfl ?_ | refine fbool_same hB (by omega) ?_ | refine fbool_other hB (by omega) ?_ | refine ifk_step hB (Nat.ble_eq_true_of_le (by omega)) ?_ | refine purs_step hB rfl ?_ | refine lt_tt hB (by decide) ?_ | refine lt_ff hB (by decide) ?_ | refine le_tt hB (by decide) ?_ | refine le_ff hB (by decide) ?_ | refine eq_tt hB (by decide) ?_ | refine eq_ff hB (by decide) ?_ | refine fint_wrp hB (by omega) (by omega) ?_ | refine fint_step hB ?_ | refine fbool_tt hB ?_ | refine fbool_ff hB ?_ | refine fbool_split hB (fun _ => ?_) (fun _ => ?_) | refine ftok_step hB ?_ | refine frows_step hB ?_ | refine fstr_step hB ?_ | refine len_map hB ?_ | refine len_step hB ?_ | refine lens_step hB ?_ | refine byte_step hB ?_ | refine drop_step hB rfl ?_ | refine fl_step hB rfl ?_ | refine add_one hB (by first | omega | decide) ?_ | refine opt_step hB rfl ?_ | refine fnat_step hB ?_ | refine ifk_step hB rfl ?_ | refine ifk_step hB (flat_or rfl) ?_ | refine opt2_step hB rfl ?_ | refine obj_raw hB ?_ | refine sob_raw hB ?_ | refine fst_raw hB ?_ | refine optl_raw hB ?_ | refine tok_step hB rfl ?_) <;> conv => lhs; whnf)
        rw [clampTok_pur htk]
        exact k1 (cf_end (by omega)) _ _
    · have hlv1 : ∀ (g : Fr), lv < (g :: s : St).length := fun _ => by simp; omega
      conv => lhs; whnf
      repeat' ((first | refine fnat_pred hB ?_ | refine tok_step hB htk ?_ | refine tok_step hB hd.tp ?_ | refine fnat_step hB ?_ | refine obj_step hB (hl2 _ _) ((getObj_sub (hl0 _)).trans ((getObj_top hD).trans rfl)) ?_ | refine obj_step hB (hl2 _ _) ((getObj_top (hl1 _)).trans rfl) ?_ | refine sob_step hB (hl2 _ _) (setTop0 (hl1 _)) ?_ | refine natOf_step hB (m := i0) rfl ?_ | refine fbool_same hB (by omega) ?_ | refine fbool_other hB (by omega) ?_ | refine ifk_step hB (Nat.ble_eq_true_of_le (by omega)) ?_ | refine purs_step hB rfl ?_ | refine lt_tt hB (by decide) ?_ | refine lt_ff hB (by decide) ?_ | refine le_tt hB (by decide) ?_ | refine le_ff hB (by decide) ?_ | refine eq_tt hB (by decide) ?_ | refine eq_ff hB (by decide) ?_ | refine fint_wrp hB (by omega) (by omega) ?_ | refine fint_step hB ?_ | refine fbool_tt hB ?_ | refine fbool_ff hB ?_ | refine fbool_split hB (fun _ => ?_) (fun _ => ?_) | refine ftok_step hB ?_ | refine frows_step hB ?_ | refine fstr_step hB ?_ | refine len_map hB ?_ | refine len_step hB ?_ | refine lens_step hB ?_ | refine byte_step hB ?_ | refine drop_step hB rfl ?_ | refine fl_step hB rfl ?_ | refine add_one hB (by first | omega | decide) ?_ | refine opt_step hB rfl ?_ | refine fnat_step hB ?_ | refine ifk_step hB rfl ?_ | refine ifk_step hB (flat_or rfl) ?_ | refine opt2_step hB rfl ?_ | refine obj_raw hB ?_ | refine sob_raw hB ?_ | refine fst_raw hB ?_ | refine optl_raw hB ?_ | refine tok_step hB rfl ?_) <;> conv => lhs; whnf)
      refine lt_nat hB (fun h => ?_) (fun h => ?_) <;> rw [unsB_len] at h <;> conv => lhs; whnf
      · obtain ⟨b, hb, hsb⟩ := hbox h
        have hxb : ((unsB d.bs (inL l)).map Box.c)[i0]? = some b.c := by simp [hb]
        have hne := hne.resolve_right (by omega)
        have hroom : i0 + 1 ≤ (unsB d.bs (inL l)).length := by rw [unsB_len]; exact h
        rcases b with ⟨b1, b2, b3, b4, b5⟩
        cases b5
        · repeat' ((first | refine fnat_pred hB ?_ | refine tok_step hB htk ?_ | refine tok_step hB hd.tp ?_ | refine obj_step hB (hl2 _ _) ((getObj_sub (hlv1 _)).trans ((getObj_sub hlv).trans hgv)) ?_ | refine drop_step hB (bflat_drop hb) ?_ | refine ifk_step hB (Nat.ble_eq_true_of_le hroom) ?_ | refine obj_step hB (hl2 _ _) ((getObj_sub (hl0 _)).trans ((getObj_top hD).trans rfl)) ?_ | refine obj_step hB (hl2 _ _) ((getObj_top (hl1 _)).trans rfl) ?_ | refine sob_step hB (hl2 _ _) (setTop0 (hl1 _)) ?_ | refine natOf_step hB (m := i0) rfl ?_ | refine fbool_same hB (by omega) ?_ | refine fbool_other hB (by omega) ?_ | refine ifk_step hB (Nat.ble_eq_true_of_le (by omega)) ?_ | refine purs_step hB rfl ?_ | refine lt_tt hB (by decide) ?_ | refine lt_ff hB (by decide) ?_ | refine le_tt hB (by decide) ?_ | refine le_ff hB (by decide) ?_ | refine eq_tt hB (by decide) ?_ | refine eq_ff hB (by decide) ?_ | refine fint_wrp hB (by omega) (by omega) ?_ | refine fint_step hB ?_ | refine fbool_tt hB ?_ | refine fbool_ff hB ?_ | refine fbool_split hB (fun _ => ?_) (fun _ => ?_) | refine ftok_step hB ?_ | refine frows_step hB ?_ | refine fstr_step hB ?_ | refine len_map hB ?_ | refine len_step hB ?_ | refine lens_step hB ?_ | refine byte_step hB ?_ | refine drop_step hB rfl ?_ | refine fl_step hB rfl ?_ | refine add_one hB (by first | omega | decide) ?_ | refine opt_step hB rfl ?_ | refine fnat_step hB ?_ | refine ifk_step hB rfl ?_ | refine ifk_step hB (flat_or rfl) ?_ | refine opt2_step hB rfl ?_ | refine obj_raw hB ?_ | refine sob_raw hB ?_ | refine fst_raw hB ?_ | refine optl_raw hB ?_ | refine tok_step hB rfl ?_) <;> conv => lhs; whnf)
          rw [cf_skip h hsb] at k1
          simp only [cf_skip h hsb] at k2
          rw [clampTok_pur htk]
          exact ih (i0 + 1) T (by omega) (by omega) (fun x hx => by have := hlt x hx; omega) k1 k2
        · have hz1 : ∀ {g : Fr}, 0 < (g :: s : St).length := fun {_} => by simp
          have hnl : (nats l).length ≤ 1000 := by unfold nats; rw [List.length_map]; omega
          have hlen : AV.os (D + 1) 1 0 (unsB d.bs (inL l)).length 5 = AV.os (D + 1) 1 0 (unsB d.bs (inL (l ++ [i0]))).length 5 := by rw [unsB_len, unsB_len]
          have hlt2 : ∀ (g g' : Fr), D + 1 < (g :: g' :: s : St).length := fun _ _ => by simp [hD]
          repeat' ((first | refine fnat_pred hB ?_ | refine tok_step hB htk ?_ | refine tok_step hB hd.tp ?_ | refine obj_step hB (hl2 _ _) ((getObj_sub (hlv1 _)).trans ((getObj_sub hlv).trans hgv)) ?_ | refine drop_step hB (bflat_drop hb) ?_ | refine ifk_step hB (Nat.ble_eq_true_of_le hroom) ?_ | refine obj_step hB (hl2 _ _) ((getObj_sub (hl0 _)).trans ((getObj_top hD).trans rfl)) ?_ | refine obj_step hB (hl2 _ _) ((getObj_top (hl1 _)).trans rfl) ?_ | refine sob_step hB (hl2 _ _) (setTop0 (hl1 _)) ?_ | refine natOf_step hB (m := i0) rfl ?_ | refine fbool_same hB (by omega) ?_ | refine fbool_other hB (by omega) ?_ | refine ifk_step hB (Nat.ble_eq_true_of_le (by omega)) ?_ | refine appo_step hB (appo_bx (hl1 _) ((hv0.up _).up _) hne hub) ?_ | refine ifk_step hB (bflat_room hroom) ?_ | refine fl_step hB ((bflat_put hb false).trans (congrArg bflat (uns_set hb))) ?_ | refine sob_step hB (hl2 _ _) (setTop1 (hl1 _)) ?_ | refine obj_step hB (hl2 _ _) ((getObj_sub hz1).trans ((getObj_sub h0).trans hS)) ?_ | refine add_step hB (by simp only [Int.ofNat_eq_natCast]; omega) (by simp only [Int.ofNat_eq_natCast]; omega) ?_ | refine opt_step hB (slice_pur (nats l)) ?_ | refine opt2_step hB (app_up hD (ftok_or tk) (i0 : Int) hnl) ?_ | refine fst_step hB rfl ?_ | refine tok_step hB (wtk_pur _) ?_ | refine tokE_step hB ?_ | refine HC i0 _ _ _ _ _ h hlt (.inr ⟨D + 1, 1, hlen, hlt2 _ _, (getObj_top (hl1 _)).trans rfl⟩) (fun x e => ?_) (fun e x t ht => ?_) | refine purs_step hB rfl ?_ | refine lt_tt hB (by decide) ?_ | refine lt_ff hB (by decide) ?_ | refine le_tt hB (by decide) ?_ | refine le_ff hB (by decide) ?_ | refine eq_tt hB (by decide) ?_ | refine eq_ff hB (by decide) ?_ | refine fint_wrp hB (by omega) (by omega) ?_ | refine fint_step hB ?_ | refine fbool_tt hB ?_ | refine fbool_ff hB ?_ | refine fbool_split hB (fun _ => ?_) (fun _ => ?_) | refine ftok_step hB ?_ | refine frows_step hB ?_ | refine fstr_step hB ?_ | refine len_map hB ?_ | refine len_step hB ?_ | refine lens_step hB ?_ | refine byte_step hB ?_ | refine drop_step hB rfl ?_ | refine fl_step hB rfl ?_ | refine add_one hB (by first | omega | decide) ?_ | refine opt_step hB rfl ?_ | refine fnat_step hB ?_ | refine ifk_step hB rfl ?_ | refine ifk_step hB (flat_or rfl) ?_ | refine opt2_step hB rfl ?_ | refine obj_raw hB ?_ | refine sob_raw hB ?_ | refine fst_raw hB ?_ | refine optl_raw hB ?_ | refine tok_step hB rfl ?_) <;> conv => lhs; whnf)
          · rw [clampTok_pur htk, clampTok_pur (wtk_pur x)]
            exact k2 x (cf_some h hsb e) _ _
          · rw [cf_none h hsb e] at k1
            simp only [cf_none h hsb e] at k2
            rw [clampTok_pur htk]
            exact ih (i0 + 1) _ (by omega) (by omega) (fun x hx => by have := hlt x hx; omega) k1 k2
      · repeat' ((first | refine fnat_pred hB ?_ | refine tok_step hB htk ?_ | refine tok_step hB hd.tp ?_ | refine fnat_step hB ?_ | refine obj_step hB (hl2 _ _) ((getObj_sub (hl0 _)).trans ((getObj_top hD).trans rfl)) ?_ | refine obj_step hB (hl2 _ _) ((getObj_top (hl1 _)).trans rfl) ?_ | refine sob_step hB (hl2 _ _) (setTop0 (hl1 _)) ?_ | refine natOf_step hB (m := i0) rfl ?_ | refine fbool_same hB (by omega) ?_ | refine fbool_other hB (by omega) ?_ | refine ifk_step hB (Nat.ble_eq_true_of_le (by omega)) ?_ | refine purs_step hB rfl ?_ | refine lt_tt hB (by decide) ?_ | refine lt_ff hB (by decide) ?_ | refine le_tt hB (by decide) ?_ | refine le_ff hB (by decide) ?_ | refine eq_tt hB (by decide) ?_ | refine eq_ff hB (by decide) ?_ | refine fint_wrp hB (by omega) (by omega) ?_ | refine fint_step hB ?_ | refine fbool_tt hB ?_ | refine fbool_ff hB ?_ | refine fbool_split hB (fun _ => ?_) (fun _ => ?_) | refine ftok_step hB ?_ | refine frows_step hB ?_ | refine fstr_step hB ?_ | refine len_map hB ?_ | refine len_step hB ?_ | refine lens_step hB ?_ | refine byte_step hB ?_ | refine drop_step hB rfl ?_ | refine fl_step hB rfl ?_ | refine add_one hB (by first | omega | decide) ?_ | refine opt_step hB rfl ?_ | refine fnat_step hB ?_ | refine ifk_step hB rfl ?_ | refine ifk_step hB (flat_or rfl) ?_ | refine opt2_step hB rfl ?_ | refine obj_raw hB ?_ | refine sob_raw hB ?_ | refine fst_raw hB ?_ | refine optl_raw hB ?_ | refine tok_step hB rfl ?_) <;> conv => lhs; whnf)
        rw [clampTok_pur htk]
        exact k1 (cf_end (by omega)) _ _
end Go.Ab.Cl
