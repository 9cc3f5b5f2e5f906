/-
  The claims: Take and Lot; what is read of a seal that is made.
-/
import Derived.Test.YthbekoofiienjaaDoorClFa
import Derived.Test.YthbekoofiienjaaDoorClTa
import Derived.Test.YthbekoofiienjaaDoorClG
namespace Go.Ab.Cl
open Go.Ab

theorem Take_ev {n : Nat} (hn : 3 ≤ n) (l : List Int) (hl : l.length ≤ 200000000000000) {t : Tok} (ht : purTok t = true) (z : Int) : (evKR Bk Gx fsT n).1 0 80 [.sl (rowsI l) t, .int .i64 z] [] ansK = some (.int .i64 (takeZ l z), []) := by
  refine call_open (show fsT.find 80 = some a80 from rfl) (by omega) fun n' B cl rd hn' hB hcl hrd => ?_
  have H42 := Spin_ev (G := Gx) (n := n') (by omega) z (.ofNat l.length) (by simp only [Int.ofNat_eq_natCast]; omega)
  rw [← hcl] at H42
  cases l with
  | nil =>
    conv => lhs; whnf
    repeat' ((first | refine Qw hB ?_ | refine Qv hB ht ?_ | refine Q0 hB rfl ?_ | refine Q1 hB (by decide) ?_ | refine Q2 hB (by decide) ?_ | refine Q3 hB (by decide) ?_ | refine Q4 hB (by decide) ?_ | refine Q5 hB (by decide) ?_ | refine Q6 hB (by decide) ?_ | refine Q7 hB (by omega) (by omega) ?_ | refine Q8 hB ?_ | refine Q9 hB ?_ | refine Qa hB ?_ | refine Qb hB (fun _ => ?_) (fun _ => ?_) | refine Qc hB ?_ | refine Qd hB ?_ | refine Qe hB ?_ | refine Qf hB ?_ | refine Qg hB ?_ | refine Qh hB ?_ | refine Qi hB ?_ | refine Qj hB rfl ?_ | refine Qk hB rfl ?_ | refine Ql hB (by first | omega | decide) ?_ | refine Qm hB rfl ?_ | refine Qn hB ?_ | refine Qo hB rfl ?_ | refine Qo hB (Qp rfl) ?_ | refine Qq hB rfl ?_ | refine Qr hB ?_ | refine Qs hB ?_ | refine Qt hB ?_ | refine Qu hB ?_ | refine Qv hB rfl ?_) <;> conv => lhs; whnf)
    all_goals rfl
  | cons a l =>
    have hs := spin_in (n := z) (many := ((a :: l).length : Int)) (by simp only [List.length_cons]; omega)
    obtain ⟨m, hm⟩ : ∃ m : Nat, spin z ((a :: l).length : Int) = (m : Int) := ⟨(spin z ((a :: l).length : Int)).toNat, by omega⟩
    have hm2 : m < (a :: l).length := by omega
    have hx := row_get hm2
    have e : takeZ (a :: l) z = (a :: l)[m] := by
      unfold takeZ
      rw [hm, Int.toNat_natCast, List.getElem?_eq_getElem hm2]
      rfl
    rw [e]
    have H42 : cl 0 42 [.int .i64 z, .int .i64 (.ofNat (a :: l).length)] [] ansK = some (.int .i64 (m : Int), []) := by rw [← hm]; exact H42
    conv => lhs; whnf
    repeat' ((first | refine Qw hB ?_ | refine Qv hB ht ?_ | refine Qf hB ?_ | refine Q6 hB (by simp only [List.length_cons, Int.ofNat_eq_natCast]; omega) ?_ | refine Qx hB H42 ?_ | refine QC hB (m := m) rfl ?_ | refine QB hB hx ?_ | refine Q0 hB rfl ?_ | refine Q1 hB (by decide) ?_ | refine Q2 hB (by decide) ?_ | refine Q3 hB (by decide) ?_ | refine Q4 hB (by decide) ?_ | refine Q5 hB (by decide) ?_ | refine Q6 hB (by decide) ?_ | refine Q7 hB (by omega) (by omega) ?_ | refine Q8 hB ?_ | refine Q9 hB ?_ | refine Qa hB ?_ | refine Qb hB (fun _ => ?_) (fun _ => ?_) | refine Qc hB ?_ | refine Qd hB ?_ | refine Qe hB ?_ | refine Qf hB ?_ | refine Qg hB ?_ | refine Qh hB ?_ | refine Qi hB ?_ | refine Qj hB rfl ?_ | refine Qk hB rfl ?_ | refine Ql hB (by first | omega | decide) ?_ | refine Qm hB rfl ?_ | refine Qn hB ?_ | refine Qo hB rfl ?_ | refine Qo hB (Qp rfl) ?_ | refine Qq hB rfl ?_ | refine Qr hB ?_ | refine Qs hB ?_ | refine Qt hB ?_ | refine Qu hB ?_ | refine Qv hB rfl ?_) <;> conv => lhs; whnf)
    all_goals rfl
theorem Lot_ev {n : Nat} (hn : 3 ≤ n) (a b z : Int) (h0 : 0 ≤ a) (hb : b ≤ 1000000) : (evKR Bk Gx fsT n).1 0 81 [.agg [.int .i64 a, .int .i64 b], .int .i64 z] [] ansK = some (.int .i64 (lotZ a b z), []) := by
  refine call_open (show fsT.find 81 = some a81 from rfl) (by omega) fun n' B cl rd hn' hB hcl hrd => ?_
  have H42 := Spin_ev (G := Gx) (n := n') (by omega) z (b - a + 1) (by omega)
  rw [← hcl] at H42
  unfold lotZ
  by_cases h : b ≤ a
  · rw [if_pos h]
    conv => lhs; whnf
    repeat' ((first | refine Qw hB ?_ | refine Q3 hB h ?_ | refine Q0 hB rfl ?_ | refine Q1 hB (by decide) ?_ | refine Q2 hB (by decide) ?_ | refine Q3 hB (by decide) ?_ | refine Q4 hB (by decide) ?_ | refine Q5 hB (by decide) ?_ | refine Q6 hB (by decide) ?_ | refine Q7 hB (by omega) (by omega) ?_ | refine Q8 hB ?_ | refine Q9 hB ?_ | refine Qa hB ?_ | refine Qb hB (fun _ => ?_) (fun _ => ?_) | refine Qc hB ?_ | refine Qd hB ?_ | refine Qe hB ?_ | refine Qf hB ?_ | refine Qg hB ?_ | refine Qh hB ?_ | refine Qi hB ?_ | refine Qj hB rfl ?_ | refine Qk hB rfl ?_ | refine Ql hB (by first | omega | decide) ?_ | refine Qm hB rfl ?_ | refine Qn hB ?_ | refine Qo hB rfl ?_ | refine Qo hB (Qp rfl) ?_ | refine Qq hB rfl ?_ | refine Qr hB ?_ | refine Qs hB ?_ | refine Qt hB ?_ | refine Qu hB ?_ | refine Qv hB rfl ?_) <;> conv => lhs; whnf)
    all_goals rfl
  · rw [if_neg h]
    have hs := spin_in (n := z) (many := b - a + 1) (by omega)
    conv => lhs; whnf
    repeat' ((first | refine Qw hB ?_ | refine Q4 hB h ?_ | refine sub_step hB (by omega) (by omega) ?_ | refine add_step hB (by omega) (by omega) ?_ | refine Q2 hB (by omega) ?_ | refine Qx hB H42 ?_ | refine Q0 hB rfl ?_ | refine Q1 hB (by decide) ?_ | refine Q2 hB (by decide) ?_ | refine Q3 hB (by decide) ?_ | refine Q4 hB (by decide) ?_ | refine Q5 hB (by decide) ?_ | refine Q6 hB (by decide) ?_ | refine Q7 hB (by omega) (by omega) ?_ | refine Q8 hB ?_ | refine Q9 hB ?_ | refine Qa hB ?_ | refine Qb hB (fun _ => ?_) (fun _ => ?_) | refine Qc hB ?_ | refine Qd hB ?_ | refine Qe hB ?_ | refine Qf hB ?_ | refine Qg hB ?_ | refine Qh hB ?_ | refine Qi hB ?_ | refine Qj hB rfl ?_ | refine Qk hB rfl ?_ | refine Ql hB (by first | omega | decide) ?_ | refine Qm hB rfl ?_ | refine Qn hB ?_ | refine Qo hB rfl ?_ | refine Qo hB (Qp rfl) ?_ | refine Qq hB rfl ?_ | refine Qr hB ?_ | refine Qs hB ?_ | refine Qt hB ?_ | refine Qu hB ?_ | refine Qv hB rfl ?_) <;> conv => lhs; whnf)
    all_goals rfl

/-! ### the marks -/
def boxC (b : Box) (l : List UInt8) : List AV := [.int .i64 b.day, .int .i64 b.low, .int .i64 b.high, .str l, .bool b.stamp]
theorem markTo_next (bits : List Int) (i : Nat) (q : List UInt8) (m : Nat) : markTo bits i q (m + 1) = markTo bits i q m ++ [markAt bits i q m] := by
  unfold markTo
  rw [List.range_succ, List.map_append]; rfl
theorem slstr_one {s : List UInt8} {m : Nat} {y z : Int} (hy : y = (m : Int)) (hz : z = (m : Int) + 1) (h : m + 1 ≤ s.length) : slstrAV (.str s) (some (.int .i64 y)) (some (.int .i64 z)) = some (.str [(s[m]?).getD 0]) := by
  subst hy hz
  have h2 : m < s.length := h
  have e : (List.take (m + 1) s).drop m = [s[m]] := by
    rw [List.take_succ_eq_append_getElem h2, List.drop_left' (by simp; omega)]
  have b1 : bound s.length (.int .i64 ((m : Int) + 1)) = some (m + 1) := by
    simp only [bound]
    rw [if_pos ⟨by omega, by omega⟩, show ((m : Int) + 1).toNat = m + 1 by omega]
  have b2 : bound (m + 1) (.int .i64 (m : Int)) = some m := by
    simp only [bound]
    rw [if_pos ⟨by omega, by omega⟩, Int.toNat_natCast]
  show (bound s.length (.int .i64 ((m : Int) + 1))).bind (fun h => (bound h (.int .i64 (m : Int))).map fun l => AV.str ((s.take h).drop l)) = _
  rw [b1, Option.bind_some, b2, Option.map_some, e, List.getElem?_eq_getElem h2]
  rfl
theorem a36_L2_step {B : Bnd} (hB : B = Bk) {cl : CallK} {rd : RoundK} (bits : List Int) (i : Nat) (hi : i ≤ 6) (b : Box) (pc : List AV) (q : List UInt8) (hq : q.length = 4) (pm : Int) (hpc : pc = [pc[0]!, pc[1]!, .int .i64 pm, pc[3]!]) (fr : Fr)
    {t1 : Tok} (ht1 : purTok t1 = true) (tr : List Int) (t7 : Tok) (h7 : clampTok 1 t7 = t7) (z8 z9 z12 : Int)
    (H80 : ∀ z : Int, cl 0 80 [.sl (rowsI bits) t1, .int .i64 z] [] ansK = some (.int .i64 (takeZ bits z), []))
    (H42 : ∀ a c : Int, c ≤ 1000 → cl 0 42 [.int .i64 a, .int .i64 c] [] ansK = some (.int .i64 (spin a c), []))
    (H46 : cl 0 46 [.int .i64 pm] [] ansK = some (.str q, [])) (hcond : 0 < spin (takeZ bits ((i : Int) + 5)) 4) (n : Nat) (k : Ex → Env → St → Ans) (r : Ans) :
    ∀ (j m : Nat), 4 < m + j → m ≤ 4 →
    (∀ x, k (.exit 2) [(1, .sl (rowsI bits) t1), (2, .ptr 0 0 0), (4, .ptr 0 1 0), (6, .ptr 0 2 0), (7, .sl (rowsI tr) t7), (8, .int .i64 z8), (9, .int .i64 z9), (10, .int .i64 (.ofNat i)), (11, .ptr 1 0 0), (12, .int .i64 z12), (13, .ptr 1 1 0), (15, .int .i64 x)] [⟨[.cells (boxC b (markTo bits i q 4)), .cells pc], []⟩, fr] = r) →
    B.loop (evCK B a36_L2) [1, 2, 4, 6, 7, 8, 9, 10, 11, 12, 13, 15] n j cl rd Gx 0 2 [(1, .sl (rowsI bits) t1), (2, .ptr 0 0 0), (4, .ptr 0 1 0), (6, .ptr 0 2 0), (7, .sl (rowsI tr) t7), (8, .int .i64 z8), (9, .int .i64 z9), (10, .int .i64 (.ofNat i)), (11, .ptr 1 0 0), (12, .int .i64 z12), (13, .ptr 1 1 0), (15, .int .i64 (.ofNat m))] [⟨[.cells (boxC b (markTo bits i q m)), .cells pc], []⟩, fr] k = r := by
  rw [hpc]
  generalize pc[0]! = p0
  generalize pc[1]! = p1
  generalize pc[3]! = p3
  intro j
  induction j with
  | zero => intro m h1 h2; omega
  | succ j ih =>
    intro m h1 h2 k1
    refine loop_succ hB ?_
    by_cases hm : m < 4
    · have hmk := markTo_next bits i q m
      have hs2 : slstrAV (.str q) (some (.int .i64 (.ofNat m))) (some (.int .i64 (.ofNat (m + 1)))) = some (.str [(q[m]?).getD 0]) := slstr_one rfl (by simp only [Int.ofNat_eq_natCast]; omega) (by omega)
      by_cases hz : spin (takeZ bits ((i : Int) + (m : Int))) 2 = 0
      · have e : markAt bits i q m = 63 := if_pos hz
        rw [e] at hmk
        conv => lhs; whnf
        repeat' ((first | refine Qw hB ?_ | refine Qv hB ht1 ?_ | refine Q1 hB (by simp only [Int.ofNat_eq_natCast]; omega) ?_ | refine Q1 hB hcond ?_ | refine Q0 hB (by simp [purs, pur, ht1]) ?_ | refine Qx hB (H80 _) ?_ | refine Qx hB (H42 _ _ (by omega)) ?_ | refine Qx hB H46 ?_ | refine Q5 hB hz ?_ | refine Qm hB (str_add (by simp [markTo]; omega)) ?_ | refine Qm hB hs2 ?_ | refine add_step hB (by simp only [Int.ofNat_eq_natCast]; omega) (by simp only [Int.ofNat_eq_natCast]; omega) ?_ | refine Qc hB ?_ | refine Q0 hB rfl ?_ | refine Q1 hB (by decide) ?_ | refine Q2 hB (by decide) ?_ | refine Q3 hB (by decide) ?_ | refine Q4 hB (by decide) ?_ | refine Q5 hB (by decide) ?_ | refine Q6 hB (by decide) ?_ | refine Q7 hB (by omega) (by omega) ?_ | refine Q8 hB ?_ | refine Q9 hB ?_ | refine Qa hB ?_ | refine Qb hB (fun _ => ?_) (fun _ => ?_) | refine Qc hB ?_ | refine Qd hB ?_ | refine Qe hB ?_ | refine Qf hB ?_ | refine Qg hB ?_ | refine Qh hB ?_ | refine Qi hB ?_ | refine Qj hB rfl ?_ | refine Qk hB rfl ?_ | refine Ql hB (by first | omega | decide) ?_ | refine Qm hB rfl ?_ | refine Qn hB ?_ | refine Qo hB rfl ?_ | refine Qo hB (Qp rfl) ?_ | refine Qq hB rfl ?_ | refine Qr hB ?_ | refine Qs hB ?_ | refine Qt hB ?_ | refine Qu hB ?_ | refine Qv hB rfl ?_) <;> conv => lhs; whnf)
        rw [clampTok_pur ht1, h7, ← hmk]
        exact ih (m + 1) (by omega) (by omega) k1
      · have e : markAt bits i q m = (q[m]?).getD 0 := if_neg hz
        rw [e] at hmk
        conv => lhs; whnf
        repeat' ((first | refine Qw hB ?_ | refine Qv hB ht1 ?_ | refine Q1 hB (by simp only [Int.ofNat_eq_natCast]; omega) ?_ | refine Q1 hB hcond ?_ | refine Q0 hB (by simp [purs, pur, ht1]) ?_ | refine Qx hB (H80 _) ?_ | refine Qx hB (H42 _ _ (by omega)) ?_ | refine Qx hB H46 ?_ | refine Q6 hB hz ?_ | refine Qm hB (str_add (by simp [markTo]; omega)) ?_ | refine Qm hB hs2 ?_ | refine add_step hB (by simp only [Int.ofNat_eq_natCast]; omega) (by simp only [Int.ofNat_eq_natCast]; omega) ?_ | refine Qc hB ?_ | refine Q0 hB rfl ?_ | refine Q1 hB (by decide) ?_ | refine Q2 hB (by decide) ?_ | refine Q3 hB (by decide) ?_ | refine Q4 hB (by decide) ?_ | refine Q5 hB (by decide) ?_ | refine Q6 hB (by decide) ?_ | refine Q7 hB (by omega) (by omega) ?_ | refine Q8 hB ?_ | refine Q9 hB ?_ | refine Qa hB ?_ | refine Qb hB (fun _ => ?_) (fun _ => ?_) | refine Qc hB ?_ | refine Qd hB ?_ | refine Qe hB ?_ | refine Qf hB ?_ | refine Qg hB ?_ | refine Qh hB ?_ | refine Qi hB ?_ | refine Qj hB rfl ?_ | refine Qk hB rfl ?_ | refine Ql hB (by first | omega | decide) ?_ | refine Qm hB rfl ?_ | refine Qn hB ?_ | refine Qo hB rfl ?_ | refine Qo hB (Qp rfl) ?_ | refine Qq hB rfl ?_ | refine Qr hB ?_ | refine Qs hB ?_ | refine Qt hB ?_ | refine Qu hB ?_ | refine Qv hB rfl ?_) <;> conv => lhs; whnf)
        rw [clampTok_pur ht1, h7, ← hmk]
        exact ih (m + 1) (by omega) (by omega) k1
    · have hm4 : m = 4 := by omega
      subst hm4
      conv => lhs; whnf
      repeat' ((first | refine Qw hB ?_ | refine Qv hB ht1 ?_ | refine Q2 hB (by decide) ?_ | refine Q0 hB rfl ?_ | refine Q1 hB (by decide) ?_ | refine Q2 hB (by decide) ?_ | refine Q3 hB (by decide) ?_ | refine Q4 hB (by decide) ?_ | refine Q5 hB (by decide) ?_ | refine Q6 hB (by decide) ?_ | refine Q7 hB (by omega) (by omega) ?_ | refine Q8 hB ?_ | refine Q9 hB ?_ | refine Qa hB ?_ | refine Qb hB (fun _ => ?_) (fun _ => ?_) | refine Qc hB ?_ | refine Qd hB ?_ | refine Qe hB ?_ | refine Qf hB ?_ | refine Qg hB ?_ | refine Qh hB ?_ | refine Qi hB ?_ | refine Qj hB rfl ?_ | refine Qk hB rfl ?_ | refine Ql hB (by first | omega | decide) ?_ | refine Qm hB rfl ?_ | refine Qn hB ?_ | refine Qo hB rfl ?_ | refine Qo hB (Qp rfl) ?_ | refine Qq hB rfl ?_ | refine Qr hB ?_ | refine Qs hB ?_ | refine Qt hB ?_ | refine Qu hB ?_ | refine Qv hB rfl ?_) <;> conv => lhs; whnf)
      rw [clampTok_pur ht1, h7]
      exact k1 _
end Go.Ab.Cl

namespace Go.Ab.Cl
open Go.Ab

/-- Boxes without some stamps. -/
def Box.uns (b : Box) (c : Bool) : Box := { b with stamp := b.stamp && !c }
def unsB (bs : List Box) (f : Nat → Bool) : List Box := bs.mapIdx fun i b => b.uns (f i)
def unS (d : Desk) (f : Nat → Bool) (tb : Tok) : Desk := { d with bs := unsB d.bs f, tb := tb }
def tW (d : Desk) (f : Nat → Bool) : Bool := trueB (unS d f .any)
def stampB (d : Desk) (i : Nat) : Bool := match d.bs[i]? with
  | some b => b.stamp
  | none => false

theorem unsB_len (bs : List Box) (f : Nat → Bool) : (unsB bs f).length = bs.length := by simp [unsB]
theorem unsB_get (bs : List Box) (f : Nat → Bool) (i : Nat) : (unsB bs f)[i]? = (bs[i]?).map fun b => b.uns (f i) := by simp [unsB]
theorem unsB_congr {bs : List Box} {f g : Nat → Bool} (h : ∀ i, i < bs.length → f i = g i) : unsB bs f = unsB bs g := by
  refine List.ext_getElem? fun i => ?_
  rw [unsB_get, unsB_get]
  by_cases hi : i < bs.length
  · rw [h i hi]
  · rw [List.getElem?_eq_none (by omega)]; rfl
theorem uns_same (b : Box) : b.uns false = b := by simp [Box.uns]
theorem unsB_none (bs : List Box) {f : Nat → Bool} (h : ∀ i, i < bs.length → f i = false) : unsB bs f = bs := by
  refine List.ext_getElem? fun i => ?_
  rw [unsB_get]
  by_cases hi : i < bs.length
  · rw [h i hi, List.getElem?_eq_getElem hi]
    simp [uns_same]
  · rw [List.getElem?_eq_none (by omega)]; rfl
theorem tW_congr {d : Desk} {f g : Nat → Bool} (h : ∀ i, i < d.bs.length → f i = g i) : tW d f = tW d g := by
  unfold tW unS
  rw [unsB_congr h]
theorem uns_box (b : Box) (c : Bool) : okBox (b.uns c) = okBox b := rfl
theorem unS_check (d : Desk) (f : Nat → Bool) (tb : Tok) : (unS d f tb).check = d.check := by
  have e : (unS d f tb).check = (isSpan d.lo d.hi 0 400 && within d.wear 0 5000 && within d.strange 0 6 && decide (d.ps.length ≤ 8) && decide ((unsB d.bs f).length ≤ 6) && d.ps.all okParcel && (unsB d.bs f).all okBox) := rfl
  have e2 : d.check = (isSpan d.lo d.hi 0 400 && within d.wear 0 5000 && within d.strange 0 6 && decide (d.ps.length ≤ 8) && decide (d.bs.length ≤ 6) && d.ps.all okParcel && d.bs.all okBox) := rfl
  have h : (unsB d.bs f).all okBox = d.bs.all okBox := by
    rw [Bool.eq_iff_iff, List.all_eq_true, List.all_eq_true]
    constructor
    · intro h b hb
      obtain ⟨i, hi, rfl⟩ := List.mem_iff_getElem.1 hb
      have : (unsB d.bs f)[i]? = some (d.bs[i].uns (f i)) := by rw [unsB_get, List.getElem?_eq_getElem hi]; rfl
      have := h _ (List.mem_of_getElem? this)
      rwa [uns_box] at this
    · intro h b hb
      obtain ⟨i, hi, rfl⟩ := List.mem_iff_getElem.1 hb
      have hi2 : i < d.bs.length := by rw [unsB_len] at hi; exact hi
      have : (unsB d.bs f)[i]? = some (d.bs[i].uns (f i)) := by rw [unsB_get, List.getElem?_eq_getElem hi2]; rfl
      rw [List.getElem?_eq_getElem hi] at this
      rw [Option.some.inj this, uns_box]
      exact h _ (List.getElem_mem _)
  rw [e, e2, unsB_len, h]
theorem unS_ok {d : Desk} (hd : d.ok) {f : Nat → Bool} {tb : Tok} (ht : purTok tb = true) : (unS d f tb).ok where
  tp := hd.tp
  tb := ht
  ps := hd.ps
  bs := by have := hd.bs; simpa [unS, unsB_len] using this
  str b hb := by
    obtain ⟨i, hi, rfl⟩ := List.mem_iff_getElem.1 hb
    have hi : i < (unsB d.bs f).length := hi
    have hi2 : i < d.bs.length := by rw [unsB_len] at hi; exact hi
    have : (unsB d.bs f)[i]? = some (d.bs[i].uns (f i)) := by rw [unsB_get, List.getElem?_eq_getElem hi2]; rfl
    rw [List.getElem?_eq_getElem hi] at this
    show (unsB d.bs f)[i].mark.length ≤ _
    rw [Option.some.inj this]
    show (d.bs[i]).mark.length ≤ _
    exact hd.str _ (List.getElem_mem _)
theorem tW_tok {d : Desk} (hc : d.check = true) (f : Nat → Bool) (tb : Tok) : trueB (unS d f tb) = tW d f := by
  unfold tW
  rw [Bool.eq_iff_iff, true_iff (by rw [unS_check]; exact hc), true_iff (by rw [unS_check]; exact hc)]
  exact ⟨fun ⟨l, h⟩ => ⟨l, h.len, h.ok, h.inj, h.few⟩, fun ⟨l, h⟩ => ⟨l, h.len, h.ok, h.inj, h.few⟩⟩

/-! ### choices -/
def inL (l : List Nat) (i : Nat) : Bool := decide (i ∈ l)
def chooseV (d : Desk) : Nat → Nat → List Nat → Option (List Nat)
  | 0, _, l => if tW d (inL l) = true then some l else none
  | m + 1, j, l => (List.range' j (d.bs.length - j)).findSome? fun k => if stampB d k = true then chooseV d m (k + 1) (l ++ [k]) else none
def Asc (d : Desk) : Nat → List Nat → Prop
  | _, [] => True
  | j, k :: l => j ≤ k ∧ k < d.bs.length ∧ stampB d k = true ∧ Asc d (k + 1) l
def aheadN : List Nat → List Nat → Bool
  | [], [] => false
  | [], _ :: _ => true
  | _ :: _, [] => false
  | x :: a, y :: b => if x = y then aheadN a b else decide (x < y)

theorem Asc.weaken {d : Desk} : ∀ {l : List Nat} {j j' : Nat}, Asc d j l → j' ≤ j → Asc d j' l
  | [], _, _, _, _ => trivial
  | _ :: _, _, _, ⟨h1, h2⟩, h => ⟨by omega, h2⟩
theorem Asc.len {d : Desk} : ∀ {l : List Nat} {j : Nat}, Asc d j l → j ≤ d.bs.length → l.length + j ≤ d.bs.length
  | [], _, _, h => by simpa using h
  | k :: l, j, ⟨h1, h2, _, h3⟩, h => by
    have := Asc.len h3 (by omega)
    simp only [List.length_cons]; omega
theorem Asc.mem {d : Desk} : ∀ {l : List Nat} {j : Nat}, Asc d j l → ∀ x ∈ l, j ≤ x ∧ x < d.bs.length ∧ stampB d x = true
  | [], _, _, x, hx => by cases hx
  | k :: l, j, ⟨h1, h2, h3, h4⟩, x, hx => by
    rcases List.mem_cons.1 hx with rfl | hx
    · exact ⟨h1, h2, h3⟩
    · have := Asc.mem h4 x hx
      exact ⟨by omega, this.2⟩

def ChSpec (d : Desk) (m j : Nat) (l : List Nat) (o : Option (List Nat)) : Prop :=
  (o = none ∧ ∀ l2, l2.length = m → Asc d j l2 → tW d (inL (l ++ l2)) = false) ∨
  (∃ l2, o = some (l ++ l2) ∧ l2.length = m ∧ Asc d j l2 ∧ tW d (inL (l ++ l2)) = true ∧ ∀ l3, l3.length = m → Asc d j l3 → tW d (inL (l ++ l3)) = true → l2 = l3 ∨ aheadN l2 l3 = true)
theorem choose_spec (d : Desk) : ∀ (m j : Nat) (l : List Nat), ChSpec d m j l (chooseV d m j l)
  | 0, j, l => by
    unfold chooseV
    split
    · rename_i h
      exact .inr ⟨[], by simp, rfl, trivial, by simpa using h, fun l3 h3 _ _ => .inl (List.length_eq_zero_iff.1 h3).symm⟩
    · rename_i h
      refine .inl ⟨rfl, fun l2 h2 _ => ?_⟩
      obtain rfl := List.length_eq_zero_iff.1 h2
      simpa using h
  | m + 1, j, l => by
    have key : ∀ (c j : Nat), d.bs.length - j = c → ChSpec d (m + 1) j l ((List.range' j c).findSome? fun k => if stampB d k = true then chooseV d m (k + 1) (l ++ [k]) else none) := by
      intro c
      induction c with
      | zero =>
        intro j hj
        refine .inl ⟨rfl, fun l2 h2 ha => ?_⟩
        cases l2 with
        | nil => simp at h2
        | cons k l2 => have := ha.1; have := ha.2.1; omega
      | succ c ih =>
        intro j hj
        have hrest := ih (j + 1) (by omega)
        rw [List.range'_succ, List.findSome?_cons]
        have hskip : (∀ l2, l2.length = m → Asc d (j + 1) l2 → stampB d j = true → tW d (inL (l ++ j :: l2)) = false) → ChSpec d (m + 1) j l ((List.range' (j + 1) c).findSome? fun k => if stampB d k = true then chooseV d m (k + 1) (l ++ [k]) else none) := by
          intro hno
          rcases hrest with ⟨h1, h2⟩ | ⟨l2, h1, h2, h3, h4, h5⟩
          · refine .inl ⟨h1, fun l2 hl ha => ?_⟩
            cases l2 with
            | nil => simp at hl
            | cons k l2 =>
              obtain ⟨a1, a2, a3, a4⟩ := ha
              by_cases hk : k = j
              · subst hk; exact hno l2 (by simpa using hl) a4 a3
              · exact h2 (k :: l2) hl ⟨by omega, a2, a3, a4⟩
          · refine .inr ⟨l2, h1, h2, h3.weaken (by omega), h4, fun l3 hl ha ht => ?_⟩
            cases l3 with
            | nil => simp at hl
            | cons k l3 =>
              obtain ⟨a1, a2, a3, a4⟩ := ha
              by_cases hk : k = j
              · subst hk
                rw [hno l3 (by simpa using hl) a4 a3] at ht
                cases ht
              · exact h5 (k :: l3) hl ⟨by omega, a2, a3, a4⟩ ht
        by_cases hs : stampB d j = true
        · simp only [hs, if_true]
          rcases choose_spec d m (j + 1) (l ++ [j]) with ⟨h1, h2⟩ | ⟨l2, h1, h2, h3, h4, h5⟩
          · rw [h1]
            refine hskip fun l2 hl ha _ => ?_
            have := h2 l2 hl ha
            rwa [List.append_assoc] at this
          · rw [h1]
            rw [List.append_assoc] at h4
            refine .inr ⟨j :: l2, by simp, by simp [h2], ⟨Nat.le_refl _, by omega, hs, h3⟩, h4, fun l3 hl ha ht => ?_⟩
            cases l3 with
            | nil => simp at hl
            | cons k l3 =>
              obtain ⟨a1, a2, a3, a4⟩ := ha
              by_cases hk : j = k
              · subst hk
                have := h5 l3 (by simpa using hl) a4 (by rw [List.append_assoc]; exact ht)
                rcases this with rfl | h
                · exact .inl rfl
                · exact .inr (by simp [aheadN, h])
              · refine .inr ?_
                simp only [aheadN, if_neg hk, decide_eq_true_eq]; omega
        · simp only [hs]
          exact hskip fun l2 _ _ h => absurd h hs
    exact key _ j rfl

/-- A choice of stamps without which all can be true. -/
def Cand (d : Desk) (l : List Nat) : Prop := Asc d 0 l ∧ tW d (inL l) = true
def lessL (a b : List Nat) : Bool := decide (a.length < b.length) || (decide (a.length = b.length) && aheadN a b)
def Least (d : Desk) (o : Option (List Nat)) : Prop := (o = none ∧ ∀ l, ¬ Cand d l) ∨ ∃ l, o = some l ∧ Cand d l ∧ ∀ l', Cand d l' → l = l' ∨ lessL l l' = true
def wrongV (d : Desk) : Option (List Nat) := (List.range' 0 (d.bs.length + 1)).findSome? fun m => chooseV d m 0 []
theorem wrong_least (d : Desk) : Least d (wrongV d) := by
  have key : ∀ (c j : Nat), j + c = d.bs.length + 1 → (∀ l, Cand d l → j ≤ l.length) → Least d ((List.range' j c).findSome? fun m => chooseV d m 0 []) := by
    intro c
    induction c with
    | zero =>
      intro j hj hno
      refine .inl ⟨rfl, fun l hl => ?_⟩
      have h1 := hno l hl
      have := hl.1.len (by omega)
      omega
    | succ c ih =>
      intro j hj hno
      rw [List.range'_succ, List.findSome?_cons]
      rcases choose_spec d j 0 [] with ⟨h1, h2⟩ | ⟨l2, h1, h2, h3, h4, h5⟩
      · rw [h1]
        refine ih (j + 1) (by omega) fun l hl => ?_
        have := hno l hl
        rcases Nat.lt_or_ge j l.length with h | h
        · omega
        · have h := h2 l (by omega) hl.1
          rw [List.nil_append, hl.2] at h
          cases h
      · rw [h1]
        refine .inr ⟨l2, by simp, ⟨h3, by simpa using h4⟩, fun l' hl => ?_⟩
        have := hno l' hl
        rcases Nat.lt_or_ge j l'.length with h | h
        · exact .inr (by simp [lessL]; omega)
        · rcases h5 l' (by omega) hl.1 (by simpa using hl.2) with h6 | h6
          · exact .inl h6
          · exact .inr (by simp [lessL, h6]; omega)
  exact key _ 0 (by omega) fun _ _ => Nat.zero_le _

theorem ahead_irr : ∀ a : List Nat, aheadN a a = false
  | [] => rfl
  | x :: a => by simp [aheadN, ahead_irr a]
theorem ahead_asym : ∀ {a b : List Nat}, aheadN a b = true → aheadN b a = false
  | [], [], h => by cases h
  | [], _ :: _, _ => rfl
  | _ :: _, [], h => by cases h
  | x :: a, y :: b, h => by
    simp only [aheadN] at h ⊢
    split at h
    · rename_i e; rw [if_pos e.symm]; exact ahead_asym h
    · rename_i e
      rw [if_neg (fun e' => e e'.symm)]
      simp at h ⊢; omega
theorem ahead_trans : ∀ {a b c : List Nat}, aheadN a b = true → aheadN b c = true → aheadN a c = true
  | [], [], _, h, _ => by cases h
  | [], _ :: _, [], _, h => by cases h
  | [], _ :: _, _ :: _, _, _ => rfl
  | _ :: _, [], _, h, _ => by cases h
  | _ :: _, _ :: _, [], _, h => by cases h
  | x :: a, y :: b, z :: c, h, h' => by
    simp only [aheadN] at h h' ⊢
    split at h
    · rename_i e
      subst e
      split at h'
      · rename_i e; rw [if_pos e]; exact ahead_trans h h'
      · rename_i e; rw [if_neg e]; exact h'
    · rename_i e
      split at h'
      · rename_i e2; subst e2; rw [if_neg e]; exact h
      · rename_i e2
        simp at h h'
        rw [if_neg (by omega)]
        simp; omega
theorem ahead_total : ∀ (a b : List Nat), a.length = b.length → aheadN a b = true ∨ a = b ∨ aheadN b a = true
  | [], [], _ => .inr (.inl rfl)
  | x :: a, y :: b, h => by
    simp only [aheadN]
    by_cases e : x = y
    · subst e
      rw [if_pos rfl, if_pos rfl]
      rcases ahead_total a b (by simpa using h) with h | h | h
      · exact .inl h
      · exact .inr (.inl (by rw [h]))
      · exact .inr (.inr h)
    · rw [if_neg e, if_neg fun e' => e e'.symm]
      simp only [decide_eq_true_eq]
      omega
theorem less_iff {a b : List Nat} : lessL a b = true ↔ a.length < b.length ∨ (a.length = b.length ∧ aheadN a b = true) := by
  simp [lessL]
theorem less_asym {a b : List Nat} (h : lessL a b = true) : lessL b a = false := by
  rw [less_iff] at h
  rw [← Bool.not_eq_true, less_iff]
  rintro h'
  rcases h with h | ⟨h1, h2⟩
  · omega
  · rcases h' with h' | ⟨_, h'⟩
    · omega
    · rw [ahead_asym h2] at h'; cases h'
theorem less_trans {a b c : List Nat} (h : lessL a b = true) (h' : lessL b c = true) : lessL a c = true := by
  rw [less_iff] at *
  rcases h with h | ⟨h1, h2⟩
  · rcases h' with h' | ⟨h3, h4⟩
    · exact .inl (by omega)
    · exact .inl (by omega)
  · rcases h' with h' | ⟨h3, h4⟩
    · exact .inl (by omega)
    · exact .inr ⟨by omega, ahead_trans h2 h4⟩
theorem less_total (a b : List Nat) : lessL a b = true ∨ a = b ∨ lessL b a = true := by
  rcases Nat.lt_trichotomy a.length b.length with h | h | h
  · exact .inl (less_iff.2 (.inl h))
  · rcases ahead_total a b h with h1 | h1 | h1
    · exact .inl (less_iff.2 (.inr ⟨h, h1⟩))
    · exact .inr (.inl h1)
    · exact .inr (.inr (less_iff.2 (.inr ⟨h.symm, h1⟩)))
  · exact .inr (.inr (less_iff.2 (.inl h)))
theorem least_one {d : Desk} {o o' : Option (List Nat)} (h : Least d o) (h' : Least d o') : o = o' := by
  rcases h with ⟨rfl, h⟩ | ⟨l, rfl, h1, h2⟩
  · rcases h' with ⟨rfl, _⟩ | ⟨l', rfl, h3, _⟩
    · rfl
    · exact absurd h3 (h l')
  · rcases h' with ⟨rfl, h⟩ | ⟨l', rfl, h3, h4⟩
    · exact absurd h1 (h l)
    · rcases h2 l' h3 with rfl | h5
      · rfl
      · rcases h4 l h1 with rfl | h6
        · rfl
        · rw [less_asym h5] at h6; cases h6
end Go.Ab.Cl

namespace Go.Ab.Cl
open Go.Ab

def wtk : List Nat → Tok
  | [] => .nil
  | _ :: _ => .any
theorem wtk_pur (l : List Nat) : purTok (wtk l) = true := by cases l <;> rfl
def ftok : Tok → Tok
  | .nil => .nil
  | _ => .full
theorem ftok_or (t : Tok) : ftok t = .nil ∨ ftok t = .full := by cases t <;> simp [ftok]
theorem slice_pur {t : Tok} (l : List Int) : sliceAV 1 (.sl (rowsI l) t) none (some (.int .i64 (.ofNat l.length))) (some (.int .i64 (.ofNat l.length))) = some (.sl (rowsI l) (ftok t)) := by
  have h1 : headFit 1 (rowsI l) = true := by cases l <;> rfl
  have h : (0 : Int) ≤ (l.length : Int) := by omega
  have h3 : (rowsI l).length = l.length := by simp [rowsI]
  have h4 : List.take l.length (rowsI l) = rowsI l := List.take_of_length_le (by omega)
  cases t <;> simp [sliceAV, h1, bound, optBound, h, h3, h4, ftok]
theorem app_up {F : Fr} {os : List AObj} {T : List (Nat × Nat × Nat)} {s : St} {D p : Nat} (hD : D = s.length) {l : List Int} {t : Tok} (ht : t = .nil ∨ t = .full) (z : Int) (hl : l.length ≤ 1000) :
    appAt D (F :: ⟨os, T⟩ :: s) p 1 8 (.sl (rowsI l) t) (.sl [[.int .i64 z]] .full) = some (.sl (rowsI (l ++ [z])) (.site D p ((tokGet T p).1 + 1)), F :: ⟨os, tokSet T p ((tokGet T p).1 + 1, l.length + 1)⟩ :: s) := by
  have h1 : headFit 1 (rowsI l) = true := by cases l <;> rfl
  have h2 : (rowsI l).length = l.length := by simp [rowsI]
  have h3 : (l.length + 1) * 8 ≤ 140737488355328 := by omega
  have h4 : getTok (F :: ⟨os, T⟩ :: s) D p = tokGet T p := by
    rw [getTok_sub (by simp [hD])]
    simp [getTok, getFr, hD]
  have h5 : ∀ x, setTok (F :: ⟨os, T⟩ :: s) D p x = F :: ⟨os, tokSet T p x⟩ :: s := fun x => by
    rw [setTok_sub (by simp [hD])]
    simp [setTok, modFr, hD]
  have h6 : rowsI (l ++ [z]) = rowsI l ++ [[.int .i64 z]] := by simp [rowsI]
  have h7 : headFit 1 [[AV.int .i64 z]] = true := rfl
  rcases ht with rfl | rfl <;> simp [appAt, rowsAt, h1, h2, h3, h4, h5, h6, h7, purs, pur]

/-! ### boxes, of a frame below or none -/
def bflat (bs : List Box) : List AV := (bs.map Box.c).flatten
theorem bflat_len (bs : List Box) : (bflat bs).length = bs.length * 5 := by
  unfold bflat
  rw [flat_len5 (e := 5) _ box_len, List.length_map]
def IsBx (s : St) (v : AV) (bs : List Box) : Prop := (∃ t, purTok t = true ∧ v = .sl (bs.map Box.c) t) ∨ ∃ l i, v = .os l i 0 bs.length 5 ∧ l < s.length ∧ getObj s l i = some (.cells (bflat bs))
theorem IsBx.up {s : St} {v : AV} {bs : List Box} (h : IsBx s v bs) (f : Fr) : IsBx (f :: s) v bs := by
  rcases h with h | ⟨l, i, h1, h2, h3⟩
  · exact .inl h
  · exact .inr ⟨l, i, h1, by simp; omega, (getObj_sub h2).trans h3⟩
theorem rowsAt_bx {s : St} {v : AV} {bs : List Box} (hv : IsBx s v bs) : rowsAt s 5 v = some (bs.map Box.c) := by
  rcases hv with ⟨t, ht, rfl⟩ | ⟨l, i, rfl, h1, h2⟩
  · rfl
  · have h3 : bs.length * 5 ≤ (bflat bs).length := by rw [bflat_len]; exact Nat.le_refl _
    have h4 : purs ((bflat bs).take (bs.length * 5)) = true := by
      rw [List.take_of_length_le (by rw [bflat_len]; omega)]
      exact purs_flatten _ fun r hr => (box_pur r hr).2
    have h5 : rowsOf 5 bs.length (bflat bs) = bs.map Box.c := by
      have := rowsOf_flat (e := 5) (bs.map Box.c) box_len
      rwa [List.length_map] at this
    simp [rowsAt, h2, h3, h4, h5]
theorem appo_bx {s : St} {D : Nat} (hD : D = s.length) {f : Fr} {v : AV} {bs : List Box} (hv : IsBx (f :: s) v bs) (hne : bs ≠ []) (hl : bs.length ≤ 1000) : appoAt (f :: s) 5 48 (.sl [] .nil) v = some (.os D f.objs.length 0 bs.length 5, ⟨f.objs ++ [.cells (bflat bs)], f.toks⟩ :: s) := by
  subst hD
  obtain ⟨os, tk⟩ := f
  have h2 : bs.length * 48 ≤ 140737488355328 := by omega
  have h1 : headFit 5 (bs.map Box.c) = true := by cases bs <;> rfl
  simp [appoAt, rowsAt_bx hv, newObj, h1, h2, hne, show headFit 5 [] = true from rfl, bflat]
theorem bflat_drop {bs : List Box} {k : Nat} {b : Box} (hb : bs[k]? = some b) : (bflat bs).drop (Nat.add (Nat.add 0 (Nat.mul k 5)) 4) = .bool b.stamp :: (bflat bs).drop (k * 5 + 5) := by
  have hk : k < bs.length := (List.getElem?_eq_some_iff.1 hb).1
  have key : ∀ (bs : List Box) (k : Nat) (b : Box), bs[k]? = some b → (bflat bs)[k * 5 + 4]? = some (.bool b.stamp) := by
    intro bs
    induction bs with
    | nil => intro k b h; simp at h
    | cons c bs ih =>
      intro k b h
      have e : bflat (c :: bs) = Box.c c ++ bflat bs := rfl
      cases k with
      | zero =>
        have h : c = b := by simpa using h
        subst h; rfl
      | succ k =>
        have := ih k b (by simpa using h)
        rw [e, List.getElem?_append_right (by show 5 ≤ _; omega), show (k + 1) * 5 + 4 - (Box.c c).length = k * 5 + 4 by show (k + 1) * 5 + 4 - 5 = _; omega]
        exact this
  have h4 := key bs k b hb
  have hlt : k * 5 + 4 < (bflat bs).length := by rw [bflat_len]; omega
  rw [List.getElem?_eq_getElem hlt] at h4
  have e : Nat.add (Nat.add 0 (Nat.mul k 5)) 4 = k * 5 + 4 := by show 0 + k * 5 + 4 = _; omega
  rw [e, List.drop_eq_getElem_cons hlt, Option.some.inj h4]
theorem bflat_put {bs : List Box} {k : Nat} {b : Box} (hb : bs[k]? = some b) (c : Bool) : putAt (bflat bs) (Nat.add (Nat.add 0 (Nat.mul k 5)) 4) [.bool c] = bflat (bs.set k { b with stamp := c }) := by
  have e : Nat.add (Nat.add 0 (Nat.mul k 5)) 4 = k * 5 + 4 := by show 0 + k * 5 + 4 = _; omega
  unfold bflat
  rw [e, put_flat (by omega) _ _ k b.c box_len (by simp [hb]), List.map_set]
  rfl
theorem bflat_room {bs : List Box} {k : Nat} (hk : k < bs.length) : Nat.ble (Nat.add (Nat.add (Nat.add 0 (Nat.mul k 5)) 4) 1) (lenK (bflat bs)) = true := by
  rw [lenK_eq, bflat_len]
  exact Nat.ble_eq_true_of_le (by show 0 + k * 5 + 4 + 1 ≤ _; omega)
theorem uns_set {bs : List Box} {l : List Nat} {k : Nat} {b : Box} (hb : (unsB bs (inL l))[k]? = some b) : (unsB bs (inL l)).set k { b with stamp := false } = unsB bs (inL (l ++ [k])) := by
  refine List.ext_getElem? fun i => ?_
  rw [List.getElem?_set, unsB_get, unsB_get]
  rw [unsB_get] at hb
  by_cases hk : k = i
  · subst hk
    rw [if_pos rfl]
    obtain ⟨b0, h1, rfl⟩ := Option.map_eq_some_iff.1 hb
    have hlt : k < (unsB bs (inL l)).length := by rw [unsB_len]; exact (List.getElem?_eq_some_iff.1 h1).1
    rw [if_pos hlt, h1]
    simp [Box.uns, inL]
  · rw [if_neg hk]
    have : inL (l ++ [k]) i = inL l i := by
      unfold inL
      rw [decide_eq_decide, List.mem_append, List.mem_singleton]
      exact ⟨fun h => h.elim id fun h => absurd h.symm hk, .inl⟩
    rw [this]

def dcB (d : Desk) (v : AV) : List AV := [.int .i64 d.lo, .int .i64 d.hi, .int .i64 d.wear, .int .i64 d.strange, .sl (d.ps.map Parcel.c) d.tp, v]
def chooseFrom (d : Desk) (m j : Nat) (l : List Nat) : Option (List Nat) := (List.range' j (d.bs.length - j)).findSome? fun k => if stampB d k = true then chooseV d m (k + 1) (l ++ [k]) else none
theorem cf_end {d : Desk} {m j : Nat} {l : List Nat} (h : d.bs.length ≤ j) : chooseFrom d m j l = none := by
  unfold chooseFrom
  rw [Nat.sub_eq_zero_of_le h]; rfl
theorem cf_skip {d : Desk} {m j : Nat} {l : List Nat} (h : j < d.bs.length) (hs : stampB d j = false) : chooseFrom d m j l = chooseFrom d m (j + 1) l := by
  unfold chooseFrom
  rw [show d.bs.length - j = (d.bs.length - (j + 1)) + 1 by omega, List.range'_succ, List.findSome?_cons]
  simp [hs]
theorem cf_none {d : Desk} {m j : Nat} {l : List Nat} (h : j < d.bs.length) (hs : stampB d j = true) (hn : chooseV d m (j + 1) (l ++ [j]) = none) : chooseFrom d m j l = chooseFrom d m (j + 1) l := by
  unfold chooseFrom
  rw [show d.bs.length - j = (d.bs.length - (j + 1)) + 1 by omega, List.range'_succ, List.findSome?_cons]
  simp [hs, hn]
theorem cf_some {d : Desk} {m j : Nat} {l x : List Nat} (h : j < d.bs.length) (hs : stampB d j = true) (hn : chooseV d m (j + 1) (l ++ [j]) = some x) : chooseFrom d m j l = some x := by
  unfold chooseFrom
  rw [show d.bs.length - j = (d.bs.length - (j + 1)) + 1 by omega, List.range'_succ, List.findSome?_cons]
  simp [hs, hn]

set_option maxHeartbeats 4000000 in
theorem a78_L1_step {B : Bnd} (hB : B = Bk) {cl : CallK} {rd : RoundK} (d : Desk) (hd : d.ok) (hc : d.check = true) (m : Nat) (l : List Nat) (hlm : l.length + m ≤ 100) {tk : Tok} (htk : purTok tk = true) {zm : Int} (s : St) {D : Nat} (hD : D = s.length) (h0 : 0 < s.length)
    (hS : getObj s 0 1 = some (.cells [.fn 78 [] [.ptr 0 1 0]])) {v : AV} (hv : IsBx s v (unsB d.bs (inL l)))
    (HC : ∀ (k : Nat) (f f' : Fr) (v : AV) (kont : AV → St → Ans) (r : Ans), k < d.bs.length → (∀ x ∈ l, x < k) → IsBx (f :: f' :: s) v (unsB d.bs (inL (l ++ [k]))) →
      (∀ x, chooseV d m (k + 1) (l ++ [k]) = some x → kont (.tup [.sl (rowsI (nats x)) (wtk x), .bool true]) (f :: f' :: s) = r) →
      (chooseV d m (k + 1) (l ++ [k]) = none → ∀ x t, purTok t = true → kont (.tup [.sl (rowsI x) t, .bool false]) (f :: f' :: s) = r) →
      cl (D + 1 + 1) 78 [.agg (dcB d v), .int .i64 ((k : Int) + 1), .int .i64 zm, .sl (rowsI (nats l ++ [(k : Int)])) .any, .ptr 0 1 0] (f :: f' :: s) kont = r)
    (n : Nat) (k : Ex → Env → St → Ans) (r : Ans) :
    ∀ (j i0 : Nat) (T : List (Nat × Nat × Nat)), d.bs.length < i0 + j → i0 ≤ d.bs.length → (∀ x ∈ l, x < i0) →
    (chooseFrom d m i0 l = none → ∀ x T', k (.exit 0) [(2, .int .i64 zm), (3, .sl (rowsI (nats l)) tk), (4, .ptr 0 1 0), (5, .ptr D 0 0), (9, .sl [] .nil), (10, .bool false), (11, .int .i64 x)] (⟨[.cells (dcB d v)], T'⟩ :: s) = r) →
    (∀ x, chooseFrom d m i0 l = some x → ∀ e T', k .ret ((2, .int .i64 zm) :: (3, .sl (rowsI (nats l)) tk) :: (4, .ptr 0 1 0) :: (5, .ptr D 0 0) :: (9, .sl (rowsI (nats x)) (wtk x)) :: (10, .bool true) :: e) (⟨[.cells (dcB d v)], T'⟩ :: s) = r) →
    B.loop (evCK B a78_L1) [2, 3, 4, 5, 9, 10, 11] n j cl rd Gx D (D + 1) [(2, .int .i64 zm), (3, .sl (rowsI (nats l)) tk), (4, .ptr 0 1 0), (5, .ptr D 0 0), (9, .sl [] .nil), (10, .bool false), (11, .int .i64 (.ofNat i0))] (⟨[.cells (dcB d v)], T⟩ :: s) k = r := by
  intro j
  induction j with
  | zero => intro i0 T h1 h2; omega
  | succ j ih =>
    intro i0 T h1 h2 hlt k1 k2
    have hnb := (check_fine hc).nb
    have hl2 : ∀ (g g' : Fr), D + 1 + 1 = (g :: g' :: s : St).length := fun _ _ => by simp [hD]
    have hl0 : ∀ (g : Fr), D < (g :: s : St).length := fun _ => by simp [hD]
    have hl1 : ∀ (g : Fr), D + 1 = (g :: s : St).length := fun _ => by simp [hD]
    refine loop_succ hB ?_
    have hne : unsB d.bs (inL l) ≠ [] ∨ d.bs.length ≤ i0 := by
      by_cases h : i0 < d.bs.length
      · exact .inl fun e => by have := congrArg List.length e; rw [unsB_len] at this; have this : d.bs.length = 0 := this; omega
      · exact .inr (by omega)
    have hbox : ∀ h : i0 < d.bs.length, ∃ b, (unsB d.bs (inL l))[i0]? = some b ∧ stampB d i0 = b.stamp := fun h => by
      refine ⟨d.bs[i0], ?_, ?_⟩
      · rw [unsB_get, List.getElem?_eq_getElem h]
        have : inL l i0 = false := by
          unfold inL
          rw [decide_eq_false_iff_not]
          intro hm
          have := hlt i0 hm
          omega
        rw [this]
        simp [uns_same]
      · unfold stampB
        rw [List.getElem?_eq_getElem h]
    have hub : (unsB d.bs (inL l)).length ≤ 1000 := by rw [unsB_len]; omega
    have hv0 := hv
    rcases hv with ⟨tv, htv, rfl⟩ | ⟨lv, iv, rfl, hlv, hgv⟩
    · conv => lhs; whnf
      repeat' ((first | refine Qw hB ?_ | refine Qv hB htk ?_ | refine Qv hB hd.tp ?_ | refine Qv hB htv ?_ | refine Qf hB ?_ | refine Qz hB (hl2 _ _) ((getObj_sub (hl0 _)).trans ((getObj_top hD).trans rfl)) ?_ | refine Qz hB (hl2 _ _) ((getObj_top (hl1 _)).trans rfl) ?_ | refine QA hB (hl2 _ _) (setTop0 (hl1 _)) ?_ | refine QC hB (m := i0) rfl ?_ | refine fbool_same hB (by omega) ?_ | refine fbool_other hB (by omega) ?_ | refine Qo hB (Nat.ble_eq_true_of_le (by omega)) ?_ | refine Q0 hB rfl ?_ | refine Q1 hB (by decide) ?_ | refine Q2 hB (by decide) ?_ | refine Q3 hB (by decide) ?_ | refine Q4 hB (by decide) ?_ | refine Q5 hB (by decide) ?_ | refine Q6 hB (by decide) ?_ | refine Q7 hB (by omega) (by omega) ?_ | refine Q8 hB ?_ | refine Q9 hB ?_ | refine Qa hB ?_ | refine Qb hB (fun _ => ?_) (fun _ => ?_) | refine Qc hB ?_ | refine Qd hB ?_ | refine Qe hB ?_ | refine Qf hB ?_ | refine Qg hB ?_ | refine Qh hB ?_ | refine Qi hB ?_ | refine Qj hB rfl ?_ | refine Qk hB rfl ?_ | refine Ql hB (by first | omega | decide) ?_ | refine Qm hB rfl ?_ | refine Qn hB ?_ | refine Qo hB rfl ?_ | refine Qo hB (Qp rfl) ?_ | refine Qq hB rfl ?_ | refine Qr hB ?_ | refine Qs hB ?_ | refine Qt hB ?_ | refine Qu hB ?_ | refine Qv hB rfl ?_) <;> conv => lhs; whnf)
      refine lt_nat hB (fun h => ?_) (fun h => ?_) <;> rw [unsB_len] at h <;> conv => lhs; whnf
      · obtain ⟨b, hb, hsb⟩ := hbox h
        have hxb : ((unsB d.bs (inL l)).map Box.c)[i0]? = some b.c := by simp [hb]
        have hne := hne.resolve_right (by omega)
        have hroom : i0 + 1 ≤ (unsB d.bs (inL l)).length := by rw [unsB_len]; exact h
        rcases b with ⟨b1, b2, b3, b4, b5⟩
        cases b5
        · repeat' ((first | refine Qw hB ?_ | refine Qv hB htk ?_ | refine Qv hB hd.tp ?_ | refine Qv hB htv ?_ | refine QB hB hxb ?_ | refine Qf hB ?_ | refine Qo hB (Nat.ble_eq_true_of_le hroom) ?_ | refine Qz hB (hl2 _ _) ((getObj_sub (hl0 _)).trans ((getObj_top hD).trans rfl)) ?_ | refine Qz hB (hl2 _ _) ((getObj_top (hl1 _)).trans rfl) ?_ | refine QA hB (hl2 _ _) (setTop0 (hl1 _)) ?_ | refine QC hB (m := i0) rfl ?_ | refine fbool_same hB (by omega) ?_ | refine fbool_other hB (by omega) ?_ | refine Qo hB (Nat.ble_eq_true_of_le (by omega)) ?_ | refine Q0 hB rfl ?_ | refine Q1 hB (by decide) ?_ | refine Q2 hB (by decide) ?_ | refine Q3 hB (by decide) ?_ | refine Q4 hB (by decide) ?_ | refine Q5 hB (by decide) ?_ | refine Q6 hB (by decide) ?_ | refine Q7 hB (by omega) (by omega) ?_ | refine Q8 hB ?_ | refine Q9 hB ?_ | refine Qa hB ?_ | refine Qb hB (fun _ => ?_) (fun _ => ?_) | refine Qc hB ?_ | refine Qd hB ?_ | refine Qe hB ?_ | refine Qf hB ?_ | refine Qg hB ?_ | refine Qh hB ?_ | refine Qi hB ?_ | refine Qj hB rfl ?_ | refine Qk hB rfl ?_ | refine Ql hB (by first | omega | decide) ?_ | refine Qm hB rfl ?_ | refine Qn hB ?_ | refine Qo hB rfl ?_ | refine Qo hB (Qp rfl) ?_ | refine Qq hB rfl ?_ | refine Qr hB ?_ | refine Qs hB ?_ | refine Qt hB ?_ | refine Qu hB ?_ | refine Qv hB rfl ?_) <;> conv => lhs; whnf)
          rw [cf_skip h hsb] at k1
          simp only [cf_skip h hsb] at k2
          rw [clampTok_pur htk]
          exact ih (i0 + 1) T (by omega) (by omega) (fun x hx => by have := hlt x hx; omega) k1 k2
        · have hz1 : ∀ {g : Fr}, 0 < (g :: s : St).length := fun {_} => by simp
          have hnl : (nats l).length ≤ 1000 := by unfold nats; rw [List.length_map]; omega
          have hlen : AV.os (D + 1) 1 0 (unsB d.bs (inL l)).length 5 = AV.os (D + 1) 1 0 (unsB d.bs (inL (l ++ [i0]))).length 5 := by rw [unsB_len, unsB_len]
          have hlt2 : ∀ (g g' : Fr), D + 1 < (g :: g' :: s : St).length := fun _ _ => by simp [hD]
          repeat' ((first | refine Qw hB ?_ | refine Qv hB htk ?_ | refine Qv hB hd.tp ?_ | refine Qv hB htv ?_ | refine QB hB hxb ?_ | refine Qf hB ?_ | refine Qo hB (Nat.ble_eq_true_of_le hroom) ?_ | refine Qz hB (hl2 _ _) ((getObj_sub (hl0 _)).trans ((getObj_top hD).trans rfl)) ?_ | refine Qz hB (hl2 _ _) ((getObj_top (hl1 _)).trans rfl) ?_ | refine QA hB (hl2 _ _) (setTop0 (hl1 _)) ?_ | refine QC hB (m := i0) rfl ?_ | refine fbool_same hB (by omega) ?_ | refine fbool_other hB (by omega) ?_ | refine Qo hB (Nat.ble_eq_true_of_le (by omega)) ?_ | refine appo_step hB (appo_bx (hl1 _) ((hv0.up _).up _) hne hub) ?_ | refine Qo hB (bflat_room hroom) ?_ | refine Qk hB ((bflat_put hb false).trans (congrArg bflat (uns_set hb))) ?_ | refine QA hB (hl2 _ _) (setTop1 (hl1 _)) ?_ | refine Qz hB (hl2 _ _) ((getObj_sub hz1).trans ((getObj_sub h0).trans hS)) ?_ | refine add_step hB (by simp only [Int.ofNat_eq_natCast]; omega) (by simp only [Int.ofNat_eq_natCast]; omega) ?_ | refine Qm hB (slice_pur (nats l)) ?_ | refine Qq hB (app_up hD (ftok_or tk) (i0 : Int) hnl) ?_ | refine fst_step hB rfl ?_ | refine Qv hB (wtk_pur _) ?_ | refine tokE_step hB ?_ | refine HC i0 _ _ _ _ _ h hlt (.inr ⟨D + 1, 1, hlen, hlt2 _ _, (getObj_top (hl1 _)).trans rfl⟩) (fun x e => ?_) (fun e x t ht => ?_) | refine Q0 hB rfl ?_ | refine Q1 hB (by decide) ?_ | refine Q2 hB (by decide) ?_ | refine Q3 hB (by decide) ?_ | refine Q4 hB (by decide) ?_ | refine Q5 hB (by decide) ?_ | refine Q6 hB (by decide) ?_ | refine Q7 hB (by omega) (by omega) ?_ | refine Q8 hB ?_ | refine Q9 hB ?_ | refine Qa hB ?_ | refine Qb hB (fun _ => ?_) (fun _ => ?_) | refine Qc hB ?_ | refine Qd hB ?_ | refine Qe hB ?_ | refine Qf hB ?_ | refine Qg hB ?_ | refine Qh hB ?_ | refine Qi hB ?_ | refine Qj hB rfl ?_ | refine Qk hB rfl ?_ | refine Ql hB (by first | omega | decide) ?_ | refine Qm hB rfl ?_ | refine Qn hB ?_ | refine Qo hB rfl ?_ | refine Qo hB (Qp rfl) ?_ | refine Qq hB rfl ?_ | refine Qr hB ?_ | refine Qs hB ?_ | refine Qt hB ?_ | refine Qu hB ?_ | refine Qv hB rfl ?_) <;> conv => lhs; whnf)
          · rw [clampTok_pur htk, clampTok_pur (wtk_pur x)]
            exact k2 x (cf_some h hsb e) _ _
          · rw [cf_none h hsb e] at k1
            simp only [cf_none h hsb e] at k2
            rw [clampTok_pur htk]
            exact ih (i0 + 1) _ (by omega) (by omega) (fun x hx => by have := hlt x hx; omega) k1 k2
      · repeat' ((first | refine Qw hB ?_ | refine Qv hB htk ?_ | refine Qv hB hd.tp ?_ | refine Qv hB htv ?_ | refine Qf hB ?_ | refine Qz hB (hl2 _ _) ((getObj_sub (hl0 _)).trans ((getObj_top hD).trans rfl)) ?_ | refine Qz hB (hl2 _ _) ((getObj_top (hl1 _)).trans rfl) ?_ | refine QA hB (hl2 _ _) (setTop0 (hl1 _)) ?_ | refine QC hB (m := i0) rfl ?_ | refine fbool_same hB (by omega) ?_ | refine fbool_other hB (by omega) ?_ | refine Qo hB (Nat.ble_eq_true_of_le (by omega)) ?_ | refine Q0 hB rfl ?_ | refine Q1 hB (by decide) ?_ | refine Q2 hB (by decide) ?_ | refine Q3 hB (by decide) ?_ | refine Q4 hB (by decide) ?_ | refine Q5 hB (by decide) ?_ | refine Q6 hB (by decide) ?_ | refine Q7 hB (by omega) (by omega) ?_ | refine Q8 hB ?_ | refine Q9 hB ?_ | refine Qa hB ?_ | refine Qb hB (fun _ => ?_) (fun _ => ?_) | refine Qc hB ?_ | refine Qd hB ?_ | refine Qe hB ?_ | refine Qf hB ?_ | refine Qg hB ?_ | refine Qh hB ?_ | refine Qi hB ?_ | refine Qj hB rfl ?_ | refine Qk hB rfl ?_ | refine Ql hB (by first | omega | decide) ?_ | refine Qm hB rfl ?_ | refine Qn hB ?_ | refine Qo hB rfl ?_ | refine Qo hB (Qp rfl) ?_ | refine Qq hB rfl ?_ | refine Qr hB ?_ | refine Qs hB ?_ | refine Qt hB ?_ | refine Qu hB ?_ | refine Qv hB rfl ?_) <;> conv => lhs; whnf)
        rw [clampTok_pur htk]
        exact k1 (cf_end (by omega)) _ _
    · have hlv1 : ∀ (g : Fr), lv < (g :: s : St).length := fun _ => by simp; omega
      conv => lhs; whnf
      repeat' ((first | refine Qw hB ?_ | refine Qv hB htk ?_ | refine Qv hB hd.tp ?_ | refine Qn hB ?_ | refine Qz hB (hl2 _ _) ((getObj_sub (hl0 _)).trans ((getObj_top hD).trans rfl)) ?_ | refine Qz hB (hl2 _ _) ((getObj_top (hl1 _)).trans rfl) ?_ | refine QA hB (hl2 _ _) (setTop0 (hl1 _)) ?_ | refine QC hB (m := i0) rfl ?_ | refine fbool_same hB (by omega) ?_ | refine fbool_other hB (by omega) ?_ | refine Qo hB (Nat.ble_eq_true_of_le (by omega)) ?_ | refine Q0 hB rfl ?_ | refine Q1 hB (by decide) ?_ | refine Q2 hB (by decide) ?_ | refine Q3 hB (by decide) ?_ | refine Q4 hB (by decide) ?_ | refine Q5 hB (by decide) ?_ | refine Q6 hB (by decide) ?_ | refine Q7 hB (by omega) (by omega) ?_ | refine Q8 hB ?_ | refine Q9 hB ?_ | refine Qa hB ?_ | refine Qb hB (fun _ => ?_) (fun _ => ?_) | refine Qc hB ?_ | refine Qd hB ?_ | refine Qe hB ?_ | refine Qf hB ?_ | refine Qg hB ?_ | refine Qh hB ?_ | refine Qi hB ?_ | refine Qj hB rfl ?_ | refine Qk hB rfl ?_ | refine Ql hB (by first | omega | decide) ?_ | refine Qm hB rfl ?_ | refine Qn hB ?_ | refine Qo hB rfl ?_ | refine Qo hB (Qp rfl) ?_ | refine Qq hB rfl ?_ | refine Qr hB ?_ | refine Qs hB ?_ | refine Qt hB ?_ | refine Qu hB ?_ | refine Qv hB rfl ?_) <;> conv => lhs; whnf)
      refine lt_nat hB (fun h => ?_) (fun h => ?_) <;> rw [unsB_len] at h <;> conv => lhs; whnf
      · obtain ⟨b, hb, hsb⟩ := hbox h
        have hxb : ((unsB d.bs (inL l)).map Box.c)[i0]? = some b.c := by simp [hb]
        have hne := hne.resolve_right (by omega)
        have hroom : i0 + 1 ≤ (unsB d.bs (inL l)).length := by rw [unsB_len]; exact h
        rcases b with ⟨b1, b2, b3, b4, b5⟩
        cases b5
        · repeat' ((first | refine Qw hB ?_ | refine Qv hB htk ?_ | refine Qv hB hd.tp ?_ | refine Qz hB (hl2 _ _) ((getObj_sub (hlv1 _)).trans ((getObj_sub hlv).trans hgv)) ?_ | refine Qj hB (bflat_drop hb) ?_ | refine Qo hB (Nat.ble_eq_true_of_le hroom) ?_ | refine Qz hB (hl2 _ _) ((getObj_sub (hl0 _)).trans ((getObj_top hD).trans rfl)) ?_ | refine Qz hB (hl2 _ _) ((getObj_top (hl1 _)).trans rfl) ?_ | refine QA hB (hl2 _ _) (setTop0 (hl1 _)) ?_ | refine QC hB (m := i0) rfl ?_ | refine fbool_same hB (by omega) ?_ | refine fbool_other hB (by omega) ?_ | refine Qo hB (Nat.ble_eq_true_of_le (by omega)) ?_ | refine Q0 hB rfl ?_ | refine Q1 hB (by decide) ?_ | refine Q2 hB (by decide) ?_ | refine Q3 hB (by decide) ?_ | refine Q4 hB (by decide) ?_ | refine Q5 hB (by decide) ?_ | refine Q6 hB (by decide) ?_ | refine Q7 hB (by omega) (by omega) ?_ | refine Q8 hB ?_ | refine Q9 hB ?_ | refine Qa hB ?_ | refine Qb hB (fun _ => ?_) (fun _ => ?_) | refine Qc hB ?_ | refine Qd hB ?_ | refine Qe hB ?_ | refine Qf hB ?_ | refine Qg hB ?_ | refine Qh hB ?_ | refine Qi hB ?_ | refine Qj hB rfl ?_ | refine Qk hB rfl ?_ | refine Ql hB (by first | omega | decide) ?_ | refine Qm hB rfl ?_ | refine Qn hB ?_ | refine Qo hB rfl ?_ | refine Qo hB (Qp rfl) ?_ | refine Qq hB rfl ?_ | refine Qr hB ?_ | refine Qs hB ?_ | refine Qt hB ?_ | refine Qu hB ?_ | refine Qv hB rfl ?_) <;> conv => lhs; whnf)
          rw [cf_skip h hsb] at k1
          simp only [cf_skip h hsb] at k2
          rw [clampTok_pur htk]
          exact ih (i0 + 1) T (by omega) (by omega) (fun x hx => by have := hlt x hx; omega) k1 k2
        · have hz1 : ∀ {g : Fr}, 0 < (g :: s : St).length := fun {_} => by simp
          have hnl : (nats l).length ≤ 1000 := by unfold nats; rw [List.length_map]; omega
          have hlen : AV.os (D + 1) 1 0 (unsB d.bs (inL l)).length 5 = AV.os (D + 1) 1 0 (unsB d.bs (inL (l ++ [i0]))).length 5 := by rw [unsB_len, unsB_len]
          have hlt2 : ∀ (g g' : Fr), D + 1 < (g :: g' :: s : St).length := fun _ _ => by simp [hD]
          repeat' ((first | refine Qw hB ?_ | refine Qv hB htk ?_ | refine Qv hB hd.tp ?_ | refine Qz hB (hl2 _ _) ((getObj_sub (hlv1 _)).trans ((getObj_sub hlv).trans hgv)) ?_ | refine Qj hB (bflat_drop hb) ?_ | refine Qo hB (Nat.ble_eq_true_of_le hroom) ?_ | refine Qz hB (hl2 _ _) ((getObj_sub (hl0 _)).trans ((getObj_top hD).trans rfl)) ?_ | refine Qz hB (hl2 _ _) ((getObj_top (hl1 _)).trans rfl) ?_ | refine QA hB (hl2 _ _) (setTop0 (hl1 _)) ?_ | refine QC hB (m := i0) rfl ?_ | refine fbool_same hB (by omega) ?_ | refine fbool_other hB (by omega) ?_ | refine Qo hB (Nat.ble_eq_true_of_le (by omega)) ?_ | refine appo_step hB (appo_bx (hl1 _) ((hv0.up _).up _) hne hub) ?_ | refine Qo hB (bflat_room hroom) ?_ | refine Qk hB ((bflat_put hb false).trans (congrArg bflat (uns_set hb))) ?_ | refine QA hB (hl2 _ _) (setTop1 (hl1 _)) ?_ | refine Qz hB (hl2 _ _) ((getObj_sub hz1).trans ((getObj_sub h0).trans hS)) ?_ | refine add_step hB (by simp only [Int.ofNat_eq_natCast]; omega) (by simp only [Int.ofNat_eq_natCast]; omega) ?_ | refine Qm hB (slice_pur (nats l)) ?_ | refine Qq hB (app_up hD (ftok_or tk) (i0 : Int) hnl) ?_ | refine fst_step hB rfl ?_ | refine Qv hB (wtk_pur _) ?_ | refine tokE_step hB ?_ | refine HC i0 _ _ _ _ _ h hlt (.inr ⟨D + 1, 1, hlen, hlt2 _ _, (getObj_top (hl1 _)).trans rfl⟩) (fun x e => ?_) (fun e x t ht => ?_) | refine Q0 hB rfl ?_ | refine Q1 hB (by decide) ?_ | refine Q2 hB (by decide) ?_ | refine Q3 hB (by decide) ?_ | refine Q4 hB (by decide) ?_ | refine Q5 hB (by decide) ?_ | refine Q6 hB (by decide) ?_ | refine Q7 hB (by omega) (by omega) ?_ | refine Q8 hB ?_ | refine Q9 hB ?_ | refine Qa hB ?_ | refine Qb hB (fun _ => ?_) (fun _ => ?_) | refine Qc hB ?_ | refine Qd hB ?_ | refine Qe hB ?_ | refine Qf hB ?_ | refine Qg hB ?_ | refine Qh hB ?_ | refine Qi hB ?_ | refine Qj hB rfl ?_ | refine Qk hB rfl ?_ | refine Ql hB (by first | omega | decide) ?_ | refine Qm hB rfl ?_ | refine Qn hB ?_ | refine Qo hB rfl ?_ | refine Qo hB (Qp rfl) ?_ | refine Qq hB rfl ?_ | refine Qr hB ?_ | refine Qs hB ?_ | refine Qt hB ?_ | refine Qu hB ?_ | refine Qv hB rfl ?_) <;> conv => lhs; whnf)
          · rw [clampTok_pur htk, clampTok_pur (wtk_pur x)]
            exact k2 x (cf_some h hsb e) _ _
          · rw [cf_none h hsb e] at k1
            simp only [cf_none h hsb e] at k2
            rw [clampTok_pur htk]
            exact ih (i0 + 1) _ (by omega) (by omega) (fun x hx => by have := hlt x hx; omega) k1 k2
      · repeat' ((first | refine Qw hB ?_ | refine Qv hB htk ?_ | refine Qv hB hd.tp ?_ | refine Qn hB ?_ | refine Qz hB (hl2 _ _) ((getObj_sub (hl0 _)).trans ((getObj_top hD).trans rfl)) ?_ | refine Qz hB (hl2 _ _) ((getObj_top (hl1 _)).trans rfl) ?_ | refine QA hB (hl2 _ _) (setTop0 (hl1 _)) ?_ | refine QC hB (m := i0) rfl ?_ | refine fbool_same hB (by omega) ?_ | refine fbool_other hB (by omega) ?_ | refine Qo hB (Nat.ble_eq_true_of_le (by omega)) ?_ | refine Q0 hB rfl ?_ | refine Q1 hB (by decide) ?_ | refine Q2 hB (by decide) ?_ | refine Q3 hB (by decide) ?_ | refine Q4 hB (by decide) ?_ | refine Q5 hB (by decide) ?_ | refine Q6 hB (by decide) ?_ | refine Q7 hB (by omega) (by omega) ?_ | refine Q8 hB ?_ | refine Q9 hB ?_ | refine Qa hB ?_ | refine Qb hB (fun _ => ?_) (fun _ => ?_) | refine Qc hB ?_ | refine Qd hB ?_ | refine Qe hB ?_ | refine Qf hB ?_ | refine Qg hB ?_ | refine Qh hB ?_ | refine Qi hB ?_ | refine Qj hB rfl ?_ | refine Qk hB rfl ?_ | refine Ql hB (by first | omega | decide) ?_ | refine Qm hB rfl ?_ | refine Qn hB ?_ | refine Qo hB rfl ?_ | refine Qo hB (Qp rfl) ?_ | refine Qq hB rfl ?_ | refine Qr hB ?_ | refine Qs hB ?_ | refine Qt hB ?_ | refine Qu hB ?_ | refine Qv hB rfl ?_) <;> conv => lhs; whnf)
        rw [clampTok_pur htk]
        exact k1 (cf_end (by omega)) _ _
end Go.Ab.Cl
