/-
  The claims: plain desks, and what the small functions of the program say of them.
-/
import Derived.Test.YthbekoofiienjaaDoorCodeY
import Derived.Test.YthbekoofiienjaaDoorAbSym
namespace Go.Ab.Cl
open Go.Ab

def within (a b c : Int) : Bool := decide (b ≤ a) && decide (a ≤ c)
def isSpan (a b c d : Int) : Bool := decide (c ≤ a) && decide (a ≤ b) && decide (b ≤ d)
structure Parcel where
  day : Int
  weight : Int
  mark : Int
  value : Int
def Parcel.c (p : Parcel) : List AV := [.int .i64 p.day, .int .i64 p.weight, .int .i64 p.mark, .int .i64 p.value]
structure Box where
  day : Int
  low : Int
  high : Int
  mark : List UInt8
  stamp : Bool
def Box.c (b : Box) : List AV := [.int .i64 b.day, .int .i64 b.low, .int .i64 b.high, .str b.mark, .bool b.stamp]
structure Desk where
  lo : Int
  hi : Int
  wear : Int
  strange : Int
  ps : List Parcel
  bs : List Box
  tp : Tok
  tb : Tok
def Desk.c (d : Desk) : List AV := [.int .i64 d.lo, .int .i64 d.hi, .int .i64 d.wear, .int .i64 d.strange, .sl (d.ps.map Parcel.c) d.tp, .sl (d.bs.map Box.c) d.tb]
def Desk.v (d : Desk) : AV := .agg d.c
structure Desk.ok (d : Desk) : Prop where
  tp : purTok d.tp = true
  tb : purTok d.tb = true
  ps : d.ps.length ≤ 200000000000000
  bs : d.bs.length ≤ 200000000000000
  str : ∀ b ∈ d.bs, b.mark.length ≤ 1000000000000000

def okParcel (p : Parcel) : Bool := within p.day 0 4000 && within p.weight 0 50000 && within p.mark 0 9999 && within p.value 0 100000
def okDigit (b : UInt8) : Bool := decide ((b.toNat : Int) = 63) || within b.toNat 48 57
def okSeal (s : List UInt8) : Bool := (s.isEmpty || s.length == 4) && s.all okDigit
def okBox (b : Box) : Bool := within b.day 0 4000 && isSpan b.low b.high 0 50000 && okSeal b.mark
def Desk.check (d : Desk) : Bool := isSpan d.lo d.hi 0 400 && within d.wear 0 5000 && within d.strange 0 6 && decide (d.ps.length ≤ 8) && decide (d.bs.length ≤ 6) && d.ps.all okParcel && d.bs.all okBox

theorem within_ev {G : Nat → List AV} {n : Nat} (hn : 1 ≤ n) (a b c : Int) : (evKR Bk G fsT n).1 0 58 [.int .i64 a, .int .i64 b, .int .i64 c] [] ansK = some (.bool (within a b c), []) := by
  refine call_open (show fsT.find 58 = some a58 from rfl) (by omega) fun n B cl rd hn' hB hcl hrd => ?_
  conv => lhs; whnf
  repeat' ((first | refine le_split hB (fun _ => ?_) (fun _ => ?_) | refine Q0 hB rfl ?_ | refine Q1 hB (by decide) ?_ | refine Q2 hB (by decide) ?_ | refine Q3 hB (by decide) ?_ | refine Q4 hB (by decide) ?_ | refine Q5 hB (by decide) ?_ | refine Q6 hB (by decide) ?_ | refine Q7 hB (by omega) (by omega) ?_ | refine Q8 hB ?_ | refine Q9 hB ?_ | refine Qa hB ?_ | refine Qb hB (fun _ => ?_) (fun _ => ?_) | refine Qc hB ?_ | refine Qd hB ?_ | refine Qe hB ?_ | refine Qf hB ?_ | refine Qg hB ?_ | refine Qh hB ?_ | refine Qi hB ?_ | refine Qj hB rfl ?_ | refine Qk hB rfl ?_ | refine Ql hB (by first | omega | decide) ?_ | refine Qm hB rfl ?_ | refine Qn hB ?_ | refine Qo hB rfl ?_ | refine Qo hB (Qp rfl) ?_ | refine Qq hB rfl ?_ | refine Qr hB ?_ | refine Qs hB ?_ | refine Qt hB ?_ | refine Qu hB ?_ | refine Qv hB rfl ?_) <;> conv => lhs; whnf)
  all_goals simp_all [within] <;> omega

theorem isSpan_ev {G : Nat → List AV} {n : Nat} (hn : 1 ≤ n) (a b c d : Int) : (evKR Bk G fsT n).1 0 57 [.agg [.int .i64 a, .int .i64 b], .int .i64 c, .int .i64 d] [] ansK = some (.bool (isSpan a b c d), []) := by
  refine call_open (show fsT.find 57 = some a57 from rfl) (by omega) fun n B cl rd hn' hB hcl hrd => ?_
  conv => lhs; whnf
  repeat' ((first | refine le_split hB (fun _ => ?_) (fun _ => ?_) | refine Q0 hB rfl ?_ | refine Q1 hB (by decide) ?_ | refine Q2 hB (by decide) ?_ | refine Q3 hB (by decide) ?_ | refine Q4 hB (by decide) ?_ | refine Q5 hB (by decide) ?_ | refine Q6 hB (by decide) ?_ | refine Q7 hB (by omega) (by omega) ?_ | refine Q8 hB ?_ | refine Q9 hB ?_ | refine Qa hB ?_ | refine Qb hB (fun _ => ?_) (fun _ => ?_) | refine Qc hB ?_ | refine Qd hB ?_ | refine Qe hB ?_ | refine Qf hB ?_ | refine Qg hB ?_ | refine Qh hB ?_ | refine Qi hB ?_ | refine Qj hB rfl ?_ | refine Qk hB rfl ?_ | refine Ql hB (by first | omega | decide) ?_ | refine Qm hB rfl ?_ | refine Qn hB ?_ | refine Qo hB rfl ?_ | refine Qo hB (Qp rfl) ?_ | refine Qq hB rfl ?_ | refine Qr hB ?_ | refine Qs hB ?_ | refine Qt hB ?_ | refine Qu hB ?_ | refine Qv hB rfl ?_) <;> conv => lhs; whnf)
  all_goals simp_all [isSpan] <;> omega

theorem a59_L1_step {G : Nat → List AV} {B : Bnd} (hB : B = Bk) {cl : CallK} {rd : RoundK} (H58 : ∀ a b c : Int, cl 0 58 [.int .i64 a, .int .i64 b, .int .i64 c] [] ansK = some (.bool (within a b c), [])) (m : List UInt8) (hlen : m.length ≤ 9223372036854775806) (n : Nat) (s : St) (k : Ex → Env → St → Ans) (r : Ans) :
    ∀ (j i : Nat), m.length < i + j → i ≤ m.length →
    ((m.drop i).all okDigit = true → k (.exit 0) [(0, .str m), (2, .bool false), (12, .int .i64 (.ofNat m.length)), (13, .int .i64 (.ofNat m.length))] s = r) →
    ((m.drop i).all okDigit = false → ∀ i', k .ret [(0, .str m), (2, .bool false), (12, .int .i64 (.ofNat m.length)), (13, .int .i64 (.ofNat i'))] s = r) →
    B.loop (evCK B a59_L1) [0, 2, 12, 13] n j cl rd G 0 1 [(0, .str m), (2, .bool false), (12, .int .i64 (.ofNat m.length)), (13, .int .i64 (.ofNat i))] s k = r := by
  intro j
  induction j with
  | zero => intro i h1 h2; omega
  | succ j ih =>
    intro i h1 h2 k1 k2
    refine loop_succ hB ?_
    conv => lhs; whnf
    refine lt_nat hB (fun h => ?_) (fun h => ?_) <;> conv => lhs; whnf
    · have hx : m[i]? = some m[i] := by simp [h]
      have hd : m.drop i = m[i] :: m.drop (i + 1) := List.drop_eq_getElem_cons h
      rw [hd] at k1 k2
      generalize m[i] = b at hx k1 k2
      repeat' ((first | refine Qy hB (H58 _ _ _) (fun _ => ?_) (fun _ => ?_) | refine QC hB (m := i) rfl ?_ | refine nthb_step hB hx ?_ | refine Qi hB ?_ | refine eq_split hB (fun _ => ?_) (fun _ => ?_) | refine Q0 hB rfl ?_ | refine Q1 hB (by decide) ?_ | refine Q2 hB (by decide) ?_ | refine Q3 hB (by decide) ?_ | refine Q4 hB (by decide) ?_ | refine Q5 hB (by decide) ?_ | refine Q6 hB (by decide) ?_ | refine Q7 hB (by omega) (by omega) ?_ | refine Q8 hB ?_ | refine Q9 hB ?_ | refine Qa hB ?_ | refine Qb hB (fun _ => ?_) (fun _ => ?_) | refine Qc hB ?_ | refine Qd hB ?_ | refine Qe hB ?_ | refine Qf hB ?_ | refine Qg hB ?_ | refine Qh hB ?_ | refine Qi hB ?_ | refine Qj hB rfl ?_ | refine Qk hB rfl ?_ | refine Ql hB (by first | omega | decide) ?_ | refine Qm hB rfl ?_ | refine Qn hB ?_ | refine Qo hB rfl ?_ | refine Qo hB (Qp rfl) ?_ | refine Qq hB rfl ?_ | refine Qr hB ?_ | refine Qs hB ?_ | refine Qt hB ?_ | refine Qu hB ?_ | refine Qv hB rfl ?_) <;> conv => lhs; whnf)
      · have hb : okDigit b = true := by clear ih k1 k2; simp_all [okDigit]
        exact ih (i + 1) (by omega) (by omega) (fun h => k1 (by rw [List.all_cons, hb, h]; rfl)) (fun h => k2 (by rw [List.all_cons, hb, h]; rfl))
      · have hb : okDigit b = true := by clear ih k1 k2; simp_all [okDigit]
        exact ih (i + 1) (by omega) (by omega) (fun h => k1 (by rw [List.all_cons, hb, h]; rfl)) (fun h => k2 (by rw [List.all_cons, hb, h]; rfl))
      · have hb : okDigit b = false := by clear ih k1 k2; simp_all [okDigit]
        exact k2 (by rw [List.all_cons, hb]; rfl) i
    · repeat' ((first | refine Q0 hB rfl ?_ | refine Q1 hB (by decide) ?_ | refine Q2 hB (by decide) ?_ | refine Q3 hB (by decide) ?_ | refine Q4 hB (by decide) ?_ | refine Q5 hB (by decide) ?_ | refine Q6 hB (by decide) ?_ | refine Q7 hB (by omega) (by omega) ?_ | refine Q8 hB ?_ | refine Q9 hB ?_ | refine Qa hB ?_ | refine Qb hB (fun _ => ?_) (fun _ => ?_) | refine Qc hB ?_ | refine Qd hB ?_ | refine Qe hB ?_ | refine Qf hB ?_ | refine Qg hB ?_ | refine Qh hB ?_ | refine Qi hB ?_ | refine Qj hB rfl ?_ | refine Qk hB rfl ?_ | refine Ql hB (by first | omega | decide) ?_ | refine Qm hB rfl ?_ | refine Qn hB ?_ | refine Qo hB rfl ?_ | refine Qo hB (Qp rfl) ?_ | refine Qq hB rfl ?_ | refine Qr hB ?_ | refine Qs hB ?_ | refine Qt hB ?_ | refine Qu hB ?_ | refine Qv hB rfl ?_) <;> conv => lhs; whnf)
      have : i = m.length := by omega
      subst this
      exact k1 (by simp)

theorem isSeal_ev {G : Nat → List AV} {n : Nat} (m : List UInt8) (hl : m.length ≤ 1000000000000000) (hn : m.length + 2 ≤ n) : (evKR Bk G fsT n).1 0 59 [.str m] [] ansK = some (.bool (okSeal m), []) := by
  refine call_open (show fsT.find 59 = some a59 from rfl) (by omega) fun n B cl rd hn' hB hcl hrd => ?_
  have H58 := fun a b c => within_ev (G := G) (n := n) (by omega) a b c
  rw [← hcl] at H58
  conv => lhs; whnf
  repeat' ((first | refine eq_split hB (fun _ => ?_) (fun _ => ?_) | refine a59_L1_step hB H58 m (by omega) _ _ _ _ _ 0 (by omega) (by omega) (fun _ => ?_) (fun _ _ => ?_) | refine Q0 hB rfl ?_ | refine Q1 hB (by decide) ?_ | refine Q2 hB (by decide) ?_ | refine Q3 hB (by decide) ?_ | refine Q4 hB (by decide) ?_ | refine Q5 hB (by decide) ?_ | refine Q6 hB (by decide) ?_ | refine Q7 hB (by omega) (by omega) ?_ | refine Q8 hB ?_ | refine Q9 hB ?_ | refine Qa hB ?_ | refine Qb hB (fun _ => ?_) (fun _ => ?_) | refine Qc hB ?_ | refine Qd hB ?_ | refine Qe hB ?_ | refine Qf hB ?_ | refine Qg hB ?_ | refine Qh hB ?_ | refine Qi hB ?_ | refine Qj hB rfl ?_ | refine Qk hB rfl ?_ | refine Ql hB (by first | omega | decide) ?_ | refine Qm hB rfl ?_ | refine Qn hB ?_ | refine Qo hB rfl ?_ | refine Qo hB (Qp rfl) ?_ | refine Qq hB rfl ?_ | refine Qr hB ?_ | refine Qs hB ?_ | refine Qt hB ?_ | refine Qu hB ?_ | refine Qv hB rfl ?_) <;> conv => lhs; whnf)
  all_goals
    have hc : ((m.length : Int) = 4) ↔ m.length = 4 := by omega
    simp_all [okSeal]

theorem a15_L1_step {G : Nat → List AV} {B : Bnd} (hB : B = Bk) {cl : CallK} {rd : RoundK} (H58 : ∀ a b c : Int, cl 0 58 [.int .i64 a, .int .i64 b, .int .i64 c] [] ansK = some (.bool (within a b c), [])) (ps : List Parcel) (hlen : ps.length ≤ 9223372036854775806) {tp : Tok} (htp : purTok tp = true) (n : Nat) (s : St) (k : Ex → Env → St → Ans) (r : Ans) :
    ∀ (j i : Nat) (ok : Bool), ps.length < i + j → i ≤ ps.length →
    (k (.exit 0) [(1, .ptr 0 0 0), (3, .bool (ok && (ps.drop i).all okParcel)), (34, .sl (ps.map Parcel.c) tp), (35, .int .i64 (.ofNat ps.length)), (36, .int .i64 (.ofNat ps.length))] s = r) →
    B.loop (evCK B a15_L1) [1, 3, 34, 35, 36] n j cl rd G 0 1 [(1, .ptr 0 0 0), (3, .bool ok), (34, .sl (ps.map Parcel.c) tp), (35, .int .i64 (.ofNat ps.length)), (36, .int .i64 (.ofNat i))] s k = r := by
  intro j
  induction j with
  | zero => intro i ok h1 h2; omega
  | succ j ih =>
    intro i ok h1 h2 k1
    refine loop_succ hB ?_
    conv => lhs; whnf
    refine lt_nat hB (fun h => ?_) (fun h => ?_) <;> conv => lhs; whnf
    · have hx : (ps.map Parcel.c)[i]? = some (Parcel.c ps[i]) := by simp [h]
      have hd : ps.drop i = ps[i] :: ps.drop (i + 1) := List.drop_eq_getElem_cons h
      rw [hd] at k1
      generalize ps[i] = p at hx k1
      refine QC hB (m := i) rfl ?_
      conv => lhs; whnf
      refine QB hB hx ?_
      conv => lhs; whnf
      cases ok
      all_goals
        repeat' ((first | refine Qy hB (H58 _ _ _) (fun _ => ?_) (fun _ => ?_) | refine Q0 hB rfl ?_ | refine Q1 hB (by decide) ?_ | refine Q2 hB (by decide) ?_ | refine Q3 hB (by decide) ?_ | refine Q4 hB (by decide) ?_ | refine Q5 hB (by decide) ?_ | refine Q6 hB (by decide) ?_ | refine Q7 hB (by omega) (by omega) ?_ | refine Q8 hB ?_ | refine Q9 hB ?_ | refine Qa hB ?_ | refine Qb hB (fun _ => ?_) (fun _ => ?_) | refine Qc hB ?_ | refine Qd hB ?_ | refine Qe hB ?_ | refine Qf hB ?_ | refine Qg hB ?_ | refine Qh hB ?_ | refine Qi hB ?_ | refine Qj hB rfl ?_ | refine Qk hB rfl ?_ | refine Ql hB (by first | omega | decide) ?_ | refine Qm hB rfl ?_ | refine Qn hB ?_ | refine Qo hB rfl ?_ | refine Qo hB (Qp rfl) ?_ | refine Qq hB rfl ?_ | refine Qr hB ?_ | refine Qs hB ?_ | refine Qt hB ?_ | refine Qu hB ?_ | refine Qv hB rfl ?_) <;> conv => lhs; whnf)
      all_goals
        rw [clampTok_pur htp]
        refine ih (i + 1) _ (by omega) (by omega) ?_
        simp_all [okParcel]
    · repeat' ((first | refine Q0 hB rfl ?_ | refine Q1 hB (by decide) ?_ | refine Q2 hB (by decide) ?_ | refine Q3 hB (by decide) ?_ | refine Q4 hB (by decide) ?_ | refine Q5 hB (by decide) ?_ | refine Q6 hB (by decide) ?_ | refine Q7 hB (by omega) (by omega) ?_ | refine Q8 hB ?_ | refine Q9 hB ?_ | refine Qa hB ?_ | refine Qb hB (fun _ => ?_) (fun _ => ?_) | refine Qc hB ?_ | refine Qd hB ?_ | refine Qe hB ?_ | refine Qf hB ?_ | refine Qg hB ?_ | refine Qh hB ?_ | refine Qi hB ?_ | refine Qj hB rfl ?_ | refine Qk hB rfl ?_ | refine Ql hB (by first | omega | decide) ?_ | refine Qm hB rfl ?_ | refine Qn hB ?_ | refine Qo hB rfl ?_ | refine Qo hB (Qp rfl) ?_ | refine Qq hB rfl ?_ | refine Qr hB ?_ | refine Qs hB ?_ | refine Qt hB ?_ | refine Qu hB ?_ | refine Qv hB rfl ?_) <;> conv => lhs; whnf)
      have : i = ps.length := by omega
      subst this
      rw [clampTok_pur htp]
      simpa using k1

theorem a15_L2_step {G : Nat → List AV} {B : Bnd} (hB : B = Bk) {cl : CallK} {rd : RoundK} (H58 : ∀ a b c : Int, cl 0 58 [.int .i64 a, .int .i64 b, .int .i64 c] [] ansK = some (.bool (within a b c), []))
    (H57 : ∀ a b c d : Int, cl 0 57 [.agg [.int .i64 a, .int .i64 b], .int .i64 c, .int .i64 d] [] ansK = some (.bool (isSpan a b c d), []))
    (bs : List Box) (H59 : ∀ b ∈ bs, cl 0 59 [.str b.mark] [] ansK = some (.bool (okSeal b.mark), [])) (hlen : bs.length ≤ 9223372036854775806) {tb : Tok} (htb : purTok tb = true) (n : Nat) (s : St) (k : Ex → Env → St → Ans) (r : Ans) :
    ∀ (j i : Nat) (ok : Bool), bs.length < i + j → i ≤ bs.length →
    (k (.exit 2) [(3, .bool (ok && (bs.drop i).all okBox)), (63, .sl (bs.map Box.c) tb), (64, .int .i64 (.ofNat bs.length)), (65, .int .i64 (.ofNat bs.length))] s = r) →
    B.loop (evCK B a15_L2) [3, 63, 64, 65] n j cl rd G 0 1 [(3, .bool ok), (63, .sl (bs.map Box.c) tb), (64, .int .i64 (.ofNat bs.length)), (65, .int .i64 (.ofNat i))] s k = r := by
  intro j
  induction j with
  | zero => intro i ok h1 h2; omega
  | succ j ih =>
    intro i ok h1 h2 k1
    refine loop_succ hB ?_
    conv => lhs; whnf
    refine lt_nat hB (fun h => ?_) (fun h => ?_) <;> conv => lhs; whnf
    · have hx : (bs.map Box.c)[i]? = some (Box.c bs[i]) := by simp [h]
      have hd : bs.drop i = bs[i] :: bs.drop (i + 1) := List.drop_eq_getElem_cons h
      rw [hd] at k1
      have H59 := H59 bs[i] (List.getElem_mem h)
      generalize bs[i] = b at hx k1 H59
      refine QC hB (m := i) rfl ?_
      conv => lhs; whnf
      refine QB hB hx ?_
      conv => lhs; whnf
      cases ok
      all_goals
        repeat' ((first | refine Qy hB (H58 _ _ _) (fun _ => ?_) (fun _ => ?_) | refine Qy hB (H57 _ _ _ _) (fun _ => ?_) (fun _ => ?_) | refine Qy hB H59 (fun _ => ?_) (fun _ => ?_) | refine Q0 hB rfl ?_ | refine Q1 hB (by decide) ?_ | refine Q2 hB (by decide) ?_ | refine Q3 hB (by decide) ?_ | refine Q4 hB (by decide) ?_ | refine Q5 hB (by decide) ?_ | refine Q6 hB (by decide) ?_ | refine Q7 hB (by omega) (by omega) ?_ | refine Q8 hB ?_ | refine Q9 hB ?_ | refine Qa hB ?_ | refine Qb hB (fun _ => ?_) (fun _ => ?_) | refine Qc hB ?_ | refine Qd hB ?_ | refine Qe hB ?_ | refine Qf hB ?_ | refine Qg hB ?_ | refine Qh hB ?_ | refine Qi hB ?_ | refine Qj hB rfl ?_ | refine Qk hB rfl ?_ | refine Ql hB (by first | omega | decide) ?_ | refine Qm hB rfl ?_ | refine Qn hB ?_ | refine Qo hB rfl ?_ | refine Qo hB (Qp rfl) ?_ | refine Qq hB rfl ?_ | refine Qr hB ?_ | refine Qs hB ?_ | refine Qt hB ?_ | refine Qu hB ?_ | refine Qv hB rfl ?_) <;> conv => lhs; whnf)
      all_goals
        rw [clampTok_pur htb]
        refine ih (i + 1) _ (by omega) (by omega) ?_
        simp_all [okBox]
    · repeat' ((first | refine Q0 hB rfl ?_ | refine Q1 hB (by decide) ?_ | refine Q2 hB (by decide) ?_ | refine Q3 hB (by decide) ?_ | refine Q4 hB (by decide) ?_ | refine Q5 hB (by decide) ?_ | refine Q6 hB (by decide) ?_ | refine Q7 hB (by omega) (by omega) ?_ | refine Q8 hB ?_ | refine Q9 hB ?_ | refine Qa hB ?_ | refine Qb hB (fun _ => ?_) (fun _ => ?_) | refine Qc hB ?_ | refine Qd hB ?_ | refine Qe hB ?_ | refine Qf hB ?_ | refine Qg hB ?_ | refine Qh hB ?_ | refine Qi hB ?_ | refine Qj hB rfl ?_ | refine Qk hB rfl ?_ | refine Ql hB (by first | omega | decide) ?_ | refine Qm hB rfl ?_ | refine Qn hB ?_ | refine Qo hB rfl ?_ | refine Qo hB (Qp rfl) ?_ | refine Qq hB rfl ?_ | refine Qr hB ?_ | refine Qs hB ?_ | refine Qt hB ?_ | refine Qu hB ?_ | refine Qv hB rfl ?_) <;> conv => lhs; whnf)
      have : i = bs.length := by omega
      subst this
      rw [clampTok_pur htb]
      simpa using k1

theorem a15_L1_two {G : Nat → List AV} {B : Bnd} (hB : B = Bk) {cl : CallK} {rd : RoundK} (H58 : ∀ a b c : Int, cl 0 58 [.int .i64 a, .int .i64 b, .int .i64 c] [] ansK = some (.bool (within a b c), [])) (ps : List Parcel) (hlen : ps.length ≤ 9223372036854775806) {tp : Tok} (htp : purTok tp = true) (n : Nat) (s : St) (k : Ex → Env → St → Ans) (r : Ans) (j i : Nat) (ok : Bool) (hj : ps.length < i + j) (hi : i ≤ ps.length)
    (h1 : (ok && (ps.drop i).all okParcel) = true → k (.exit 0) [(1, .ptr 0 0 0), (3, .bool true), (34, .sl (ps.map Parcel.c) tp), (35, .int .i64 (.ofNat ps.length)), (36, .int .i64 (.ofNat ps.length))] s = r)
    (h2 : (ok && (ps.drop i).all okParcel) = false → k (.exit 0) [(1, .ptr 0 0 0), (3, .bool false), (34, .sl (ps.map Parcel.c) tp), (35, .int .i64 (.ofNat ps.length)), (36, .int .i64 (.ofNat ps.length))] s = r) :
    B.loop (evCK B a15_L1) [1, 3, 34, 35, 36] n j cl rd G 0 1 [(1, .ptr 0 0 0), (3, .bool ok), (34, .sl (ps.map Parcel.c) tp), (35, .int .i64 (.ofNat ps.length)), (36, .int .i64 (.ofNat i))] s k = r := by
  refine a15_L1_step hB H58 ps hlen htp n s k r j i ok hj hi ?_
  cases h : (ok && (ps.drop i).all okParcel)
  · exact h2 h
  · exact h1 h
theorem a15_L2_two {G : Nat → List AV} {B : Bnd} (hB : B = Bk) {cl : CallK} {rd : RoundK} (H58 : ∀ a b c : Int, cl 0 58 [.int .i64 a, .int .i64 b, .int .i64 c] [] ansK = some (.bool (within a b c), []))
    (H57 : ∀ a b c d : Int, cl 0 57 [.agg [.int .i64 a, .int .i64 b], .int .i64 c, .int .i64 d] [] ansK = some (.bool (isSpan a b c d), []))
    (bs : List Box) (H59 : ∀ b ∈ bs, cl 0 59 [.str b.mark] [] ansK = some (.bool (okSeal b.mark), [])) (hlen : bs.length ≤ 9223372036854775806) {tb : Tok} (htb : purTok tb = true) (n : Nat) (s : St) (k : Ex → Env → St → Ans) (r : Ans) (j i : Nat) (ok : Bool) (hj : bs.length < i + j) (hi : i ≤ bs.length)
    (h1 : (ok && (bs.drop i).all okBox) = true → k (.exit 2) [(3, .bool true), (63, .sl (bs.map Box.c) tb), (64, .int .i64 (.ofNat bs.length)), (65, .int .i64 (.ofNat bs.length))] s = r)
    (h2 : (ok && (bs.drop i).all okBox) = false → k (.exit 2) [(3, .bool false), (63, .sl (bs.map Box.c) tb), (64, .int .i64 (.ofNat bs.length)), (65, .int .i64 (.ofNat bs.length))] s = r) :
    B.loop (evCK B a15_L2) [3, 63, 64, 65] n j cl rd G 0 1 [(3, .bool ok), (63, .sl (bs.map Box.c) tb), (64, .int .i64 (.ofNat bs.length)), (65, .int .i64 (.ofNat i))] s k = r := by
  refine a15_L2_step hB H58 H57 bs H59 hlen htb n s k r j i ok hj hi ?_
  cases h : (ok && (bs.drop i).all okBox)
  · exact h2 h
  · exact h1 h

theorem Check_ev {G : Nat → List AV} {n : Nat} (d : Desk) (hd : d.ok) (hn : 1000000000000004 ≤ n) : (evKR Bk G fsT n).1 0 15 [d.v] [] ansK = some (.int .i64 (if d.check = true then 0 else 90), []) := by
  refine call_open (show fsT.find 15 = some a15 from rfl) (by omega) fun n B cl rd hn' hB hcl hrd => ?_
  have H58 := fun a b c => within_ev (G := G) (n := n) (by omega) a b c
  have H57 := fun a b c e => isSpan_ev (G := G) (n := n) (by omega) a b c e
  rw [← hcl] at H58 H57
  have H59 : ∀ b ∈ d.bs, cl 0 59 [.str b.mark] [] ansK = some (.bool (okSeal b.mark), []) := fun b hb => by
    rw [hcl]; exact isSeal_ev (G := G) (n := n) b.mark (hd.str b hb) (by have := hd.str b hb; omega)
  have h1 := hd.ps
  have h2 := hd.bs
  conv => lhs; whnf
  repeat' ((first | refine Qy hB (H58 _ _ _) (fun _ => ?_) (fun _ => ?_) | refine Qy hB (H57 _ _ _ _) (fun _ => ?_) (fun _ => ?_) | refine le_split hB (fun _ => ?_) (fun _ => ?_) | refine a15_L1_two hB H58 d.ps (by omega) (purTok_clamp hd.tp) _ _ _ _ _ 0 _ (by omega) (by omega) (fun _ => ?_) (fun _ => ?_) | refine a15_L2_two hB H58 H57 d.bs H59 (by omega) (purTok_clamp hd.tb) _ _ _ _ _ 0 _ (by omega) (by omega) (fun _ => ?_) (fun _ => ?_) | refine Q0 hB rfl ?_ | refine Q1 hB (by decide) ?_ | refine Q2 hB (by decide) ?_ | refine Q3 hB (by decide) ?_ | refine Q4 hB (by decide) ?_ | refine Q5 hB (by decide) ?_ | refine Q6 hB (by decide) ?_ | refine Q7 hB (by omega) (by omega) ?_ | refine Q8 hB ?_ | refine Q9 hB ?_ | refine Qa hB ?_ | refine Qb hB (fun _ => ?_) (fun _ => ?_) | refine Qc hB ?_ | refine Qd hB ?_ | refine Qe hB ?_ | refine Qf hB ?_ | refine Qg hB ?_ | refine Qh hB ?_ | refine Qi hB ?_ | refine Qj hB rfl ?_ | refine Qk hB rfl ?_ | refine Ql hB (by first | omega | decide) ?_ | refine Qm hB rfl ?_ | refine Qn hB ?_ | refine Qo hB rfl ?_ | refine Qo hB (Qp rfl) ?_ | refine Qq hB rfl ?_ | refine Qr hB ?_ | refine Qs hB ?_ | refine Qt hB ?_ | refine Qu hB ?_ | refine Qv hB rfl ?_) <;> conv => lhs; whnf)
  all_goals
    refine congrArg some (congrArg (·, []) (congrArg (AV.int .i64) ?_))
    have e1 : ((Int.ofNat d.ps.length) ≤ 8) ↔ d.ps.length ≤ 8 := by simp only [Int.ofNat_eq_natCast]; omega
    have e2 : ((Int.ofNat d.bs.length) ≤ 6) ↔ d.bs.length ≤ 6 := by simp only [Int.ofNat_eq_natCast]; omega
    clear H58 H57 H59
    simp only [List.drop_zero, Bool.true_and, Bool.false_and] at *
    unfold Desk.check
    generalize d.ps.all okParcel = pa at *
    generalize d.bs.all okBox = pb at *
    simp_all <;> (intros; omega)
end Go.Ab.Cl

namespace Go.Ab.Cl
open Go.Ab

def Gx : Nat → List AV
  | 0 => [.fn 107 [] [], .fn 108 [] [], .fn 109 [] []]
  | _ => []

def dayB (d : Desk) (b : Box) (p : Parcel) : Bool := within (b.day - p.day) d.lo d.hi
def weightB (d : Desk) (b : Box) (p : Parcel) : Bool := decide (b.low ≤ p.weight) && decide (p.weight - d.wear ≤ b.high)
def sealGo : List UInt8 → Int → Bool
  | [], _ => true
  | c :: r, n => (decide ((c.toNat : Int) = 63) || decide ((c.toNat : Int) - 48 = n.tmod 10)) && sealGo r (n.tdiv 10)
def sealB (b : Box) (p : Parcel) : Bool := sealGo b.mark.reverse p.mark
def couldB (d : Desk) (b : Box) (p : Parcel) : Bool := dayB d b p && weightB d b p && sealB b p

theorem isBox_ev {G : Nat → List AV} {n : Nat} (hn : 2 ≤ n) (d : Desk) (hd : d.ok) (k : Int) : (evKR Bk G fsT n).1 0 52 [d.v, .int .i64 k] [] ansK = some (.bool (within k 0 ((d.bs.length : Int) - 1)), []) := by
  refine call_open (show fsT.find 52 = some a52 from rfl) (by omega) fun n B cl rd hn' hB hcl hrd => ?_
  have H58 := fun a b c => within_ev (G := G) (n := n) (by omega) a b c
  rw [← hcl] at H58
  have h1 := hd.bs
  conv => lhs; whnf
  repeat' ((first | refine Qx hB (H58 _ _ _) ?_ | refine sub_step hB (by simp only [Int.ofNat_eq_natCast]; omega) (by simp only [Int.ofNat_eq_natCast]; omega) ?_ | refine Q0 hB rfl ?_ | refine Q1 hB (by decide) ?_ | refine Q2 hB (by decide) ?_ | refine Q3 hB (by decide) ?_ | refine Q4 hB (by decide) ?_ | refine Q5 hB (by decide) ?_ | refine Q6 hB (by decide) ?_ | refine Q7 hB (by omega) (by omega) ?_ | refine Q8 hB ?_ | refine Q9 hB ?_ | refine Qa hB ?_ | refine Qb hB (fun _ => ?_) (fun _ => ?_) | refine Qc hB ?_ | refine Qd hB ?_ | refine Qe hB ?_ | refine Qf hB ?_ | refine Qg hB ?_ | refine Qh hB ?_ | refine Qi hB ?_ | refine Qj hB rfl ?_ | refine Qk hB rfl ?_ | refine Ql hB (by first | omega | decide) ?_ | refine Qm hB rfl ?_ | refine Qn hB ?_ | refine Qo hB rfl ?_ | refine Qo hB (Qp rfl) ?_ | refine Qq hB rfl ?_ | refine Qr hB ?_ | refine Qs hB ?_ | refine Qt hB ?_ | refine Qu hB ?_ | refine Qv hB rfl ?_) <;> conv => lhs; whnf)
  rfl
theorem isParcel_ev {G : Nat → List AV} {n : Nat} (hn : 2 ≤ n) (d : Desk) (hd : d.ok) (k : Int) : (evKR Bk G fsT n).1 0 53 [d.v, .int .i64 k] [] ansK = some (.bool (within k 0 ((d.ps.length : Int) - 1)), []) := by
  refine call_open (show fsT.find 53 = some a53 from rfl) (by omega) fun n B cl rd hn' hB hcl hrd => ?_
  have H58 := fun a b c => within_ev (G := G) (n := n) (by omega) a b c
  rw [← hcl] at H58
  have h1 := hd.ps
  conv => lhs; whnf
  repeat' ((first | refine Qx hB (H58 _ _ _) ?_ | refine sub_step hB (by simp only [Int.ofNat_eq_natCast]; omega) (by simp only [Int.ofNat_eq_natCast]; omega) ?_ | refine Q0 hB rfl ?_ | refine Q1 hB (by decide) ?_ | refine Q2 hB (by decide) ?_ | refine Q3 hB (by decide) ?_ | refine Q4 hB (by decide) ?_ | refine Q5 hB (by decide) ?_ | refine Q6 hB (by decide) ?_ | refine Q7 hB (by omega) (by omega) ?_ | refine Q8 hB ?_ | refine Q9 hB ?_ | refine Qa hB ?_ | refine Qb hB (fun _ => ?_) (fun _ => ?_) | refine Qc hB ?_ | refine Qd hB ?_ | refine Qe hB ?_ | refine Qf hB ?_ | refine Qg hB ?_ | refine Qh hB ?_ | refine Qi hB ?_ | refine Qj hB rfl ?_ | refine Qk hB rfl ?_ | refine Ql hB (by first | omega | decide) ?_ | refine Qm hB rfl ?_ | refine Qn hB ?_ | refine Qo hB rfl ?_ | refine Qo hB (Qp rfl) ?_ | refine Qq hB rfl ?_ | refine Qr hB ?_ | refine Qs hB ?_ | refine Qt hB ?_ | refine Qu hB ?_ | refine Qv hB rfl ?_) <;> conv => lhs; whnf)
  rfl

/-- What is small: as the checks have it. -/
def Small (x : Int) : Prop := -1000000000 ≤ x ∧ x ≤ 1000000000
theorem small_tdiv {m : Int} (h : Small m) : Small (m.tdiv 10) := by
  unfold Small at *
  rw [Int.tdiv_eq_ediv]
  have : Int.sign 10 = 1 := rfl
  split <;> omega

theorem day_ev {G : Nat → List AV} {n : Nat} (hn : 2 ≤ n) (d : Desk) (b : Box) (p : Parcel) (h1 : Small b.day) (h2 : Small p.day) : (evKR Bk G fsT n).1 0 107 [d.v, .agg b.c, .agg p.c] [] ansK = some (.bool (dayB d b p), []) := by
  refine call_open (show fsT.find 107 = some a107 from rfl) (by omega) fun n B cl rd hn' hB hcl hrd => ?_
  have H58 := fun a b c => within_ev (G := G) (n := n) (by omega) a b c
  rw [← hcl] at H58
  unfold Small at *
  conv => lhs; whnf
  repeat' ((first | refine Qx hB (H58 _ _ _) ?_ | refine sub_step hB (by omega) (by omega) ?_ | refine Q0 hB rfl ?_ | refine Q1 hB (by decide) ?_ | refine Q2 hB (by decide) ?_ | refine Q3 hB (by decide) ?_ | refine Q4 hB (by decide) ?_ | refine Q5 hB (by decide) ?_ | refine Q6 hB (by decide) ?_ | refine Q7 hB (by omega) (by omega) ?_ | refine Q8 hB ?_ | refine Q9 hB ?_ | refine Qa hB ?_ | refine Qb hB (fun _ => ?_) (fun _ => ?_) | refine Qc hB ?_ | refine Qd hB ?_ | refine Qe hB ?_ | refine Qf hB ?_ | refine Qg hB ?_ | refine Qh hB ?_ | refine Qi hB ?_ | refine Qj hB rfl ?_ | refine Qk hB rfl ?_ | refine Ql hB (by first | omega | decide) ?_ | refine Qm hB rfl ?_ | refine Qn hB ?_ | refine Qo hB rfl ?_ | refine Qo hB (Qp rfl) ?_ | refine Qq hB rfl ?_ | refine Qr hB ?_ | refine Qs hB ?_ | refine Qt hB ?_ | refine Qu hB ?_ | refine Qv hB rfl ?_) <;> conv => lhs; whnf)
  rfl
theorem weight_ev {G : Nat → List AV} {n : Nat} (hn : 2 ≤ n) (d : Desk) (b : Box) (p : Parcel) (h1 : Small p.weight) (h2 : Small d.wear) : (evKR Bk G fsT n).1 0 108 [d.v, .agg b.c, .agg p.c] [] ansK = some (.bool (weightB d b p), []) := by
  refine call_open (show fsT.find 108 = some a108 from rfl) (by omega) fun n B cl rd hn' hB hcl hrd => ?_
  unfold Small at *
  conv => lhs; whnf
  repeat' ((first | refine sub_step hB (by omega) (by omega) ?_ | refine le_split hB (fun _ => ?_) (fun _ => ?_) | refine Q0 hB rfl ?_ | refine Q1 hB (by decide) ?_ | refine Q2 hB (by decide) ?_ | refine Q3 hB (by decide) ?_ | refine Q4 hB (by decide) ?_ | refine Q5 hB (by decide) ?_ | refine Q6 hB (by decide) ?_ | refine Q7 hB (by omega) (by omega) ?_ | refine Q8 hB ?_ | refine Q9 hB ?_ | refine Qa hB ?_ | refine Qb hB (fun _ => ?_) (fun _ => ?_) | refine Qc hB ?_ | refine Qd hB ?_ | refine Qe hB ?_ | refine Qf hB ?_ | refine Qg hB ?_ | refine Qh hB ?_ | refine Qi hB ?_ | refine Qj hB rfl ?_ | refine Qk hB rfl ?_ | refine Ql hB (by first | omega | decide) ?_ | refine Qm hB rfl ?_ | refine Qn hB ?_ | refine Qo hB rfl ?_ | refine Qo hB (Qp rfl) ?_ | refine Qq hB rfl ?_ | refine Qr hB ?_ | refine Qs hB ?_ | refine Qt hB ?_ | refine Qu hB ?_ | refine Qv hB rfl ?_) <;> conv => lhs; whnf)
  all_goals
    refine congrArg some (congrArg (·, []) (congrArg AV.bool ?_))
    simp_all [weightB] <;> omega

theorem a109_L1_step {G : Nat → List AV} {B : Bnd} (hB : B = Bk) {cl : CallK} {rd : RoundK} (d : Desk) (b : Box) (p : Parcel) (hl : b.mark.length ≤ 1000000000000000) (hs : b.mark.all okDigit = true) (n : Nat) (k : Ex → Env → St → Ans) (r : Ans) :
    ∀ (j i : Nat) (m : Int), Small m → b.mark.length < i + j → i ≤ b.mark.length →
    (sealGo (b.mark.reverse.drop i) m = true → ∀ m' : Int, k (.exit 0) [(4, .ptr 0 1 0), (6, .bool false), (7, .int .i64 m'), (14, .int .i64 (.ofNat b.mark.length)), (15, .int .i64 (.ofNat b.mark.length))] [⟨[.cells d.c, .cells b.c, .cells p.c], []⟩] = r) →
    (sealGo (b.mark.reverse.drop i) m = false → ∀ (i' : Nat) (m' : Int), k .ret [(4, .ptr 0 1 0), (6, .bool false), (7, .int .i64 m'), (14, .int .i64 (.ofNat b.mark.length)), (15, .int .i64 (.ofNat i'))] [⟨[.cells d.c, .cells b.c, .cells p.c], []⟩] = r) →
    B.loop (evCK B a109_L1) [4, 6, 7, 14, 15] n j cl rd G 0 1 [(4, .ptr 0 1 0), (6, .bool false), (7, .int .i64 m), (14, .int .i64 (.ofNat b.mark.length)), (15, .int .i64 (.ofNat i))] [⟨[.cells d.c, .cells b.c, .cells p.c], []⟩] k = r := by
  intro j
  induction j with
  | zero => intro i m hm h1 h2; omega
  | succ j ih =>
    intro i m hm h1 h2 k1 k2
    refine loop_succ hB ?_
    conv => lhs; whnf
    refine lt_nat hB (fun h => ?_) (fun h => ?_) <;> conv => lhs; whnf
    · have hx : b.mark[b.mark.length - 1 - i]? = some (b.mark[b.mark.length - 1 - i]'(by omega)) := by simp
      have hd : b.mark.reverse.drop i = (b.mark[b.mark.length - 1 - i]'(by omega)) :: b.mark.reverse.drop (i + 1) := by
        rw [List.drop_eq_getElem_cons (by simpa using h)]
        simp
      have hc : okDigit (b.mark[b.mark.length - 1 - i]'(by omega)) = true := List.all_eq_true.1 hs _ (List.getElem_mem _)
      rw [hd] at k1 k2
      generalize (b.mark[b.mark.length - 1 - i]'(by omega)) = c at hx hc k1 k2
      have hcl := c.toNat_lt
      repeat' ((first | refine sub_u8 hB (by simp_all [okDigit, within]; omega) (by omega) ?_ | refine sub_step hB (by simp only [Int.ofNat_eq_natCast]; omega) (by simp only [Int.ofNat_eq_natCast]; omega) ?_ | refine QC hB (m := b.mark.length - 1 - i) (by simp only [Int.ofNat_eq_natCast]; omega) ?_ | refine nthb_step hB hx ?_ | refine Qi hB ?_ | refine eq_split hB (fun _ => ?_) (fun _ => ?_) | refine Q0 hB rfl ?_ | refine Q1 hB (by decide) ?_ | refine Q2 hB (by decide) ?_ | refine Q3 hB (by decide) ?_ | refine Q4 hB (by decide) ?_ | refine Q5 hB (by decide) ?_ | refine Q6 hB (by decide) ?_ | refine Q7 hB (by omega) (by omega) ?_ | refine Q8 hB ?_ | refine Q9 hB ?_ | refine Qa hB ?_ | refine Qb hB (fun _ => ?_) (fun _ => ?_) | refine Qc hB ?_ | refine Qd hB ?_ | refine Qe hB ?_ | refine Qf hB ?_ | refine Qg hB ?_ | refine Qh hB ?_ | refine Qi hB ?_ | refine Qj hB rfl ?_ | refine Qk hB rfl ?_ | refine Ql hB (by first | omega | decide) ?_ | refine Qm hB rfl ?_ | refine Qn hB ?_ | refine Qo hB rfl ?_ | refine Qo hB (Qp rfl) ?_ | refine Qq hB rfl ?_ | refine Qr hB ?_ | refine Qs hB ?_ | refine Qt hB ?_ | refine Qu hB ?_ | refine Qv hB rfl ?_) <;> conv => lhs; whnf)
      · have hb : sealGo (c :: b.mark.reverse.drop (i + 1)) m = sealGo (b.mark.reverse.drop (i + 1)) (m.tdiv 10) := by clear ih k1 k2; simp_all [sealGo]
        have hw := small_tdiv hm
        rw [wrp_i64 (by unfold Small at hw; omega) (by unfold Small at hw; omega)]
        exact ih (i + 1) _ hw (by omega) (by omega) (fun h => k1 (hb.trans h)) (fun h => k2 (hb.trans h))
      · have hb : sealGo (c :: b.mark.reverse.drop (i + 1)) m = sealGo (b.mark.reverse.drop (i + 1)) (m.tdiv 10) := by clear ih k1 k2; simp_all [sealGo]
        have hw := small_tdiv hm
        rw [wrp_i64 (by unfold Small at hw; omega) (by unfold Small at hw; omega)]
        exact ih (i + 1) _ hw (by omega) (by omega) (fun h => k1 (hb.trans h)) (fun h => k2 (hb.trans h))
      · have hb : sealGo (c :: b.mark.reverse.drop (i + 1)) m = false := by clear ih k1 k2; simp_all [sealGo]
        exact k2 hb _ _
    · repeat' ((first | refine Q0 hB rfl ?_ | refine Q1 hB (by decide) ?_ | refine Q2 hB (by decide) ?_ | refine Q3 hB (by decide) ?_ | refine Q4 hB (by decide) ?_ | refine Q5 hB (by decide) ?_ | refine Q6 hB (by decide) ?_ | refine Q7 hB (by omega) (by omega) ?_ | refine Q8 hB ?_ | refine Q9 hB ?_ | refine Qa hB ?_ | refine Qb hB (fun _ => ?_) (fun _ => ?_) | refine Qc hB ?_ | refine Qd hB ?_ | refine Qe hB ?_ | refine Qf hB ?_ | refine Qg hB ?_ | refine Qh hB ?_ | refine Qi hB ?_ | refine Qj hB rfl ?_ | refine Qk hB rfl ?_ | refine Ql hB (by first | omega | decide) ?_ | refine Qm hB rfl ?_ | refine Qn hB ?_ | refine Qo hB rfl ?_ | refine Qo hB (Qp rfl) ?_ | refine Qq hB rfl ?_ | refine Qr hB ?_ | refine Qs hB ?_ | refine Qt hB ?_ | refine Qu hB ?_ | refine Qv hB rfl ?_) <;> conv => lhs; whnf)
      have hi : i = b.mark.length := by omega
      have hz : b.mark.reverse.drop i = [] := by rw [hi]; simp
      rw [hz] at k1
      rw [hi]
      exact k1 rfl _

theorem seal_ev {G : Nat → List AV} {n : Nat} (d : Desk) (b : Box) (p : Parcel) (hl : b.mark.length ≤ 1000000000000000) (hs : b.mark.all okDigit = true) (hm : Small p.mark) (hn : b.mark.length + 2 ≤ n) : (evKR Bk G fsT n).1 0 109 [d.v, .agg b.c, .agg p.c] [] ansK = some (.bool (sealB b p), []) := by
  refine call_open (show fsT.find 109 = some a109 from rfl) (by omega) fun n B cl rd hn' hB hcl hrd => ?_
  conv => lhs; whnf
  repeat' ((first | refine a109_L1_step hB d b p hl hs _ _ _ _ 0 _ hm (by omega) (by omega) (fun _ _ => ?_) (fun _ _ _ => ?_) | refine Q0 hB rfl ?_ | refine Q1 hB (by decide) ?_ | refine Q2 hB (by decide) ?_ | refine Q3 hB (by decide) ?_ | refine Q4 hB (by decide) ?_ | refine Q5 hB (by decide) ?_ | refine Q6 hB (by decide) ?_ | refine Q7 hB (by omega) (by omega) ?_ | refine Q8 hB ?_ | refine Q9 hB ?_ | refine Qa hB ?_ | refine Qb hB (fun _ => ?_) (fun _ => ?_) | refine Qc hB ?_ | refine Qd hB ?_ | refine Qe hB ?_ | refine Qf hB ?_ | refine Qg hB ?_ | refine Qh hB ?_ | refine Qi hB ?_ | refine Qj hB rfl ?_ | refine Qk hB rfl ?_ | refine Ql hB (by first | omega | decide) ?_ | refine Qm hB rfl ?_ | refine Qn hB ?_ | refine Qo hB rfl ?_ | refine Qo hB (Qp rfl) ?_ | refine Qq hB rfl ?_ | refine Qr hB ?_ | refine Qs hB ?_ | refine Qt hB ?_ | refine Qu hB ?_ | refine Qv hB rfl ?_) <;> conv => lhs; whnf)
  all_goals
    refine congrArg some (congrArg (·, []) (congrArg AV.bool ?_))
    simp_all [sealB]

theorem could_ev {n : Nat} (d : Desk) (hd : d.ok) (i k : Nat) {zi zk : Int} (hzi : zi = (i : Int)) (hzk : zk = (k : Int)) (b : Box) (p : Parcel) (hb : d.bs[i]? = some b) (hp : d.ps[k]? = some p) (h1 : Small b.day) (h2 : Small p.day) (h3 : Small p.weight) (h4 : Small d.wear) (h5 : Small p.mark) (hs : b.mark.all okDigit = true) (hn : 1000000000000004 ≤ n) :
    (evKR Bk Gx fsT n).1 0 54 [d.v, .int .i64 zi, .int .i64 zk] [] ansK = some (.bool (couldB d b p), []) := by
  refine call_open (show fsT.find 54 = some a54 from rfl) (by omega) fun n B cl rd hn' hB hcl hrd => ?_
  have hl := hd.str b (List.mem_of_getElem? hb)
  have H1 := day_ev (G := Gx) (n := n) (by omega) d b p h1 h2
  have H2 := weight_ev (G := Gx) (n := n) (by omega) d b p h3 h4
  have H3 := seal_ev (G := Gx) (n := n) d b p hl hs h5 (by omega)
  rw [← hcl] at H1 H2 H3
  have hxb : (d.bs.map Box.c)[i]? = some b.c := by simp [hb]
  have hxp : (d.ps.map Parcel.c)[k]? = some p.c := by simp [hp]
  conv => lhs; whnf
  repeat' ((first | refine Qv hB hd.tp ?_ | refine Qv hB hd.tb ?_ | refine Q0 hB (by simp [purs, pur, hd.tp, hd.tb]) ?_ | refine loop_step hB (by omega) ?_ | refine Qy hB H1 (fun _ => ?_) (fun _ => ?_) | refine Qy hB H2 (fun _ => ?_) (fun _ => ?_) | refine Qy hB H3 (fun _ => ?_) (fun _ => ?_) | refine QC hB hzi ?_ | refine QC hB hzk ?_ | refine QC hB (m := 0) rfl ?_ | refine QC hB (m := 1) rfl ?_ | refine QC hB (m := 2) rfl ?_ | refine QB hB hxb ?_ | refine QB hB hxp ?_ | refine Q0 hB rfl ?_ | refine Q1 hB (by decide) ?_ | refine Q2 hB (by decide) ?_ | refine Q3 hB (by decide) ?_ | refine Q4 hB (by decide) ?_ | refine Q5 hB (by decide) ?_ | refine Q6 hB (by decide) ?_ | refine Q7 hB (by omega) (by omega) ?_ | refine Q8 hB ?_ | refine Q9 hB ?_ | refine Qa hB ?_ | refine Qb hB (fun _ => ?_) (fun _ => ?_) | refine Qc hB ?_ | refine Qd hB ?_ | refine Qe hB ?_ | refine Qf hB ?_ | refine Qg hB ?_ | refine Qh hB ?_ | refine Qi hB ?_ | refine Qj hB rfl ?_ | refine Qk hB rfl ?_ | refine Ql hB (by first | omega | decide) ?_ | refine Qm hB rfl ?_ | refine Qn hB ?_ | refine Qo hB rfl ?_ | refine Qo hB (Qp rfl) ?_ | refine Qq hB rfl ?_ | refine Qr hB ?_ | refine Qs hB ?_ | refine Qt hB ?_ | refine Qu hB ?_ | refine Qv hB rfl ?_) <;> conv => lhs; whnf)
  all_goals
    refine congrArg some (congrArg (·, []) (congrArg AV.bool ?_))
    simp_all [couldB]
end Go.Ab.Cl
