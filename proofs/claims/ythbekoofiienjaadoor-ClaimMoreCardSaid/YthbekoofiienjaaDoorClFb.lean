/-
  The claims, the specification: seals, checks, and whether a box can be a parcel.
-/
import Derived.Test.YthbekoofiienjaaDoorClQ
namespace Go.Ab.Cl
open Go.Ab

theorem a61_L1_step {B : Bnd} (hB : B = Bk) {cl : CallK} {rd : RoundK} (m : List UInt8) (hlen : m.length ≤ 9223372036854775806) (n : Nat) (s : St) (k : Ex → Env → St → Ans) (r : Ans) :
    ∀ (j i : Nat), m.length < i + j → i ≤ m.length →
    ((m.drop i).all okDigit = true → ∀ e, k (.exit 0) e s = r) → ((m.drop i).all okDigit = false → ∀ e, k .ret ((0, .str m) :: (2, .bool false) :: e) s = r) →
    B.loop (evCK B a61_L1) [0, 2, 3] n j cl rd Gx 0 1 [(0, .str m), (2, .bool false), (3, .int .i64 (.ofNat i))] s k = r := by
  intro j
  induction j with
  | zero => intro i h1 h2; omega
  | succ j ih =>
    intro i h1 h2 k1 k2
    refine loop_succ hB ?_
    conv => lhs; whnf
    refine Qh hB ?_
    conv => lhs; whnf
    refine lt_nat hB (fun h => ?_) (fun h => ?_) <;> conv => lhs; whnf
    · have hx : m[i]? = some m[i] := by simp [h]
      have hd : m.drop i = m[i] :: m.drop (i + 1) := List.drop_eq_getElem_cons h
      rw [hd] at k1 k2
      generalize m[i] = c at hx k1 k2
      have hcl := c.toNat_lt
      repeat' ((first | refine QC hB (m := i) rfl ?_ | refine nthb_step hB hx ?_ | refine Qi hB ?_ | refine eq_split hB (fun h63 => ?_) (fun h63 => ?_) | refine lt_split hB (fun hl => ?_) (fun hl => ?_) | refine Q0 hB rfl ?_ | refine Q1 hB (by decide) ?_ | refine Q2 hB (by decide) ?_ | refine Q3 hB (by decide) ?_ | refine Q4 hB (by decide) ?_ | refine Q5 hB (by decide) ?_ | refine Q6 hB (by decide) ?_ | refine Q7 hB (by omega) (by omega) ?_ | refine Q8 hB ?_ | refine Q9 hB ?_ | refine Qa hB ?_ | refine Qb hB (fun _ => ?_) (fun _ => ?_) | refine Qc hB ?_ | refine Qd hB ?_ | refine Qe hB ?_ | refine Qf hB ?_ | refine Qg hB ?_ | refine Qh hB ?_ | refine Qi hB ?_ | refine Qj hB rfl ?_ | refine Qk hB rfl ?_ | refine Ql hB (by first | omega | decide) ?_ | refine Qm hB rfl ?_ | refine Qn hB ?_ | refine Qo hB rfl ?_ | refine Qo hB (Qp rfl) ?_ | refine Qq hB rfl ?_ | refine Qr hB ?_ | refine Qs hB ?_ | refine Qt hB ?_ | refine Qu hB ?_ | refine Qv hB rfl ?_) <;> conv => lhs; whnf)
      · have hb : okDigit c = true := by simp only [okDigit, within, Bool.or_eq_true, Bool.and_eq_true, decide_eq_true_eq]; simp only [Int.ofNat_eq_natCast] at h63; omega
        rw [List.all_cons, hb, Bool.true_and] at k1 k2
        exact ih (i + 1) (by omega) (by omega) k1 k2
      · have hb : okDigit c = false := by simp only [okDigit, within, Bool.or_eq_false_iff, Bool.and_eq_false_iff, decide_eq_false_iff_not]; simp only [Int.ofNat_eq_natCast] at h63 hl; omega
        rw [List.all_cons, hb, Bool.false_and] at k2
        exact k2 rfl _
      · have hb : okDigit c = false := by simp only [okDigit, within, Bool.or_eq_false_iff, Bool.and_eq_false_iff, decide_eq_false_iff_not]; simp only [Int.ofNat_eq_natCast] at h63 hl; omega
        rw [List.all_cons, hb, Bool.false_and] at k2
        exact k2 rfl _
      · have hb : okDigit c = true := by simp only [okDigit, within, Bool.or_eq_true, Bool.and_eq_true, decide_eq_true_eq]; simp only [Int.ofNat_eq_natCast] at *; omega
        rw [List.all_cons, hb, Bool.true_and] at k1 k2
        exact ih (i + 1) (by omega) (by omega) k1 k2
    · repeat' ((first | refine Q0 hB rfl ?_ | refine Q1 hB (by decide) ?_ | refine Q2 hB (by decide) ?_ | refine Q3 hB (by decide) ?_ | refine Q4 hB (by decide) ?_ | refine Q5 hB (by decide) ?_ | refine Q6 hB (by decide) ?_ | refine Q7 hB (by omega) (by omega) ?_ | refine Q8 hB ?_ | refine Q9 hB ?_ | refine Qa hB ?_ | refine Qb hB (fun _ => ?_) (fun _ => ?_) | refine Qc hB ?_ | refine Qd hB ?_ | refine Qe hB ?_ | refine Qf hB ?_ | refine Qg hB ?_ | refine Qh hB ?_ | refine Qi hB ?_ | refine Qj hB rfl ?_ | refine Qk hB rfl ?_ | refine Ql hB (by first | omega | decide) ?_ | refine Qm hB rfl ?_ | refine Qn hB ?_ | refine Qo hB rfl ?_ | refine Qo hB (Qp rfl) ?_ | refine Qq hB rfl ?_ | refine Qr hB ?_ | refine Qs hB ?_ | refine Qt hB ?_ | refine Qu hB ?_ | refine Qv hB rfl ?_) <;> conv => lhs; whnf)
      have hi : i = m.length := by omega
      refine k1 ?_ _
      rw [hi]; simp

theorem isSealR_ev {n : Nat} (m : List UInt8) (hl : m.length ≤ 1000000000000000) (hn : m.length + 2 ≤ n) : (evKR Bk Gx fsT n).1 0 61 [.str m] [] ansK = some (.bool (okSeal m), []) := by
  refine call_open (show fsT.find 61 = some a61 from rfl) (by omega) fun n B cl rd hn' hB hcl hrd => ?_
  have e0 : okSeal m = ((m.isEmpty || m.length == 4) && m.all okDigit) := rfl
  conv => lhs; whnf
  repeat' ((first | refine eq_split hB (fun h1 => ?_) (fun h1 => ?_) | refine a61_L1_step hB m (by omega) _ _ _ _ _ 0 (by omega) (by omega) (fun ha e => ?_) (fun ha e => ?_) | refine Q0 hB rfl ?_ | refine Q1 hB (by decide) ?_ | refine Q2 hB (by decide) ?_ | refine Q3 hB (by decide) ?_ | refine Q4 hB (by decide) ?_ | refine Q5 hB (by decide) ?_ | refine Q6 hB (by decide) ?_ | refine Q7 hB (by omega) (by omega) ?_ | refine Q8 hB ?_ | refine Q9 hB ?_ | refine Qa hB ?_ | refine Qb hB (fun _ => ?_) (fun _ => ?_) | refine Qc hB ?_ | refine Qd hB ?_ | refine Qe hB ?_ | refine Qf hB ?_ | refine Qg hB ?_ | refine Qh hB ?_ | refine Qi hB ?_ | refine Qj hB rfl ?_ | refine Qk hB rfl ?_ | refine Ql hB (by first | omega | decide) ?_ | refine Qm hB rfl ?_ | refine Qn hB ?_ | refine Qo hB rfl ?_ | refine Qo hB (Qp rfl) ?_ | refine Qq hB rfl ?_ | refine Qr hB ?_ | refine Qs hB ?_ | refine Qt hB ?_ | refine Qu hB ?_ | refine Qv hB rfl ?_) <;> conv => lhs; whnf)
  all_goals
    try rw [List.drop_zero] at ha
    rw [e0]
    refine congrArg some (congrArg (·, []) (congrArg AV.bool ?_))
    try simp only [Int.ofNat_eq_natCast] at *
    cases m with
    | nil => simp_all
    | cons a m => simp_all <;> omega

def LoopEnd (v : AV) (ok : Bool) : Env → Prop := fun e => ∃ i : Int, e = [(1, v), (3, .bool ok), (4, .int .i64 i)] ∨ e = [(1, v), (3, .bool ok), (6, .int .i64 i)]
theorem a16_L1_step {B : Bnd} (hB : B = Bk) {cl : CallK} {rd : RoundK} (H38 : ∀ a b c : Int, cl 0 38 [.int .i64 a, .int .i64 b, .int .i64 c] [] ansK = some (.bool (within a b c), [])) (d : Desk) (hd : d.ok) (n : Nat) (k : Ex → Env → St → Ans) (r : Ans) :
    ∀ (j i : Nat) (ok : Bool), d.ps.length < i + j → i ≤ d.ps.length →
    (∀ x : Int, k (.exit 0) [(1, .ptr 0 0 0), (3, .bool (ok && (d.ps.drop i).all okParcel)), (4, .int .i64 x)] [⟨[.cells d.c], []⟩] = r) →
    B.loop (evCK B a16_L1) [1, 3, 4] n j cl rd Gx 0 1 [(1, .ptr 0 0 0), (3, .bool ok), (4, .int .i64 (.ofNat i))] [⟨[.cells d.c], []⟩] k = r := by
  intro j
  induction j with
  | zero => intro i ok h1 h2; omega
  | succ j ih =>
    intro i ok h1 h2 k1
    have hps := hd.ps
    refine loop_succ hB ?_
    cases ok
    · conv => lhs; whnf
      repeat' ((first | refine Q0 hB rfl ?_ | refine Q1 hB (by decide) ?_ | refine Q2 hB (by decide) ?_ | refine Q3 hB (by decide) ?_ | refine Q4 hB (by decide) ?_ | refine Q5 hB (by decide) ?_ | refine Q6 hB (by decide) ?_ | refine Q7 hB (by omega) (by omega) ?_ | refine Q8 hB ?_ | refine Q9 hB ?_ | refine Qa hB ?_ | refine Qb hB (fun _ => ?_) (fun _ => ?_) | refine Qc hB ?_ | refine Qd hB ?_ | refine Qe hB ?_ | refine Qf hB ?_ | refine Qg hB ?_ | refine Qh hB ?_ | refine Qi hB ?_ | refine Qj hB rfl ?_ | refine Qk hB rfl ?_ | refine Ql hB (by first | omega | decide) ?_ | refine Qm hB rfl ?_ | refine Qn hB ?_ | refine Qo hB rfl ?_ | refine Qo hB (Qp rfl) ?_ | refine Qq hB rfl ?_ | refine Qr hB ?_ | refine Qs hB ?_ | refine Qt hB ?_ | refine Qu hB ?_ | refine Qv hB rfl ?_) <;> conv => lhs; whnf)
      exact k1 _
    · conv => lhs; whnf
      (repeat' ((first | refine Qn hB ?_ | refine Qr hB ?_ | refine Qj hB rfl ?_ | refine Qf hB ?_) <;> conv => lhs; whnf))
      refine lt_nat hB (fun h => ?_) (fun h => ?_) <;> conv => lhs; whnf
      · have hx : (d.ps.map Parcel.c)[i]? = some (Parcel.c d.ps[i]) := by simp [h]
        have hdr : d.ps.drop i = d.ps[i] :: d.ps.drop (i + 1) := List.drop_eq_getElem_cons h
        rw [hdr] at k1
        generalize d.ps[i] = p at hx k1
        repeat' ((first | refine Qw hB ?_ | refine QC hB (m := i) rfl ?_ | refine QB hB hx ?_ | refine Qy hB (H38 _ _ _) (fun _ => ?_) (fun _ => ?_) | refine Q0 hB rfl ?_ | refine Q1 hB (by decide) ?_ | refine Q2 hB (by decide) ?_ | refine Q3 hB (by decide) ?_ | refine Q4 hB (by decide) ?_ | refine Q5 hB (by decide) ?_ | refine Q6 hB (by decide) ?_ | refine Q7 hB (by omega) (by omega) ?_ | refine Q8 hB ?_ | refine Q9 hB ?_ | refine Qa hB ?_ | refine Qb hB (fun _ => ?_) (fun _ => ?_) | refine Qc hB ?_ | refine Qd hB ?_ | refine Qe hB ?_ | refine Qf hB ?_ | refine Qg hB ?_ | refine Qh hB ?_ | refine Qi hB ?_ | refine Qj hB rfl ?_ | refine Qk hB rfl ?_ | refine Ql hB (by first | omega | decide) ?_ | refine Qm hB rfl ?_ | refine Qn hB ?_ | refine Qo hB rfl ?_ | refine Qo hB (Qp rfl) ?_ | refine Qq hB rfl ?_ | refine Qr hB ?_ | refine Qs hB ?_ | refine Qt hB ?_ | refine Qu hB ?_ | refine Qv hB rfl ?_) <;> conv => lhs; whnf)
        all_goals
          refine ih (i + 1) _ (by omega) (by omega) fun x => ?_
          have k1 := k1 x
          simp_all [okParcel]
      · repeat' ((first | refine Q0 hB rfl ?_ | refine Q1 hB (by decide) ?_ | refine Q2 hB (by decide) ?_ | refine Q3 hB (by decide) ?_ | refine Q4 hB (by decide) ?_ | refine Q5 hB (by decide) ?_ | refine Q6 hB (by decide) ?_ | refine Q7 hB (by omega) (by omega) ?_ | refine Q8 hB ?_ | refine Q9 hB ?_ | refine Qa hB ?_ | refine Qb hB (fun _ => ?_) (fun _ => ?_) | refine Qc hB ?_ | refine Qd hB ?_ | refine Qe hB ?_ | refine Qf hB ?_ | refine Qg hB ?_ | refine Qh hB ?_ | refine Qi hB ?_ | refine Qj hB rfl ?_ | refine Qk hB rfl ?_ | refine Ql hB (by first | omega | decide) ?_ | refine Qm hB rfl ?_ | refine Qn hB ?_ | refine Qo hB rfl ?_ | refine Qo hB (Qp rfl) ?_ | refine Qq hB rfl ?_ | refine Qr hB ?_ | refine Qs hB ?_ | refine Qt hB ?_ | refine Qu hB ?_ | refine Qv hB rfl ?_) <;> conv => lhs; whnf)
        have hi : i = d.ps.length := by omega
        subst hi
        rw [List.drop_length] at k1
        exact k1 _
theorem a16_L2_step {B : Bnd} (hB : B = Bk) {cl : CallK} {rd : RoundK} (H38 : ∀ a b c : Int, cl 0 38 [.int .i64 a, .int .i64 b, .int .i64 c] [] ansK = some (.bool (within a b c), []))
    (H60 : ∀ a b c d : Int, cl 0 60 [.agg [.int .i64 a, .int .i64 b], .int .i64 c, .int .i64 d] [] ansK = some (.bool (isSpan a b c d), [])) (d : Desk) (hd : d.ok)
    (H61 : ∀ b ∈ d.bs, cl 0 61 [.str b.mark] [] ansK = some (.bool (okSeal b.mark), [])) (n : Nat) (k : Ex → Env → St → Ans) (r : Ans) :
    ∀ (j i : Nat) (ok : Bool), d.bs.length < i + j → i ≤ d.bs.length →
    (∀ x : Int, k (.exit 2) [(1, .ptr 0 0 0), (3, .bool (ok && (d.bs.drop i).all okBox)), (6, .int .i64 x)] [⟨[.cells d.c], []⟩] = r) →
    B.loop (evCK B a16_L2) [1, 3, 6] n j cl rd Gx 0 1 [(1, .ptr 0 0 0), (3, .bool ok), (6, .int .i64 (.ofNat i))] [⟨[.cells d.c], []⟩] k = r := by
  intro j
  induction j with
  | zero => intro i ok h1 h2; omega
  | succ j ih =>
    intro i ok h1 h2 k1
    have hbs := hd.bs
    refine loop_succ hB ?_
    cases ok
    · conv => lhs; whnf
      repeat' ((first | refine Q0 hB rfl ?_ | refine Q1 hB (by decide) ?_ | refine Q2 hB (by decide) ?_ | refine Q3 hB (by decide) ?_ | refine Q4 hB (by decide) ?_ | refine Q5 hB (by decide) ?_ | refine Q6 hB (by decide) ?_ | refine Q7 hB (by omega) (by omega) ?_ | refine Q8 hB ?_ | refine Q9 hB ?_ | refine Qa hB ?_ | refine Qb hB (fun _ => ?_) (fun _ => ?_) | refine Qc hB ?_ | refine Qd hB ?_ | refine Qe hB ?_ | refine Qf hB ?_ | refine Qg hB ?_ | refine Qh hB ?_ | refine Qi hB ?_ | refine Qj hB rfl ?_ | refine Qk hB rfl ?_ | refine Ql hB (by first | omega | decide) ?_ | refine Qm hB rfl ?_ | refine Qn hB ?_ | refine Qo hB rfl ?_ | refine Qo hB (Qp rfl) ?_ | refine Qq hB rfl ?_ | refine Qr hB ?_ | refine Qs hB ?_ | refine Qt hB ?_ | refine Qu hB ?_ | refine Qv hB rfl ?_) <;> conv => lhs; whnf)
      exact k1 _
    · conv => lhs; whnf
      (repeat' ((first | refine Qn hB ?_ | refine Qr hB ?_ | refine Qj hB rfl ?_ | refine Qf hB ?_) <;> conv => lhs; whnf))
      refine lt_nat hB (fun h => ?_) (fun h => ?_) <;> conv => lhs; whnf
      · have hx : (d.bs.map Box.c)[i]? = some (Box.c d.bs[i]) := by simp [h]
        have hdr : d.bs.drop i = d.bs[i] :: d.bs.drop (i + 1) := List.drop_eq_getElem_cons h
        have hm := H61 d.bs[i] (List.getElem_mem h)
        rw [hdr] at k1
        generalize d.bs[i] = p at hx k1 hm
        repeat' ((first | refine Qw hB ?_ | refine QC hB (m := i) rfl ?_ | refine QB hB hx ?_ | refine Qy hB (H38 _ _ _) (fun _ => ?_) (fun _ => ?_) | refine Qy hB (H60 _ _ _ _) (fun _ => ?_) (fun _ => ?_) | refine Qy hB hm (fun _ => ?_) (fun _ => ?_) | refine Q0 hB rfl ?_ | refine Q1 hB (by decide) ?_ | refine Q2 hB (by decide) ?_ | refine Q3 hB (by decide) ?_ | refine Q4 hB (by decide) ?_ | refine Q5 hB (by decide) ?_ | refine Q6 hB (by decide) ?_ | refine Q7 hB (by omega) (by omega) ?_ | refine Q8 hB ?_ | refine Q9 hB ?_ | refine Qa hB ?_ | refine Qb hB (fun _ => ?_) (fun _ => ?_) | refine Qc hB ?_ | refine Qd hB ?_ | refine Qe hB ?_ | refine Qf hB ?_ | refine Qg hB ?_ | refine Qh hB ?_ | refine Qi hB ?_ | refine Qj hB rfl ?_ | refine Qk hB rfl ?_ | refine Ql hB (by first | omega | decide) ?_ | refine Qm hB rfl ?_ | refine Qn hB ?_ | refine Qo hB rfl ?_ | refine Qo hB (Qp rfl) ?_ | refine Qq hB rfl ?_ | refine Qr hB ?_ | refine Qs hB ?_ | refine Qt hB ?_ | refine Qu hB ?_ | refine Qv hB rfl ?_) <;> conv => lhs; whnf)
        all_goals
          refine ih (i + 1) _ (by omega) (by omega) fun x => ?_
          have k1 := k1 x
          simp_all [okBox]
      · repeat' ((first | refine Q0 hB rfl ?_ | refine Q1 hB (by decide) ?_ | refine Q2 hB (by decide) ?_ | refine Q3 hB (by decide) ?_ | refine Q4 hB (by decide) ?_ | refine Q5 hB (by decide) ?_ | refine Q6 hB (by decide) ?_ | refine Q7 hB (by omega) (by omega) ?_ | refine Q8 hB ?_ | refine Q9 hB ?_ | refine Qa hB ?_ | refine Qb hB (fun _ => ?_) (fun _ => ?_) | refine Qc hB ?_ | refine Qd hB ?_ | refine Qe hB ?_ | refine Qf hB ?_ | refine Qg hB ?_ | refine Qh hB ?_ | refine Qi hB ?_ | refine Qj hB rfl ?_ | refine Qk hB rfl ?_ | refine Ql hB (by first | omega | decide) ?_ | refine Qm hB rfl ?_ | refine Qn hB ?_ | refine Qo hB rfl ?_ | refine Qo hB (Qp rfl) ?_ | refine Qq hB rfl ?_ | refine Qr hB ?_ | refine Qs hB ?_ | refine Qt hB ?_ | refine Qu hB ?_ | refine Qv hB rfl ?_) <;> conv => lhs; whnf)
        have hi : i = d.bs.length := by omega
        subst hi
        rw [List.drop_length] at k1
        exact k1 _
theorem a16_L1_two {B : Bnd} (hB : B = Bk) {cl : CallK} {rd : RoundK} (H38 : ∀ a b c : Int, cl 0 38 [.int .i64 a, .int .i64 b, .int .i64 c] [] ansK = some (.bool (within a b c), [])) (d : Desk) (hd : d.ok) {pb : Bool} (hpb : d.ps.all okParcel = pb) (n : Nat) (k : Ex → Env → St → Ans) (r : Ans) (j : Nat) (hj : d.ps.length < j)
    (k1 : ∀ x : Int, k (.exit 0) [(1, .ptr 0 0 0), (3, .bool pb), (4, .int .i64 x)] [⟨[.cells d.c], []⟩] = r) :
    B.loop (evCK B a16_L1) [1, 3, 4] n j cl rd Gx 0 1 [(1, .ptr 0 0 0), (3, .bool true), (4, .int .i64 0)] [⟨[.cells d.c], []⟩] k = r :=
  a16_L1_step hB H38 d hd n k r j 0 true (by omega) (by omega) fun x => by
    rw [List.drop_zero, hpb, Bool.true_and]; exact k1 x
theorem a16_L2_two {B : Bnd} (hB : B = Bk) {cl : CallK} {rd : RoundK} (H38 : ∀ a b c : Int, cl 0 38 [.int .i64 a, .int .i64 b, .int .i64 c] [] ansK = some (.bool (within a b c), []))
    (H60 : ∀ a b c d : Int, cl 0 60 [.agg [.int .i64 a, .int .i64 b], .int .i64 c, .int .i64 d] [] ansK = some (.bool (isSpan a b c d), [])) (d : Desk) (hd : d.ok)
    (H61 : ∀ b ∈ d.bs, cl 0 61 [.str b.mark] [] ansK = some (.bool (okSeal b.mark), [])) {bb : Bool} (hbb : d.bs.all okBox = bb) (n : Nat) (k : Ex → Env → St → Ans) (r : Ans) (j : Nat) (hj : d.bs.length < j)
    (k1 : ∀ x : Int, k (.exit 2) [(1, .ptr 0 0 0), (3, .bool bb), (6, .int .i64 x)] [⟨[.cells d.c], []⟩] = r) :
    B.loop (evCK B a16_L2) [1, 3, 6] n j cl rd Gx 0 1 [(1, .ptr 0 0 0), (3, .bool true), (6, .int .i64 0)] [⟨[.cells d.c], []⟩] k = r :=
  a16_L2_step hB H38 H60 d hd H61 n k r j 0 true (by omega) (by omega) fun x => by
    rw [List.drop_zero, hbb, Bool.true_and]; exact k1 x
theorem CheckR_ev {n : Nat} (d : Desk) (hd : d.ok) (hn : 1000000000000010 ≤ n) : (evKR Bk Gx fsT n).1 0 16 [d.v] [] ansK = some (.int .i64 (if d.check = true then 0 else 90), []) := by
  refine call_open (show fsT.find 16 = some a16 from rfl) (by omega) fun n B cl rd hn' hB hcl hrd => ?_
  have H38 := fun a b c => Tween_ev (G := Gx) (n := n) (by omega) a b c
  have H60 := fun a b c d => Proper_ev (G := Gx) (n := n) (by omega) a b c d
  have H61 : ∀ b ∈ d.bs, (evKR Bk Gx fsT n).1 0 61 [.str b.mark] [] ansK = some (.bool (okSeal b.mark), []) := fun b hb => isSealR_ev b.mark (hd.str b hb) (by have := hd.str b hb; omega)
  rw [← hcl] at H38 H60 H61
  have hps := hd.ps
  have hbs := hd.bs
  have hck : d.check = (isSpan d.lo d.hi 0 400 && within d.wear 0 5000 && within d.strange 0 6 && decide (d.ps.length ≤ 8) && decide (d.bs.length ≤ 6) && d.ps.all okParcel && d.bs.all okBox) := rfl
  cases hpb : d.ps.all okParcel <;> cases hbb : d.bs.all okBox
  all_goals
    rw [hpb, hbb] at hck
    conv => lhs; whnf
    repeat' ((first | refine Qw hB ?_ | refine Qy hB (H38 _ _ _) (fun _ => ?_) (fun _ => ?_) | refine Qy hB (H60 _ _ _ _) (fun _ => ?_) (fun _ => ?_) | refine a16_L1_two hB H38 d hd hpb _ _ _ _ (by omega) (fun x => ?_) | refine a16_L2_two hB H38 H60 d hd H61 hbb _ _ _ _ (by omega) (fun x => ?_) | refine a16_L1_step hB H38 d hd _ _ _ _ 0 false (by omega) (by omega) (fun x => ?_) | refine a16_L2_step hB H38 H60 d hd H61 _ _ _ _ 0 false (by omega) (by omega) (fun x => ?_) | refine le_split hB (fun _ => ?_) (fun _ => ?_) | refine Q0 hB rfl ?_ | refine Q1 hB (by decide) ?_ | refine Q2 hB (by decide) ?_ | refine Q3 hB (by decide) ?_ | refine Q4 hB (by decide) ?_ | refine Q5 hB (by decide) ?_ | refine Q6 hB (by decide) ?_ | refine Q7 hB (by omega) (by omega) ?_ | refine Q8 hB ?_ | refine Q9 hB ?_ | refine Qa hB ?_ | refine Qb hB (fun _ => ?_) (fun _ => ?_) | refine Qc hB ?_ | refine Qd hB ?_ | refine Qe hB ?_ | refine Qf hB ?_ | refine Qg hB ?_ | refine Qh hB ?_ | refine Qi hB ?_ | refine Qj hB rfl ?_ | refine Qk hB rfl ?_ | refine Ql hB (by first | omega | decide) ?_ | refine Qm hB rfl ?_ | refine Qn hB ?_ | refine Qo hB rfl ?_ | refine Qo hB (Qp rfl) ?_ | refine Qq hB rfl ?_ | refine Qr hB ?_ | refine Qs hB ?_ | refine Qt hB ?_ | refine Qu hB ?_ | refine Qv hB rfl ?_) <;> conv => lhs; whnf)
  all_goals
    clear H38 H60 H61
    refine congrArg some (congrArg (·, []) (congrArg (AV.int .i64) ?_))
    try simp only [Int.ofNat_eq_natCast] at *

    simp_all
  all_goals omega

theorem Has_ev {n : Nat} (hn : 3 ≤ n) (a b z : Int) : (evKR Bk Gx fsT n).1 0 41 [.agg [.int .i64 a, .int .i64 b], .int .i64 z] [] ansK = some (.bool (within z a b), []) := by
  refine call_open (show fsT.find 41 = some a41 from rfl) (by omega) fun n B cl rd hn' hB hcl hrd => ?_
  have H38 := Tween_ev (G := Gx) (n := n) (by omega) z a b
  rw [← hcl] at H38
  conv => lhs; whnf
  repeat' ((first | refine Qw hB ?_ | refine Qx hB H38 ?_ | refine Q0 hB rfl ?_ | refine Q1 hB (by decide) ?_ | refine Q2 hB (by decide) ?_ | refine Q3 hB (by decide) ?_ | refine Q4 hB (by decide) ?_ | refine Q5 hB (by decide) ?_ | refine Q6 hB (by decide) ?_ | refine Q7 hB (by omega) (by omega) ?_ | refine Q8 hB ?_ | refine Q9 hB ?_ | refine Qa hB ?_ | refine Qb hB (fun _ => ?_) (fun _ => ?_) | refine Qc hB ?_ | refine Qd hB ?_ | refine Qe hB ?_ | refine Qf hB ?_ | refine Qg hB ?_ | refine Qh hB ?_ | refine Qi hB ?_ | refine Qj hB rfl ?_ | refine Qk hB rfl ?_ | refine Ql hB (by first | omega | decide) ?_ | refine Qm hB rfl ?_ | refine Qn hB ?_ | refine Qo hB rfl ?_ | refine Qo hB (Qp rfl) ?_ | refine Qq hB rfl ?_ | refine Qr hB ?_ | refine Qs hB ?_ | refine Qt hB ?_ | refine Qu hB ?_ | refine Qv hB rfl ?_) <;> conv => lhs; whnf)
  all_goals rfl
theorem Common_ev {n : Nat} (hn : 3 ≤ n) (a b c d : Int) : (evKR Bk Gx fsT n).1 0 83 [.agg [.int .i64 a, .int .i64 b], .agg [.int .i64 c, .int .i64 d]] [] ansK = some (.agg [.int .i64 (hiI a c), .int .i64 (loI b d)], []) := by
  refine call_open (show fsT.find 83 = some a83 from rfl) (by omega) fun n B cl rd hn' hB hcl hrd => ?_
  have HTo := To_ev (n := n) (by omega) (hiI a c) (loI b d)
  rw [← hcl] at HTo
  conv => lhs; whnf
  repeat' ((first | refine Qw hB ?_ | refine Qx hB HTo ?_ | refine Qq hB (mx_ok rfl rfl) ?_ | refine Qq hB (mn_ok rfl rfl) ?_ | refine Q0 hB rfl ?_ | refine Q1 hB (by decide) ?_ | refine Q2 hB (by decide) ?_ | refine Q3 hB (by decide) ?_ | refine Q4 hB (by decide) ?_ | refine Q5 hB (by decide) ?_ | refine Q6 hB (by decide) ?_ | refine Q7 hB (by omega) (by omega) ?_ | refine Q8 hB ?_ | refine Q9 hB ?_ | refine Qa hB ?_ | refine Qb hB (fun _ => ?_) (fun _ => ?_) | refine Qc hB ?_ | refine Qd hB ?_ | refine Qe hB ?_ | refine Qf hB ?_ | refine Qg hB ?_ | refine Qh hB ?_ | refine Qi hB ?_ | refine Qj hB rfl ?_ | refine Qk hB rfl ?_ | refine Ql hB (by first | omega | decide) ?_ | refine Qm hB rfl ?_ | refine Qn hB ?_ | refine Qo hB rfl ?_ | refine Qo hB (Qp rfl) ?_ | refine Qq hB rfl ?_ | refine Qr hB ?_ | refine Qs hB ?_ | refine Qt hB ?_ | refine Qu hB ?_ | refine Qv hB rfl ?_) <;> conv => lhs; whnf)
  all_goals rfl

theorem a56_L1_step {B : Bnd} (hB : B = Bk) {cl : CallK} {rd : RoundK} (b : Box) (hl : b.mark.length ≤ 1000000000000000) (hs : b.mark.all okDigit = true) (c0 c2 c3 : AObj) (n : Nat) (k : Ex → Env → St → Ans) (r : Ans) :
    ∀ (j i : Nat) (m z : Int), Small m → z = (i : Int) - 1 → i < j → i ≤ b.mark.length →
    (sealGo (b.mark.take i).reverse m = true → ∀ e, k (.exit 0) e [⟨[c0, .cells b.c, c2, c3], []⟩] = r) →
    (sealGo (b.mark.take i).reverse m = false → ∀ e, k .ret ((6, .bool false) :: e) [⟨[c0, .cells b.c, c2, c3], []⟩] = r) →
    B.loop (evCK B a56_L1) [6, 7, 10, 11] n j cl rd Gx 0 1 [(6, .bool false), (7, .ptr 0 1 0), (10, .int .i64 m), (11, .int .i64 z)] [⟨[c0, .cells b.c, c2, c3], []⟩] k = r := by
  intro j
  induction j with
  | zero => intro i m z hm hz h1 h2; omega
  | succ j ih =>
    intro i m z hm hz h1 h2 k1 k2
    refine loop_succ hB ?_
    cases i with
    | zero =>
      conv => lhs; whnf
      repeat' ((first | refine Q4 hB (by omega) ?_ | refine Q0 hB rfl ?_ | refine Q1 hB (by decide) ?_ | refine Q2 hB (by decide) ?_ | refine Q3 hB (by decide) ?_ | refine Q4 hB (by decide) ?_ | refine Q5 hB (by decide) ?_ | refine Q6 hB (by decide) ?_ | refine Q7 hB (by omega) (by omega) ?_ | refine Q8 hB ?_ | refine Q9 hB ?_ | refine Qa hB ?_ | refine Qb hB (fun _ => ?_) (fun _ => ?_) | refine Qc hB ?_ | refine Qd hB ?_ | refine Qe hB ?_ | refine Qf hB ?_ | refine Qg hB ?_ | refine Qh hB ?_ | refine Qi hB ?_ | refine Qj hB rfl ?_ | refine Qk hB rfl ?_ | refine Ql hB (by first | omega | decide) ?_ | refine Qm hB rfl ?_ | refine Qn hB ?_ | refine Qo hB rfl ?_ | refine Qo hB (Qp rfl) ?_ | refine Qq hB rfl ?_ | refine Qr hB ?_ | refine Qs hB ?_ | refine Qt hB ?_ | refine Qu hB ?_ | refine Qv hB rfl ?_) <;> conv => lhs; whnf)
      exact k1 rfl _
    | succ i =>
      have hx : b.mark[i]? = some b.mark[i] := by simp
      have hd : (b.mark.take (i + 1)).reverse = b.mark[i] :: (b.mark.take i).reverse := by
        rw [List.take_add_one, List.getElem?_eq_getElem (by omega)]
        simp
      have hc : okDigit b.mark[i] = true := List.all_eq_true.1 hs _ (List.getElem_mem _)
      rw [hd] at k1 k2
      generalize b.mark[i] = c at hx hc k1 k2
      have hcl := c.toNat_lt
      have hw := small_tdiv hm
      conv => lhs; whnf
      repeat' ((first | refine Qw hB ?_ | refine Q3 hB (by omega) ?_ | refine QC hB (m := i) (by omega) ?_ | refine nthb_step hB hx ?_ | refine Qi hB ?_ | refine sub_u8 hB (by simp_all [okDigit, within]; omega) (by omega) ?_ | refine eq_split hB (fun _ => ?_) (fun _ => ?_) | refine Qm hB (rem_i64 (by decide)) ?_ | refine Qm hB (quo_i64 (by decide) (by unfold Small at hw; omega) (by unfold Small at hw; omega)) ?_ | refine sub_step hB (by omega) (by omega) ?_ | refine Q0 hB rfl ?_ | refine Q1 hB (by decide) ?_ | refine Q2 hB (by decide) ?_ | refine Q3 hB (by decide) ?_ | refine Q4 hB (by decide) ?_ | refine Q5 hB (by decide) ?_ | refine Q6 hB (by decide) ?_ | refine Q7 hB (by omega) (by omega) ?_ | refine Q8 hB ?_ | refine Q9 hB ?_ | refine Qa hB ?_ | refine Qb hB (fun _ => ?_) (fun _ => ?_) | refine Qc hB ?_ | refine Qd hB ?_ | refine Qe hB ?_ | refine Qf hB ?_ | refine Qg hB ?_ | refine Qh hB ?_ | refine Qi hB ?_ | refine Qj hB rfl ?_ | refine Qk hB rfl ?_ | refine Ql hB (by first | omega | decide) ?_ | refine Qm hB rfl ?_ | refine Qn hB ?_ | refine Qo hB rfl ?_ | refine Qo hB (Qp rfl) ?_ | refine Qq hB rfl ?_ | refine Qr hB ?_ | refine Qs hB ?_ | refine Qt hB ?_ | refine Qu hB ?_ | refine Qv hB rfl ?_) <;> conv => lhs; whnf)
      · have hb : sealGo (c :: (b.mark.take i).reverse) m = sealGo (b.mark.take i).reverse (m.tdiv 10) := by clear ih k1 k2; simp_all [sealGo]
        rw [hb] at k1 k2
        exact ih i _ _ hw (by omega) (by omega) (by omega) k1 k2
      · have hb : sealGo (c :: (b.mark.take i).reverse) m = sealGo (b.mark.take i).reverse (m.tdiv 10) := by clear ih k1 k2; simp_all [sealGo]
        rw [hb] at k1 k2
        exact ih i _ _ hw (by omega) (by omega) (by omega) k1 k2
      · have hb : sealGo (c :: (b.mark.take i).reverse) m = false := by clear ih k1 k2; simp_all [sealGo]
        exact k2 hb _
theorem couldF_ev {n : Nat} (d : Desk) (hd : d.ok) (hck : d.check = true) (i k : Nat) {zi zk : Int} (hzi : zi = (i : Int)) (hzk : zk = (k : Int)) (b : Box) (p : Parcel) (hb : d.bs[i]? = some b) (hp : d.ps[k]? = some p) (hn : 1000000000000010 ≤ n) :
    (evKR Bk Gx fsT n).1 0 56 [d.v, .int .i64 zi, .int .i64 zk] [] ansK = some (.bool (couldB d b p), []) := by
  refine call_open (show fsT.find 56 = some a56 from rfl) (by omega) fun n B cl rd hn' hB hcl hrd => ?_
  have hf := check_fine hck
  have fb := hf.b b (List.mem_of_getElem? hb)
  have fp := hf.p p (List.mem_of_getElem? hp)
  have hl := hd.str b (List.mem_of_getElem? hb)
  have hxb : (d.bs.map Box.c)[i]? = some b.c := by simp [hb]
  have hxp : (d.ps.map Parcel.c)[k]? = some p.c := by simp [hp]
  have hck2 := hck
  simp only [Desk.check, Bool.and_eq_true, List.all_eq_true, isSpan, within, decide_eq_true_eq] at hck2
  obtain ⟨⟨⟨⟨⟨⟨c1, c2⟩, c3⟩, c4⟩, c5⟩, c6⟩, c7⟩ := hck2
  have cb := c7 b (List.mem_of_getElem? hb)
  simp only [okBox, isSpan, within, Bool.and_eq_true, decide_eq_true_eq] at cb
  have HTo := To_ev (n := n) (by omega) (p.weight - d.wear) p.weight
  have HCo := Common_ev (n := n) (by omega) b.low b.high (p.weight - d.wear) p.weight
  have HHa := Has_ev (n := n) (by omega) d.lo d.hi (b.day - p.day)
  rw [← hcl] at HTo HCo HHa
  obtain ⟨s1, s2, s3, s4, s5⟩ := fb
  obtain ⟨t1, t2, t3, t4⟩ := fp
  have w3 := hf.wear
  have hseal : sealB b p = sealGo (b.mark.take b.mark.length).reverse p.mark := by rw [List.take_length]; rfl
  unfold Small at *
  conv => lhs; whnf
  repeat' ((first | refine Qw hB ?_ | refine QC hB hzi ?_ | refine QC hB hzk ?_ | refine QB hB hxb ?_ | refine QB hB hxp ?_ | refine sub_step hB (by first | omega | (simp only [Int.ofNat_eq_natCast]; omega)) (by first | omega | (simp only [Int.ofNat_eq_natCast]; omega)) ?_ | refine Qx hB HTo ?_ | refine Qx hB HCo ?_ | refine Qy hB HHa (fun hh => ?_) (fun hh => ?_) | refine lt_split hB (fun hlt => ?_) (fun hlt => ?_) | refine a56_L1_step hB b hl s5 _ _ _ _ _ _ _ b.mark.length p.mark _ t3 (by simp only [Int.ofNat_eq_natCast]) (by omega) (by omega) (fun hsl e => ?_) (fun hsl e => ?_) | refine Q0 hB rfl ?_ | refine Q1 hB (by decide) ?_ | refine Q2 hB (by decide) ?_ | refine Q3 hB (by decide) ?_ | refine Q4 hB (by decide) ?_ | refine Q5 hB (by decide) ?_ | refine Q6 hB (by decide) ?_ | refine Q7 hB (by omega) (by omega) ?_ | refine Q8 hB ?_ | refine Q9 hB ?_ | refine Qa hB ?_ | refine Qb hB (fun _ => ?_) (fun _ => ?_) | refine Qc hB ?_ | refine Qd hB ?_ | refine Qe hB ?_ | refine Qf hB ?_ | refine Qg hB ?_ | refine Qh hB ?_ | refine Qi hB ?_ | refine Qj hB rfl ?_ | refine Qk hB rfl ?_ | refine Ql hB (by first | omega | decide) ?_ | refine Qm hB rfl ?_ | refine Qn hB ?_ | refine Qo hB rfl ?_ | refine Qo hB (Qp rfl) ?_ | refine Qq hB rfl ?_ | refine Qr hB ?_ | refine Qs hB ?_ | refine Qt hB ?_ | refine Qu hB ?_ | refine Qv hB rfl ?_) <;> conv => lhs; whnf)
  all_goals
    refine congrArg some (congrArg (·, []) (congrArg AV.bool ?_))
    have hday : dayB d b p = within (b.day - p.day) d.lo d.hi := rfl
    have hwt : weightB d b p = decide (¬ loI b.high p.weight < hiI b.low (p.weight - d.wear)) := by
      unfold weightB loI hiI
      rw [Bool.eq_iff_iff]
      simp only [Bool.and_eq_true, decide_eq_true_eq]
      split <;> split <;> omega
    unfold couldB
    rw [hday, hh]
  · rw [hwt]; simp [hlt]
  · rw [hwt, hseal, hsl]; simp [hlt]
  · rw [hseal, hsl]; simp
  · simp
end Go.Ab.Cl

namespace Go.Ab.Cl
open Go.Ab

theorem and_all2 : ∀ t : Fin 512, ∀ k : Fin 9, isI (binAV .and (.int .i64 (Int.fdiv (t.val : Int) (2 ^ k.val))) (.int .i64 1)) (if t.val.testBit k.val = true then 1 else 0) = true := by decide +kernel
theorem and_ok2 {t k : Nat} (ht : t < 512) (hk : k < 9) : binAV .and (.int .i64 (Int.fdiv (t : Int) (2 ^ k))) (.int .i64 1) = some (.int .i64 (if t.testBit k = true then 1 else 0)) := isI_ok (and_all2 ⟨t, ht⟩ ⟨k, hk⟩)
theorem shr_ok2 {t k : Nat} {a b : Int} (ha : a = (t : Int)) (hb : b = (k : Int)) (hk : k < 64) : binAV .shr (.int .i64 a) (.int .i64 b) = some (.int .i64 (Int.fdiv (t : Int) (2 ^ k))) := by
  subst ha hb
  have h : ¬ ((k : Int) < 0) := by omega
  have h2 : min k IntKind.i64.bits = k := Nat.min_eq_left (by show k ≤ 64; omega)
  simp [binAV, h, h2]
theorem In_ev {n : Nat} (hn : 2 ≤ n) (t k : Nat) (ht : t < 512) (hk : k < 9) {zt zk : Int} (hzt : zt = (t : Int)) (hzk : zk = (k : Int)) : (evKR Bk Gx fsT n).1 0 40 [.int .i64 zt, .int .i64 zk] [] ansK = some (.bool (t.testBit k), []) := by
  refine call_open (show fsT.find 40 = some a40 from rfl) (by omega) fun n' B cl rd hn' hB hcl hrd => ?_
  conv => lhs; whnf
  repeat' ((first | refine Qw hB ?_ | refine Qm hB (shr_ok2 hzt hzk (by omega)) ?_ | refine Qm hB (and_ok2 ht hk) ?_ | refine eq_split hB (fun h => ?_) (fun h => ?_) | refine Q0 hB rfl ?_ | refine Q1 hB (by decide) ?_ | refine Q2 hB (by decide) ?_ | refine Q3 hB (by decide) ?_ | refine Q4 hB (by decide) ?_ | refine Q5 hB (by decide) ?_ | refine Q6 hB (by decide) ?_ | refine Q7 hB (by omega) (by omega) ?_ | refine Q8 hB ?_ | refine Q9 hB ?_ | refine Qa hB ?_ | refine Qb hB (fun _ => ?_) (fun _ => ?_) | refine Qc hB ?_ | refine Qd hB ?_ | refine Qe hB ?_ | refine Qf hB ?_ | refine Qg hB ?_ | refine Qh hB ?_ | refine Qi hB ?_ | refine Qj hB rfl ?_ | refine Qk hB rfl ?_ | refine Ql hB (by first | omega | decide) ?_ | refine Qm hB rfl ?_ | refine Qn hB ?_ | refine Qo hB rfl ?_ | refine Qo hB (Qp rfl) ?_ | refine Qq hB rfl ?_ | refine Qr hB ?_ | refine Qs hB ?_ | refine Qt hB ?_ | refine Qu hB ?_ | refine Qv hB rfl ?_) <;> conv => lhs; whnf)
  all_goals
    cases hb : t.testBit k
    · simp_all
    · simp_all
theorem askedF_ev {n : Nat} (hn : 1000000000000020 ≤ n) (d : Desk) (hd : d.ok) (ok : Bool) : (evKR Bk Gx fsT n).1 0 55 [d.v, .bool ok] [] ansK = some (.int .i64 (if d.check = true then (if ok = true then 0 else 91) else 90), []) := by
  refine call_open (show fsT.find 55 = some a55 from rfl) (by omega) fun n' B cl rd hn' hB hcl hrd => ?_
  have HC := CheckR_ev (n := n') d hd (by omega)
  rw [← hcl] at HC
  cases hc : d.check <;> cases ok
  all_goals
    rw [hc] at HC
    conv => lhs; whnf
    repeat' ((first | refine Qw hB ?_ | refine Qv hB hd.tp ?_ | refine Qv hB hd.tb ?_ | refine Q0 hB (by simp [purs, pur, hd.tp, hd.tb]) ?_ | refine Qx hB HC ?_ | refine Q0 hB rfl ?_ | refine Q1 hB (by decide) ?_ | refine Q2 hB (by decide) ?_ | refine Q3 hB (by decide) ?_ | refine Q4 hB (by decide) ?_ | refine Q5 hB (by decide) ?_ | refine Q6 hB (by decide) ?_ | refine Q7 hB (by omega) (by omega) ?_ | refine Q8 hB ?_ | refine Q9 hB ?_ | refine Qa hB ?_ | refine Qb hB (fun _ => ?_) (fun _ => ?_) | refine Qc hB ?_ | refine Qd hB ?_ | refine Qe hB ?_ | refine Qf hB ?_ | refine Qg hB ?_ | refine Qh hB ?_ | refine Qi hB ?_ | refine Qj hB rfl ?_ | refine Qk hB rfl ?_ | refine Ql hB (by first | omega | decide) ?_ | refine Qm hB rfl ?_ | refine Qn hB ?_ | refine Qo hB rfl ?_ | refine Qo hB (Qp rfl) ?_ | refine Qq hB rfl ?_ | refine Qr hB ?_ | refine Qs hB ?_ | refine Qt hB ?_ | refine Qu hB ?_ | refine Qv hB rfl ?_) <;> conv => lhs; whnf)
  all_goals rfl

/-- Can the last m boxes be something, all of them? -/
def refAny (d : Desk) (i t : Nat) (st : Int) (rest : Nat → Int → Bool) (j : Nat) : Bool := (List.range' j (d.ps.length - j)).any fun k => fitsB d i t k && rest (t ||| 1 <<< k) st
def refCan (d : Desk) : Nat → Nat → Int → Bool
  | 0, _, _ => true
  | m + 1, t, st => (oddB d (d.bs.length - (m + 1)) && decide (st < d.strange) && refCan d m t (st + 1)) || refAny d (d.bs.length - (m + 1)) t st (refCan d m) 0
theorem refAny_end {d : Desk} {i t : Nat} {st : Int} {rest : Nat → Int → Bool} {j : Nat} (h : d.ps.length ≤ j) : refAny d i t st rest j = false := by
  unfold refAny
  rw [Nat.sub_eq_zero_of_le h]; rfl
theorem refAny_step {d : Desk} {i t : Nat} {st : Int} {rest : Nat → Int → Bool} {j : Nat} (h : j < d.ps.length) : refAny d i t st rest j = ((fitsB d i t j && rest (t ||| 1 <<< j) st) || refAny d i t st rest (j + 1)) := by
  unfold refAny
  rw [show d.ps.length - j = (d.ps.length - (j + 1)) + 1 by omega, List.range'_succ, List.any_cons]
theorem refCan_iff {d : Desk} : ∀ (m t : Nat) (st : Int), refCan d m t st = true ↔ ∃ l, Suf d (fun _ => none) m t st l
  | 0, t, st => ⟨fun _ => ⟨[], rfl⟩, fun _ => rfl⟩
  | m + 1, t, st => by
    simp only [refCan, refAny, Bool.or_eq_true, Bool.and_eq_true, decide_eq_true_eq, List.any_eq_true, List.mem_range', refCan_iff m]
    constructor
    · rintro (⟨⟨h1, h2⟩, l, h3⟩ | ⟨k, _, h2, l, h3⟩)
      · exact ⟨-1 :: l, -1, l, rfl, opts_iff.2 (.inl ⟨rfl, h1⟩), rfl, by rw [if_pos rfl]; exact ⟨by omega, h3⟩⟩
      · have hk : ¬ ((k : Int) = -1) := by omega
        exact ⟨(k : Int) :: l, (k : Int), l, rfl, opts_iff.2 (.inr ⟨k, rfl, h2⟩), rfl, by rw [if_neg hk]; exact h3⟩
    · rintro ⟨_, k, l, rfl, h1, h2, h3⟩
      rcases opts_iff.1 h1 with ⟨rfl, h4⟩ | ⟨k, rfl, h4⟩
      · rw [if_pos rfl] at h3
        exact .inl ⟨⟨h4, by omega⟩, l, h3.2⟩
      · have hk : ¬ ((k : Int) = -1) := by omega
        rw [if_neg hk, Int.toNat_natCast] at h3
        have h5 := h4
        rw [fits_fit, Bool.and_eq_true] at h5
        have := (fit_lt h5.2).2
        exact .inr ⟨k, ⟨k, by omega, by omega⟩, h4, l, h3⟩
theorem refCan_true {d : Desk} (hc : d.check = true) : refCan d d.bs.length 0 0 = trueB d := by
  have hs := check_strange hc
  rw [Bool.eq_iff_iff, refCan_iff, true_iff hc]
  constructor
  · rintro ⟨l, h⟩; exact ⟨l, ((Suf_all hs.1).1 h).1⟩
  · rintro ⟨l, h⟩; exact ⟨l, (Suf_all hs.1).2 ⟨h, fun _ _ _ => rfl⟩⟩

theorem a77_L1_step {B : Bnd} (hB : B = Bk) {cl : CallK} {rd : RoundK} (d : Desk) (hd : d.ok) (hc : d.check = true) (i t : Nat) (ht : t < 256) (b : Box) (hb : d.bs[i]? = some b) (st : Int) {zi zt : Int} (hzi : zi = (i : Int)) (hzt : zt = (t : Int)) (rest : Nat → Int → Bool)
    (H40 : ∀ k : Nat, k < 9 → cl 0 40 [.int .i64 zt, .int .i64 (k : Int)] [] ansK = some (.bool (t.testBit k), []))
    (H56 : ∀ (k : Nat) (p : Parcel), d.ps[k]? = some p → cl 0 56 [d.v, .int .i64 zi, .int .i64 (k : Int)] [] ansK = some (.bool (couldB d b p), []))
    (H77 : ∀ (t' : Nat), t' < 256 → cl 0 77 [d.v, .int .i64 (zi + 1), .int .i64 (t' : Int), .int .i64 st] [] ansK = some (.bool (rest t' st), []))
    (n : Nat) (k : Ex → Env → St → Ans) (r : Ans) :
    ∀ (j i0 : Nat), d.ps.length < i0 + j → i0 ≤ d.ps.length →
    (refAny d i t st rest i0 = false → ∀ e, k (.exit 0) e [⟨[.cells d.c], []⟩] = r) →
    (refAny d i t st rest i0 = true → ∀ e f g h, k .ret ((1, f) :: (2, g) :: (3, h) :: (4, .ptr 0 0 0) :: (8, .bool true) :: e) [⟨[.cells d.c], []⟩] = r) →
    B.loop (evCK B a77_L1) [1, 2, 3, 4, 8, 9] n j cl rd Gx 0 1 [(1, .int .i64 zi), (2, .int .i64 zt), (3, .int .i64 st), (4, .ptr 0 0 0), (8, .bool false), (9, .int .i64 (.ofNat i0))] [⟨[.cells d.c], []⟩] k = r := by
  intro j
  induction j with
  | zero => intro i0 h1 h2; omega
  | succ j ih =>
    intro i0 h1 h2 k1 k2
    have hnp := (check_fine hc).np
    have hi := (List.getElem?_eq_some_iff.1 hb).1
    have hnb := (check_fine hc).nb
    refine loop_succ hB ?_
    conv => lhs; whnf
    (repeat' ((first | refine Qn hB ?_ | refine Qr hB ?_ | refine Qj hB rfl ?_ | refine Qf hB ?_) <;> conv => lhs; whnf))
    refine lt_nat hB (fun h => ?_) (fun h => ?_) <;> conv => lhs; whnf
    · obtain ⟨p, hp⟩ := meantRow d h
      have hfit : fitsB d i t i0 = (!t.testBit i0 && couldB d b p) := by simp [fitsB, hb, hp]
      have HIn := H40 i0 (by omega)
      have HC := H56 i0 p hp
      have HR := H77 (t ||| 1 <<< i0) (bits_lt ht (by omega))
      rw [refAny_step h, hfit] at k1 k2
      repeat' ((first | refine Qw hB ?_ | refine Qv hB hd.tp ?_ | refine Qv hB hd.tb ?_ | refine Q0 hB (by simp [purs, pur, hd.tp, hd.tb]) ?_ | refine Qy hB HIn (fun a1 => ?_) (fun a1 => ?_) | refine Qy hB HC (fun a2 => ?_) (fun a2 => ?_) | refine add_step hB (by omega) (by omega) ?_ | refine Qm hB (shl_ok rfl (by omega)) ?_ | refine Qm hB (or_ok hzt ht (by omega)) ?_ | refine Qy hB HR (fun a3 => ?_) (fun a3 => ?_) | refine Q0 hB rfl ?_ | refine Q1 hB (by decide) ?_ | refine Q2 hB (by decide) ?_ | refine Q3 hB (by decide) ?_ | refine Q4 hB (by decide) ?_ | refine Q5 hB (by decide) ?_ | refine Q6 hB (by decide) ?_ | refine Q7 hB (by omega) (by omega) ?_ | refine Q8 hB ?_ | refine Q9 hB ?_ | refine Qa hB ?_ | refine Qb hB (fun _ => ?_) (fun _ => ?_) | refine Qc hB ?_ | refine Qd hB ?_ | refine Qe hB ?_ | refine Qf hB ?_ | refine Qg hB ?_ | refine Qh hB ?_ | refine Qi hB ?_ | refine Qj hB rfl ?_ | refine Qk hB rfl ?_ | refine Ql hB (by first | omega | decide) ?_ | refine Qm hB rfl ?_ | refine Qn hB ?_ | refine Qo hB rfl ?_ | refine Qo hB (Qp rfl) ?_ | refine Qq hB rfl ?_ | refine Qr hB ?_ | refine Qs hB ?_ | refine Qt hB ?_ | refine Qu hB ?_ | refine Qv hB rfl ?_) <;> conv => lhs; whnf)
      · rw [a1] at k1 k2
        exact ih (i0 + 1) (by omega) (by omega) k1 k2
      · refine k2 ?_ _ _ _ _
        rw [a1, a2, a3]; rfl
      · rw [a1, a2, a3] at k1 k2
        exact ih (i0 + 1) (by omega) (by omega) k1 k2
      · rw [a1, a2] at k1 k2
        exact ih (i0 + 1) (by omega) (by omega) k1 k2
    · repeat' ((first | refine Q0 hB rfl ?_ | refine Q1 hB (by decide) ?_ | refine Q2 hB (by decide) ?_ | refine Q3 hB (by decide) ?_ | refine Q4 hB (by decide) ?_ | refine Q5 hB (by decide) ?_ | refine Q6 hB (by decide) ?_ | refine Q7 hB (by omega) (by omega) ?_ | refine Q8 hB ?_ | refine Q9 hB ?_ | refine Qa hB ?_ | refine Qb hB (fun _ => ?_) (fun _ => ?_) | refine Qc hB ?_ | refine Qd hB ?_ | refine Qe hB ?_ | refine Qf hB ?_ | refine Qg hB ?_ | refine Qh hB ?_ | refine Qi hB ?_ | refine Qj hB rfl ?_ | refine Qk hB rfl ?_ | refine Ql hB (by first | omega | decide) ?_ | refine Qm hB rfl ?_ | refine Qn hB ?_ | refine Qo hB rfl ?_ | refine Qo hB (Qp rfl) ?_ | refine Qq hB rfl ?_ | refine Qr hB ?_ | refine Qs hB ?_ | refine Qt hB ?_ | refine Qu hB ?_ | refine Qv hB rfl ?_) <;> conv => lhs; whnf)
      refine k1 (refAny_end (by omega)) _

theorem canF_ev {d : Desk} (hd : d.ok) (hc : d.check = true) : ∀ (m : Nat) {n : Nat}, m ≤ d.bs.length → 1000000000000100 + 4 * m ≤ n → ∀ (t : Nat), t < 256 → ∀ (st : Int), 0 ≤ st → st ≤ 6 → ∀ {zi zt : Int}, zi = ((d.bs.length - m : Nat) : Int) → zt = (t : Int) →
    (evKR Bk Gx fsT n).1 0 77 [d.v, .int .i64 zi, .int .i64 zt, .int .i64 st] [] ansK = some (.bool (refCan d m t st), []) := by
  intro m
  induction m with
  | zero =>
    intro n hm hn t ht st h0 h6 zi zt hzi hzt
    refine call_open (show fsT.find 77 = some a77 from rfl) (by omega) fun n' B cl rd hn' hB hcl hrd => ?_
    conv => lhs; whnf
    repeat' ((first | refine Qw hB ?_ | refine Q5 hB (by simp only [Int.ofNat_eq_natCast]; omega) ?_ | refine Q0 hB rfl ?_ | refine Q1 hB (by decide) ?_ | refine Q2 hB (by decide) ?_ | refine Q3 hB (by decide) ?_ | refine Q4 hB (by decide) ?_ | refine Q5 hB (by decide) ?_ | refine Q6 hB (by decide) ?_ | refine Q7 hB (by omega) (by omega) ?_ | refine Q8 hB ?_ | refine Q9 hB ?_ | refine Qa hB ?_ | refine Qb hB (fun _ => ?_) (fun _ => ?_) | refine Qc hB ?_ | refine Qd hB ?_ | refine Qe hB ?_ | refine Qf hB ?_ | refine Qg hB ?_ | refine Qh hB ?_ | refine Qi hB ?_ | refine Qj hB rfl ?_ | refine Qk hB rfl ?_ | refine Ql hB (by first | omega | decide) ?_ | refine Qm hB rfl ?_ | refine Qn hB ?_ | refine Qo hB rfl ?_ | refine Qo hB (Qp rfl) ?_ | refine Qq hB rfl ?_ | refine Qr hB ?_ | refine Qs hB ?_ | refine Qt hB ?_ | refine Qu hB ?_ | refine Qv hB rfl ?_) <;> conv => lhs; whnf)
    all_goals rfl
  | succ m ih =>
    intro n hm hn t ht st h0 h6 zi zt hzi hzt
    refine call_open (show fsT.find 77 = some a77 from rfl) (by omega) fun n' B cl rd hn' hB hcl hrd => ?_
    have hnb := (check_fine hc).nb
    have hnp := (check_fine hc).np
    have hst := check_strange hc
    obtain ⟨b, hb⟩ : ∃ b, d.bs[d.bs.length - (m + 1)]? = some b := ⟨d.bs[d.bs.length - (m + 1)], by simp⟩
    have hxb : (d.bs.map Box.c)[d.bs.length - (m + 1)]? = some b.c := by simp [hb]
    have hodd : oddB d (d.bs.length - (m + 1)) = !b.stamp := by simp [oddB, hb]
    have H40 : ∀ k : Nat, k < 9 → (evKR Bk Gx fsT n').1 0 40 [.int .i64 zt, .int .i64 (k : Int)] [] ansK = some (.bool (t.testBit k), []) := fun k hk => In_ev (n := n') (by omega) t k (by omega) hk hzt rfl
    have H56 : ∀ (k : Nat) (p : Parcel), d.ps[k]? = some p → (evKR Bk Gx fsT n').1 0 56 [d.v, .int .i64 zi, .int .i64 (k : Int)] [] ansK = some (.bool (couldB d b p), []) := fun k p hp => couldF_ev d hd hc _ k hzi rfl b p hb hp (by omega)
    have H77 : ∀ (t' : Nat) (st' : Int), t' < 256 → 0 ≤ st' → st' ≤ 6 → (evKR Bk Gx fsT n').1 0 77 [d.v, .int .i64 (zi + 1), .int .i64 (t' : Int), .int .i64 st'] [] ansK = some (.bool (refCan d m t' st'), []) := fun t' st' h1 h2 h3 => ih (n := n') (by omega) (by omega) t' h1 st' h2 h3 (by omega) rfl
    rw [← hcl] at H40 H56 H77
    have e1 : refCan d (m + 1) t st = ((!b.stamp && decide (st < d.strange) && refCan d m t (st + 1)) || refAny d (d.bs.length - (m + 1)) t st (refCan d m) 0) := by rw [← hodd]; rfl
    rw [e1]
    have HL := a77_L1_step hB (rd := rd) d hd hc (d.bs.length - (m + 1)) t ht b hb st hzi hzt (refCan d m) H40 H56 (fun t' ht' => H77 t' st ht' h0 h6)
    subst hzt
    rcases b with ⟨b1, b2, b3, b4, b5⟩
    cases b5
    · by_cases hs : st < d.strange
      · have HR := H77 t (st + 1) ht (by omega) (by omega)
        rw [decide_eq_true hs]
        conv => lhs; whnf
        repeat' ((first | refine Qw hB ?_ | refine Qv hB hd.tp ?_ | refine Qv hB hd.tb ?_ | refine Q0 hB (by simp [purs, pur, hd.tp, hd.tb]) ?_ | refine Q6 hB (by simp only [Int.ofNat_eq_natCast]; omega) ?_ | refine QC hB hzi ?_ | refine QB hB hxb ?_ | refine Q1 hB hs ?_ | refine add_step hB (by omega) (by omega) ?_ | refine Qy hB HR (fun a1 => ?_) (fun a1 => ?_) | refine HL _ _ _ _ 0 (by omega) (by omega) (fun a2 e => ?_) (fun a2 e f g h => ?_) | refine Q0 hB rfl ?_ | refine Q1 hB (by decide) ?_ | refine Q2 hB (by decide) ?_ | refine Q3 hB (by decide) ?_ | refine Q4 hB (by decide) ?_ | refine Q5 hB (by decide) ?_ | refine Q6 hB (by decide) ?_ | refine Q7 hB (by omega) (by omega) ?_ | refine Q8 hB ?_ | refine Q9 hB ?_ | refine Qa hB ?_ | refine Qb hB (fun _ => ?_) (fun _ => ?_) | refine Qc hB ?_ | refine Qd hB ?_ | refine Qe hB ?_ | refine Qf hB ?_ | refine Qg hB ?_ | refine Qh hB ?_ | refine Qi hB ?_ | refine Qj hB rfl ?_ | refine Qk hB rfl ?_ | refine Ql hB (by first | omega | decide) ?_ | refine Qm hB rfl ?_ | refine Qn hB ?_ | refine Qo hB rfl ?_ | refine Qo hB (Qp rfl) ?_ | refine Qq hB rfl ?_ | refine Qr hB ?_ | refine Qs hB ?_ | refine Qt hB ?_ | refine Qu hB ?_ | refine Qv hB rfl ?_) <;> conv => lhs; whnf)
        · rw [a1]; rfl
        · rw [a1, a2]; rfl
        · rw [a1, a2]; rfl
      · rw [decide_eq_false hs]
        conv => lhs; whnf
        repeat' ((first | refine Qw hB ?_ | refine Qv hB hd.tp ?_ | refine Qv hB hd.tb ?_ | refine Q0 hB (by simp [purs, pur, hd.tp, hd.tb]) ?_ | refine Q6 hB (by simp only [Int.ofNat_eq_natCast]; omega) ?_ | refine QC hB hzi ?_ | refine QB hB hxb ?_ | refine Q2 hB hs ?_ | refine HL _ _ _ _ 0 (by omega) (by omega) (fun a2 e => ?_) (fun a2 e f g h => ?_) | refine Q0 hB rfl ?_ | refine Q1 hB (by decide) ?_ | refine Q2 hB (by decide) ?_ | refine Q3 hB (by decide) ?_ | refine Q4 hB (by decide) ?_ | refine Q5 hB (by decide) ?_ | refine Q6 hB (by decide) ?_ | refine Q7 hB (by omega) (by omega) ?_ | refine Q8 hB ?_ | refine Q9 hB ?_ | refine Qa hB ?_ | refine Qb hB (fun _ => ?_) (fun _ => ?_) | refine Qc hB ?_ | refine Qd hB ?_ | refine Qe hB ?_ | refine Qf hB ?_ | refine Qg hB ?_ | refine Qh hB ?_ | refine Qi hB ?_ | refine Qj hB rfl ?_ | refine Qk hB rfl ?_ | refine Ql hB (by first | omega | decide) ?_ | refine Qm hB rfl ?_ | refine Qn hB ?_ | refine Qo hB rfl ?_ | refine Qo hB (Qp rfl) ?_ | refine Qq hB rfl ?_ | refine Qr hB ?_ | refine Qs hB ?_ | refine Qt hB ?_ | refine Qu hB ?_ | refine Qv hB rfl ?_) <;> conv => lhs; whnf)
        · rw [a2]; rfl
        · rw [a2]; rfl
    · conv => lhs; whnf
      repeat' ((first | refine Qw hB ?_ | refine Qv hB hd.tp ?_ | refine Qv hB hd.tb ?_ | refine Q0 hB (by simp [purs, pur, hd.tp, hd.tb]) ?_ | refine Q6 hB (by simp only [Int.ofNat_eq_natCast]; omega) ?_ | refine QC hB hzi ?_ | refine QB hB hxb ?_ | refine HL _ _ _ _ 0 (by omega) (by omega) (fun a2 e => ?_) (fun a2 e f g h => ?_) | refine Q0 hB rfl ?_ | refine Q1 hB (by decide) ?_ | refine Q2 hB (by decide) ?_ | refine Q3 hB (by decide) ?_ | refine Q4 hB (by decide) ?_ | refine Q5 hB (by decide) ?_ | refine Q6 hB (by decide) ?_ | refine Q7 hB (by omega) (by omega) ?_ | refine Q8 hB ?_ | refine Q9 hB ?_ | refine Qa hB ?_ | refine Qb hB (fun _ => ?_) (fun _ => ?_) | refine Qc hB ?_ | refine Qd hB ?_ | refine Qe hB ?_ | refine Qf hB ?_ | refine Qg hB ?_ | refine Qh hB ?_ | refine Qi hB ?_ | refine Qj hB rfl ?_ | refine Qk hB rfl ?_ | refine Ql hB (by first | omega | decide) ?_ | refine Qm hB rfl ?_ | refine Qn hB ?_ | refine Qo hB rfl ?_ | refine Qo hB (Qp rfl) ?_ | refine Qq hB rfl ?_ | refine Qr hB ?_ | refine Qs hB ?_ | refine Qt hB ?_ | refine Qu hB ?_ | refine Qv hB rfl ?_) <;> conv => lhs; whnf)
      · rw [a2]; rfl
      · rw [a2]; rfl
theorem told_ev {n : Nat} (hn : 1000000000000300 ≤ n) (d : Desk) (hd : d.ok) (ok : Bool) : (evKR Bk Gx fsT n).1 0 69 [d.v, .bool ok] [] ansK = some (.int .i64 (askE d ok), []) := by
  refine call_open (show fsT.find 69 = some a69 from rfl) (by omega) fun n' B cl rd hn' hB hcl hrd => ?_
  have HA := askedF_ev (n := n') (by omega) d hd ok
  rw [← hcl] at HA
  unfold askE
  cases hc : d.check
  · rw [hc] at HA
    cases ok
    all_goals
      conv => lhs; whnf
      repeat' ((first | refine Qw hB ?_ | refine Qv hB hd.tp ?_ | refine Qv hB hd.tb ?_ | refine Q0 hB (by simp [purs, pur, hd.tp, hd.tb]) ?_ | refine Qx hB HA ?_ | refine Q0 hB rfl ?_ | refine Q1 hB (by decide) ?_ | refine Q2 hB (by decide) ?_ | refine Q3 hB (by decide) ?_ | refine Q4 hB (by decide) ?_ | refine Q5 hB (by decide) ?_ | refine Q6 hB (by decide) ?_ | refine Q7 hB (by omega) (by omega) ?_ | refine Q8 hB ?_ | refine Q9 hB ?_ | refine Qa hB ?_ | refine Qb hB (fun _ => ?_) (fun _ => ?_) | refine Qc hB ?_ | refine Qd hB ?_ | refine Qe hB ?_ | refine Qf hB ?_ | refine Qg hB ?_ | refine Qh hB ?_ | refine Qi hB ?_ | refine Qj hB rfl ?_ | refine Qk hB rfl ?_ | refine Ql hB (by first | omega | decide) ?_ | refine Qm hB rfl ?_ | refine Qn hB ?_ | refine Qo hB rfl ?_ | refine Qo hB (Qp rfl) ?_ | refine Qq hB rfl ?_ | refine Qr hB ?_ | refine Qs hB ?_ | refine Qt hB ?_ | refine Qu hB ?_ | refine Qv hB rfl ?_) <;> conv => lhs; whnf)
    all_goals rfl
  · rw [hc] at HA
    cases ok
    · conv => lhs; whnf
      repeat' ((first | refine Qw hB ?_ | refine Qv hB hd.tp ?_ | refine Qv hB hd.tb ?_ | refine Q0 hB (by simp [purs, pur, hd.tp, hd.tb]) ?_ | refine Qx hB HA ?_ | refine Q0 hB rfl ?_ | refine Q1 hB (by decide) ?_ | refine Q2 hB (by decide) ?_ | refine Q3 hB (by decide) ?_ | refine Q4 hB (by decide) ?_ | refine Q5 hB (by decide) ?_ | refine Q6 hB (by decide) ?_ | refine Q7 hB (by omega) (by omega) ?_ | refine Q8 hB ?_ | refine Q9 hB ?_ | refine Qa hB ?_ | refine Qb hB (fun _ => ?_) (fun _ => ?_) | refine Qc hB ?_ | refine Qd hB ?_ | refine Qe hB ?_ | refine Qf hB ?_ | refine Qg hB ?_ | refine Qh hB ?_ | refine Qi hB ?_ | refine Qj hB rfl ?_ | refine Qk hB rfl ?_ | refine Ql hB (by first | omega | decide) ?_ | refine Qm hB rfl ?_ | refine Qn hB ?_ | refine Qo hB rfl ?_ | refine Qo hB (Qp rfl) ?_ | refine Qq hB rfl ?_ | refine Qr hB ?_ | refine Qs hB ?_ | refine Qt hB ?_ | refine Qu hB ?_ | refine Qv hB rfl ?_) <;> conv => lhs; whnf)
      all_goals rfl
    · have hnb := (check_fine hc).nb
      have HK := canF_ev hd hc d.bs.length (n := n') (Nat.le_refl _) (by omega) 0 (by omega) 0 (by omega) (by omega) (zi := 0) (zt := 0) (by simp) rfl
      rw [refCan_true hc, ← hcl] at HK
      conv => lhs; whnf
      repeat' ((first | refine Qw hB ?_ | refine Qv hB hd.tp ?_ | refine Qv hB hd.tb ?_ | refine Q0 hB (by simp [purs, pur, hd.tp, hd.tb]) ?_ | refine Qx hB HA ?_ | refine Qy hB HK (fun a1 => ?_) (fun a1 => ?_) | refine Q0 hB rfl ?_ | refine Q1 hB (by decide) ?_ | refine Q2 hB (by decide) ?_ | refine Q3 hB (by decide) ?_ | refine Q4 hB (by decide) ?_ | refine Q5 hB (by decide) ?_ | refine Q6 hB (by decide) ?_ | refine Q7 hB (by omega) (by omega) ?_ | refine Q8 hB ?_ | refine Q9 hB ?_ | refine Qa hB ?_ | refine Qb hB (fun _ => ?_) (fun _ => ?_) | refine Qc hB ?_ | refine Qd hB ?_ | refine Qe hB ?_ | refine Qf hB ?_ | refine Qg hB ?_ | refine Qh hB ?_ | refine Qi hB ?_ | refine Qj hB rfl ?_ | refine Qk hB rfl ?_ | refine Ql hB (by first | omega | decide) ?_ | refine Qm hB rfl ?_ | refine Qn hB ?_ | refine Qo hB rfl ?_ | refine Qo hB (Qp rfl) ?_ | refine Qq hB rfl ?_ | refine Qr hB ?_ | refine Qs hB ?_ | refine Qt hB ?_ | refine Qu hB ?_ | refine Qv hB rfl ?_) <;> conv => lhs; whnf)
      all_goals rw [a1]; rfl
theorem TruthF_ev {n : Nat} (hn : 1000000000000310 ≤ n) (d : Desk) (hd : d.ok) : (evKR Bk Gx fsT n).1 0 20 [d.v] [] ansK = some (.int .i64 (askE d true), []) := by
  refine call_open (show fsT.find 20 = some a20 from rfl) (by omega) fun n' B cl rd hn' hB hcl hrd => ?_
  have HA := told_ev (n := n') (by omega) d hd true
  rw [← hcl] at HA
  conv => lhs; whnf
  repeat' ((first | refine Qw hB ?_ | refine Qv hB hd.tp ?_ | refine Qv hB hd.tb ?_ | refine Q0 hB (by simp [purs, pur, hd.tp, hd.tb]) ?_ | refine Qx hB HA ?_ | refine Q0 hB rfl ?_ | refine Q1 hB (by decide) ?_ | refine Q2 hB (by decide) ?_ | refine Q3 hB (by decide) ?_ | refine Q4 hB (by decide) ?_ | refine Q5 hB (by decide) ?_ | refine Q6 hB (by decide) ?_ | refine Q7 hB (by omega) (by omega) ?_ | refine Q8 hB ?_ | refine Q9 hB ?_ | refine Qa hB ?_ | refine Qb hB (fun _ => ?_) (fun _ => ?_) | refine Qc hB ?_ | refine Qd hB ?_ | refine Qe hB ?_ | refine Qf hB ?_ | refine Qg hB ?_ | refine Qh hB ?_ | refine Qi hB ?_ | refine Qj hB rfl ?_ | refine Qk hB rfl ?_ | refine Ql hB (by first | omega | decide) ?_ | refine Qm hB rfl ?_ | refine Qn hB ?_ | refine Qo hB rfl ?_ | refine Qo hB (Qp rfl) ?_ | refine Qq hB rfl ?_ | refine Qr hB ?_ | refine Qs hB ?_ | refine Qt hB ?_ | refine Qu hB ?_ | refine Qv hB rfl ?_) <;> conv => lhs; whnf)
  all_goals rfl
end Go.Ab.Cl
