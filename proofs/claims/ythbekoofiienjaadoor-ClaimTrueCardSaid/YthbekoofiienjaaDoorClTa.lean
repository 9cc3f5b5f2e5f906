/-
  The claims, the specification: whether what was seen can be true.
-/
import Derived.Test.YthbekoofiienjaaDoorClFa
import Derived.Test.YthbekoofiienjaaDoorClZ
import Derived.Test.YthbekoofiienjaaDoorClG
namespace Go.Ab.Cl
open Go.Ab

theorem and_all2 : ∀ t : Fin 512, ∀ k : Fin 9, isI (binAV .and (.int .i64 (Int.fdiv (t.val : Int) (2 ^ k.val))) (.int .i64 1)) (if t.val.testBit k.val = true then 1 else 0) = true := by decide +kernel
theorem and_ok2 {t k : Nat} (ht : t < 512) (hk : k < 9) : binAV .and (.int .i64 (Int.fdiv (t : Int) (2 ^ k))) (.int .i64 1) = some (.int .i64 (if t.testBit k = true then 1 else 0)) := isI_ok (and_all2 ⟨t, ht⟩ ⟨k, hk⟩)
theorem shr_ok2 {t k : Nat} {a b : Int} (ha : a = (t : Int)) (hb : b = (k : Int)) (hk : k < 64) : binAV .shr (.int .i64 a) (.int .i64 b) = some (.int .i64 (Int.fdiv (t : Int) (2 ^ k))) := by
  subst ha hb
  have h : ¬ ((k : Int) < 0) := by omega
  have h2 : min k IntKind.i64.bits = k := Nat.min_eq_left (by show k ≤ 64; omega)
  simp [binAV, h, h2]
theorem In_ev {n : Nat} (hn : 2 ≤ n) (t k : Nat) (ht : t < 512) (hk : k < 9) {zt zk : Int} (hzt : zt = (t : Int)) (hzk : zk = (k : Int)) : (evKR Bk Gx fsT n).1 0 40 [.int .i64 zt, .int .i64 zk] [] ansK = some (.bool (t.testBit k), []) := by
  refine call_open (show fsT.find 40 = some a40 from rfl) (by omega) fun n' B cl rd hn' hB hcl hrd => ?_
  conv => lhs; whnf
  repeat' ((first | refine Qw hB ?_ | refine Qm hB (shr_ok2 hzt hzk (by omega)) ?_ | refine Qm hB (and_ok2 ht hk) ?_ | refine eq_split hB (fun h => ?_) (fun h => ?_) | refine Q0 hB rfl ?_ | refine Q1 hB (by decide) ?_ | refine Q2 hB (by decide) ?_ | refine Q3 hB (by decide) ?_ | refine Q4 hB (by decide) ?_ | refine Q5 hB (by decide) ?_ | refine Q6 hB (by decide) ?_ | refine Q7 hB (by omega) (by omega) ?_ | refine Q8 hB ?_ | refine Q9 hB ?_ | refine Qa hB ?_ | refine Qb hB (fun _ => ?_) (fun _ => ?_) | refine Qc hB ?_ | refine Qd hB ?_ | refine Qe hB ?_ | refine Qf hB ?_ | refine Qg hB ?_ | refine Qh hB ?_ | refine Qi hB ?_ | refine Qj hB rfl ?_ | refine Qk hB rfl ?_ | refine Ql hB (by first | omega | decide) ?_ | refine Qm hB rfl ?_ | refine Qn hB ?_ | refine Qo hB rfl ?_ | refine Qo hB (Qp rfl) ?_ | refine Qq hB rfl ?_ | refine Qr hB ?_ | refine Qs hB ?_ | refine Qt hB ?_ | refine Qu hB ?_ | refine Qv hB rfl ?_) <;> conv => lhs; whnf)
  all_goals
    cases hb : t.testBit k
    · simp_all
    · simp_all
theorem askedF_ev {n : Nat} (hn : 1000000000000020 ≤ n) (d : Desk) (hd : d.ok) (ok : Bool) : (evKR Bk Gx fsT n).1 0 55 [d.v, .bool ok] [] ansK = some (.int .i64 (if d.check = true then (if ok = true then 0 else 91) else 90), []) := by
  refine call_open (show fsT.find 55 = some a55 from rfl) (by omega) fun n' B cl rd hn' hB hcl hrd => ?_
  have HC := CheckR_ev (n := n') d hd (by omega)
  rw [← hcl] at HC
  cases hc : d.check <;> cases ok
  all_goals
    rw [hc] at HC
    conv => lhs; whnf
    repeat' ((first | refine Qw hB ?_ | refine Qv hB hd.tp ?_ | refine Qv hB hd.tb ?_ | refine Q0 hB (by simp [purs, pur, hd.tp, hd.tb]) ?_ | refine Qx hB HC ?_ | refine Q0 hB rfl ?_ | refine Q1 hB (by decide) ?_ | refine Q2 hB (by decide) ?_ | refine Q3 hB (by decide) ?_ | refine Q4 hB (by decide) ?_ | refine Q5 hB (by decide) ?_ | refine Q6 hB (by decide) ?_ | refine Q7 hB (by omega) (by omega) ?_ | refine Q8 hB ?_ | refine Q9 hB ?_ | refine Qa hB ?_ | refine Qb hB (fun _ => ?_) (fun _ => ?_) | refine Qc hB ?_ | refine Qd hB ?_ | refine Qe hB ?_ | refine Qf hB ?_ | refine Qg hB ?_ | refine Qh hB ?_ | refine Qi hB ?_ | refine Qj hB rfl ?_ | refine Qk hB rfl ?_ | refine Ql hB (by first | omega | decide) ?_ | refine Qm hB rfl ?_ | refine Qn hB ?_ | refine Qo hB rfl ?_ | refine Qo hB (Qp rfl) ?_ | refine Qq hB rfl ?_ | refine Qr hB ?_ | refine Qs hB ?_ | refine Qt hB ?_ | refine Qu hB ?_ | refine Qv hB rfl ?_) <;> conv => lhs; whnf)
  all_goals rfl

/-- Can the last m boxes be something, all of them? -/
def refAny (d : Desk) (i t : Nat) (st : Int) (rest : Nat → Int → Bool) (j : Nat) : Bool := (List.range' j (d.ps.length - j)).any fun k => fitsB d i t k && rest (t ||| 1 <<< k) st
def refCan (d : Desk) : Nat → Nat → Int → Bool
  | 0, _, _ => true
  | m + 1, t, st => (oddB d (d.bs.length - (m + 1)) && decide (st < d.strange) && refCan d m t (st + 1)) || refAny d (d.bs.length - (m + 1)) t st (refCan d m) 0
theorem refAny_end {d : Desk} {i t : Nat} {st : Int} {rest : Nat → Int → Bool} {j : Nat} (h : d.ps.length ≤ j) : refAny d i t st rest j = false := by
  unfold refAny
  rw [Nat.sub_eq_zero_of_le h]; rfl
theorem refAny_step {d : Desk} {i t : Nat} {st : Int} {rest : Nat → Int → Bool} {j : Nat} (h : j < d.ps.length) : refAny d i t st rest j = ((fitsB d i t j && rest (t ||| 1 <<< j) st) || refAny d i t st rest (j + 1)) := by
  unfold refAny
  rw [show d.ps.length - j = (d.ps.length - (j + 1)) + 1 by omega, List.range'_succ, List.any_cons]
theorem refCan_iff {d : Desk} : ∀ (m t : Nat) (st : Int), refCan d m t st = true ↔ ∃ l, Suf d (fun _ => none) m t st l
  | 0, t, st => ⟨fun _ => ⟨[], rfl⟩, fun _ => rfl⟩
  | m + 1, t, st => by
    simp only [refCan, refAny, Bool.or_eq_true, Bool.and_eq_true, decide_eq_true_eq, List.any_eq_true, List.mem_range', refCan_iff m]
    constructor
    · rintro (⟨⟨h1, h2⟩, l, h3⟩ | ⟨k, _, h2, l, h3⟩)
      · exact ⟨-1 :: l, -1, l, rfl, opts_iff.2 (.inl ⟨rfl, h1⟩), rfl, by rw [if_pos rfl]; exact ⟨by omega, h3⟩⟩
      · have hk : ¬ ((k : Int) = -1) := by omega
        exact ⟨(k : Int) :: l, (k : Int), l, rfl, opts_iff.2 (.inr ⟨k, rfl, h2⟩), rfl, by rw [if_neg hk]; exact h3⟩
    · rintro ⟨_, k, l, rfl, h1, h2, h3⟩
      rcases opts_iff.1 h1 with ⟨rfl, h4⟩ | ⟨k, rfl, h4⟩
      · rw [if_pos rfl] at h3
        exact .inl ⟨⟨h4, by omega⟩, l, h3.2⟩
      · have hk : ¬ ((k : Int) = -1) := by omega
        rw [if_neg hk, Int.toNat_natCast] at h3
        have h5 := h4
        rw [fits_fit, Bool.and_eq_true] at h5
        have := (fit_lt h5.2).2
        exact .inr ⟨k, ⟨k, by omega, by omega⟩, h4, l, h3⟩
theorem refCan_true {d : Desk} (hc : d.check = true) : refCan d d.bs.length 0 0 = trueB d := by
  have hs := check_strange hc
  rw [Bool.eq_iff_iff, refCan_iff, true_iff hc]
  constructor
  · rintro ⟨l, h⟩; exact ⟨l, ((Suf_all hs.1).1 h).1⟩
  · rintro ⟨l, h⟩; exact ⟨l, (Suf_all hs.1).2 ⟨h, fun _ _ _ => rfl⟩⟩

theorem a77_L1_step {B : Bnd} (hB : B = Bk) {cl : CallK} {rd : RoundK} (d : Desk) (hd : d.ok) (hc : d.check = true) (i t : Nat) (ht : t < 256) (b : Box) (hb : d.bs[i]? = some b) (st : Int) {zi zt : Int} (hzi : zi = (i : Int)) (hzt : zt = (t : Int)) (rest : Nat → Int → Bool)
    (H40 : ∀ k : Nat, k < 9 → cl 0 40 [.int .i64 zt, .int .i64 (k : Int)] [] ansK = some (.bool (t.testBit k), []))
    (H56 : ∀ (k : Nat) (p : Parcel), d.ps[k]? = some p → cl 0 56 [d.v, .int .i64 zi, .int .i64 (k : Int)] [] ansK = some (.bool (couldB d b p), []))
    (H77 : ∀ (t' : Nat), t' < 256 → cl 0 77 [d.v, .int .i64 (zi + 1), .int .i64 (t' : Int), .int .i64 st] [] ansK = some (.bool (rest t' st), []))
    (n : Nat) (k : Ex → Env → St → Ans) (r : Ans) :
    ∀ (j i0 : Nat), d.ps.length < i0 + j → i0 ≤ d.ps.length →
    (refAny d i t st rest i0 = false → ∀ e, k (.exit 0) e [⟨[.cells d.c], []⟩] = r) →
    (refAny d i t st rest i0 = true → ∀ e f g h, k .ret ((1, f) :: (2, g) :: (3, h) :: (4, .ptr 0 0 0) :: (8, .bool true) :: e) [⟨[.cells d.c], []⟩] = r) →
    B.loop (evCK B a77_L1) [1, 2, 3, 4, 8, 9] n j cl rd Gx 0 1 [(1, .int .i64 zi), (2, .int .i64 zt), (3, .int .i64 st), (4, .ptr 0 0 0), (8, .bool false), (9, .int .i64 (.ofNat i0))] [⟨[.cells d.c], []⟩] k = r := by
  intro j
  induction j with
  | zero => intro i0 h1 h2; omega
  | succ j ih =>
    intro i0 h1 h2 k1 k2
    have hnp := (check_fine hc).np
    have hi := (List.getElem?_eq_some_iff.1 hb).1
    have hnb := (check_fine hc).nb
    refine loop_succ hB ?_
    conv => lhs; whnf
    (repeat' ((first | refine Qn hB ?_ | refine Qr hB ?_ | refine Qj hB rfl ?_ | refine Qf hB ?_) <;> conv => lhs; whnf))
    refine lt_nat hB (fun h => ?_) (fun h => ?_) <;> conv => lhs; whnf
    · obtain ⟨p, hp⟩ := meantRow d h
      have hfit : fitsB d i t i0 = (!t.testBit i0 && couldB d b p) := by simp [fitsB, hb, hp]
      have HIn := H40 i0 (by omega)
      have HC := H56 i0 p hp
      have HR := H77 (t ||| 1 <<< i0) (bits_lt ht (by omega))
      rw [refAny_step h, hfit] at k1 k2
      repeat' ((first | refine Qw hB ?_ | refine Qv hB hd.tp ?_ | refine Qv hB hd.tb ?_ | refine Q0 hB (by simp [purs, pur, hd.tp, hd.tb]) ?_ | refine Qy hB HIn (fun a1 => ?_) (fun a1 => ?_) | refine Qy hB HC (fun a2 => ?_) (fun a2 => ?_) | refine add_step hB (by omega) (by omega) ?_ | refine Qm hB (shl_ok rfl (by omega)) ?_ | refine Qm hB (or_ok hzt ht (by omega)) ?_ | refine Qy hB HR (fun a3 => ?_) (fun a3 => ?_) | refine Q0 hB rfl ?_ | refine Q1 hB (by decide) ?_ | refine Q2 hB (by decide) ?_ | refine Q3 hB (by decide) ?_ | refine Q4 hB (by decide) ?_ | refine Q5 hB (by decide) ?_ | refine Q6 hB (by decide) ?_ | refine Q7 hB (by omega) (by omega) ?_ | refine Q8 hB ?_ | refine Q9 hB ?_ | refine Qa hB ?_ | refine Qb hB (fun _ => ?_) (fun _ => ?_) | refine Qc hB ?_ | refine Qd hB ?_ | refine Qe hB ?_ | refine Qf hB ?_ | refine Qg hB ?_ | refine Qh hB ?_ | refine Qi hB ?_ | refine Qj hB rfl ?_ | refine Qk hB rfl ?_ | refine Ql hB (by first | omega | decide) ?_ | refine Qm hB rfl ?_ | refine Qn hB ?_ | refine Qo hB rfl ?_ | refine Qo hB (Qp rfl) ?_ | refine Qq hB rfl ?_ | refine Qr hB ?_ | refine Qs hB ?_ | refine Qt hB ?_ | refine Qu hB ?_ | refine Qv hB rfl ?_) <;> conv => lhs; whnf)
      · rw [a1] at k1 k2
        exact ih (i0 + 1) (by omega) (by omega) k1 k2
      · refine k2 ?_ _ _ _ _
        rw [a1, a2, a3]; rfl
      · rw [a1, a2, a3] at k1 k2
        exact ih (i0 + 1) (by omega) (by omega) k1 k2
      · rw [a1, a2] at k1 k2
        exact ih (i0 + 1) (by omega) (by omega) k1 k2
    · repeat' ((first | refine Q0 hB rfl ?_ | refine Q1 hB (by decide) ?_ | refine Q2 hB (by decide) ?_ | refine Q3 hB (by decide) ?_ | refine Q4 hB (by decide) ?_ | refine Q5 hB (by decide) ?_ | refine Q6 hB (by decide) ?_ | refine Q7 hB (by omega) (by omega) ?_ | refine Q8 hB ?_ | refine Q9 hB ?_ | refine Qa hB ?_ | refine Qb hB (fun _ => ?_) (fun _ => ?_) | refine Qc hB ?_ | refine Qd hB ?_ | refine Qe hB ?_ | refine Qf hB ?_ | refine Qg hB ?_ | refine Qh hB ?_ | refine Qi hB ?_ | refine Qj hB rfl ?_ | refine Qk hB rfl ?_ | refine Ql hB (by first | omega | decide) ?_ | refine Qm hB rfl ?_ | refine Qn hB ?_ | refine Qo hB rfl ?_ | refine Qo hB (Qp rfl) ?_ | refine Qq hB rfl ?_ | refine Qr hB ?_ | refine Qs hB ?_ | refine Qt hB ?_ | refine Qu hB ?_ | refine Qv hB rfl ?_) <;> conv => lhs; whnf)
      refine k1 (refAny_end (by omega)) _

theorem canF_ev {d : Desk} (hd : d.ok) (hc : d.check = true) : ∀ (m : Nat) {n : Nat}, m ≤ d.bs.length → 1000000000000100 + 4 * m ≤ n → ∀ (t : Nat), t < 256 → ∀ (st : Int), 0 ≤ st → st ≤ 6 → ∀ {zi zt : Int}, zi = ((d.bs.length - m : Nat) : Int) → zt = (t : Int) →
    (evKR Bk Gx fsT n).1 0 77 [d.v, .int .i64 zi, .int .i64 zt, .int .i64 st] [] ansK = some (.bool (refCan d m t st), []) := by
  intro m
  induction m with
  | zero =>
    intro n hm hn t ht st h0 h6 zi zt hzi hzt
    refine call_open (show fsT.find 77 = some a77 from rfl) (by omega) fun n' B cl rd hn' hB hcl hrd => ?_
    conv => lhs; whnf
    repeat' ((first | refine Qw hB ?_ | refine Q5 hB (by simp only [Int.ofNat_eq_natCast]; omega) ?_ | refine Q0 hB rfl ?_ | refine Q1 hB (by decide) ?_ | refine Q2 hB (by decide) ?_ | refine Q3 hB (by decide) ?_ | refine Q4 hB (by decide) ?_ | refine Q5 hB (by decide) ?_ | refine Q6 hB (by decide) ?_ | refine Q7 hB (by omega) (by omega) ?_ | refine Q8 hB ?_ | refine Q9 hB ?_ | refine Qa hB ?_ | refine Qb hB (fun _ => ?_) (fun _ => ?_) | refine Qc hB ?_ | refine Qd hB ?_ | refine Qe hB ?_ | refine Qf hB ?_ | refine Qg hB ?_ | refine Qh hB ?_ | refine Qi hB ?_ | refine Qj hB rfl ?_ | refine Qk hB rfl ?_ | refine Ql hB (by first | omega | decide) ?_ | refine Qm hB rfl ?_ | refine Qn hB ?_ | refine Qo hB rfl ?_ | refine Qo hB (Qp rfl) ?_ | refine Qq hB rfl ?_ | refine Qr hB ?_ | refine Qs hB ?_ | refine Qt hB ?_ | refine Qu hB ?_ | refine Qv hB rfl ?_) <;> conv => lhs; whnf)
    all_goals rfl
  | succ m ih =>
    intro n hm hn t ht st h0 h6 zi zt hzi hzt
    refine call_open (show fsT.find 77 = some a77 from rfl) (by omega) fun n' B cl rd hn' hB hcl hrd => ?_
    have hnb := (check_fine hc).nb
    have hnp := (check_fine hc).np
    have hst := check_strange hc
    obtain ⟨b, hb⟩ : ∃ b, d.bs[d.bs.length - (m + 1)]? = some b := ⟨d.bs[d.bs.length - (m + 1)], by simp⟩
    have hxb : (d.bs.map Box.c)[d.bs.length - (m + 1)]? = some b.c := by simp [hb]
    have hodd : oddB d (d.bs.length - (m + 1)) = !b.stamp := by simp [oddB, hb]
    have H40 : ∀ k : Nat, k < 9 → (evKR Bk Gx fsT n').1 0 40 [.int .i64 zt, .int .i64 (k : Int)] [] ansK = some (.bool (t.testBit k), []) := fun k hk => In_ev (n := n') (by omega) t k (by omega) hk hzt rfl
    have H56 : ∀ (k : Nat) (p : Parcel), d.ps[k]? = some p → (evKR Bk Gx fsT n').1 0 56 [d.v, .int .i64 zi, .int .i64 (k : Int)] [] ansK = some (.bool (couldB d b p), []) := fun k p hp => couldF_ev d hd hc _ k hzi rfl b p hb hp (by omega)
    have H77 : ∀ (t' : Nat) (st' : Int), t' < 256 → 0 ≤ st' → st' ≤ 6 → (evKR Bk Gx fsT n').1 0 77 [d.v, .int .i64 (zi + 1), .int .i64 (t' : Int), .int .i64 st'] [] ansK = some (.bool (refCan d m t' st'), []) := fun t' st' h1 h2 h3 => ih (n := n') (by omega) (by omega) t' h1 st' h2 h3 (by omega) rfl
    rw [← hcl] at H40 H56 H77
    have e1 : refCan d (m + 1) t st = ((!b.stamp && decide (st < d.strange) && refCan d m t (st + 1)) || refAny d (d.bs.length - (m + 1)) t st (refCan d m) 0) := by rw [← hodd]; rfl
    rw [e1]
    have HL := a77_L1_step hB (rd := rd) d hd hc (d.bs.length - (m + 1)) t ht b hb st hzi hzt (refCan d m) H40 H56 (fun t' ht' => H77 t' st ht' h0 h6)
    subst hzt
    rcases b with ⟨b1, b2, b3, b4, b5⟩
    cases b5
    · by_cases hs : st < d.strange
      · have HR := H77 t (st + 1) ht (by omega) (by omega)
        rw [decide_eq_true hs]
        conv => lhs; whnf
        repeat' ((first | refine Qw hB ?_ | refine Qv hB hd.tp ?_ | refine Qv hB hd.tb ?_ | refine Q0 hB (by simp [purs, pur, hd.tp, hd.tb]) ?_ | refine Q6 hB (by simp only [Int.ofNat_eq_natCast]; omega) ?_ | refine QC hB hzi ?_ | refine QB hB hxb ?_ | refine Q1 hB hs ?_ | refine add_step hB (by omega) (by omega) ?_ | refine Qy hB HR (fun a1 => ?_) (fun a1 => ?_) | refine HL _ _ _ _ 0 (by omega) (by omega) (fun a2 e => ?_) (fun a2 e f g h => ?_) | refine Q0 hB rfl ?_ | refine Q1 hB (by decide) ?_ | refine Q2 hB (by decide) ?_ | refine Q3 hB (by decide) ?_ | refine Q4 hB (by decide) ?_ | refine Q5 hB (by decide) ?_ | refine Q6 hB (by decide) ?_ | refine Q7 hB (by omega) (by omega) ?_ | refine Q8 hB ?_ | refine Q9 hB ?_ | refine Qa hB ?_ | refine Qb hB (fun _ => ?_) (fun _ => ?_) | refine Qc hB ?_ | refine Qd hB ?_ | refine Qe hB ?_ | refine Qf hB ?_ | refine Qg hB ?_ | refine Qh hB ?_ | refine Qi hB ?_ | refine Qj hB rfl ?_ | refine Qk hB rfl ?_ | refine Ql hB (by first | omega | decide) ?_ | refine Qm hB rfl ?_ | refine Qn hB ?_ | refine Qo hB rfl ?_ | refine Qo hB (Qp rfl) ?_ | refine Qq hB rfl ?_ | refine Qr hB ?_ | refine Qs hB ?_ | refine Qt hB ?_ | refine Qu hB ?_ | refine Qv hB rfl ?_) <;> conv => lhs; whnf)
        · rw [a1]; rfl
        · rw [a1, a2]; rfl
        · rw [a1, a2]; rfl
      · rw [decide_eq_false hs]
        conv => lhs; whnf
        repeat' ((first | refine Qw hB ?_ | refine Qv hB hd.tp ?_ | refine Qv hB hd.tb ?_ | refine Q0 hB (by simp [purs, pur, hd.tp, hd.tb]) ?_ | refine Q6 hB (by simp only [Int.ofNat_eq_natCast]; omega) ?_ | refine QC hB hzi ?_ | refine QB hB hxb ?_ | refine Q2 hB hs ?_ | refine HL _ _ _ _ 0 (by omega) (by omega) (fun a2 e => ?_) (fun a2 e f g h => ?_) | refine Q0 hB rfl ?_ | refine Q1 hB (by decide) ?_ | refine Q2 hB (by decide) ?_ | refine Q3 hB (by decide) ?_ | refine Q4 hB (by decide) ?_ | refine Q5 hB (by decide) ?_ | refine Q6 hB (by decide) ?_ | refine Q7 hB (by omega) (by omega) ?_ | refine Q8 hB ?_ | refine Q9 hB ?_ | refine Qa hB ?_ | refine Qb hB (fun _ => ?_) (fun _ => ?_) | refine Qc hB ?_ | refine Qd hB ?_ | refine Qe hB ?_ | refine Qf hB ?_ | refine Qg hB ?_ | refine Qh hB ?_ | refine Qi hB ?_ | refine Qj hB rfl ?_ | refine Qk hB rfl ?_ | refine Ql hB (by first | omega | decide) ?_ | refine Qm hB rfl ?_ | refine Qn hB ?_ | refine Qo hB rfl ?_ | refine Qo hB (Qp rfl) ?_ | refine Qq hB rfl ?_ | refine Qr hB ?_ | refine Qs hB ?_ | refine Qt hB ?_ | refine Qu hB ?_ | refine Qv hB rfl ?_) <;> conv => lhs; whnf)
        · rw [a2]; rfl
        · rw [a2]; rfl
    · conv => lhs; whnf
      repeat' ((first | refine Qw hB ?_ | refine Qv hB hd.tp ?_ | refine Qv hB hd.tb ?_ | refine Q0 hB (by simp [purs, pur, hd.tp, hd.tb]) ?_ | refine Q6 hB (by simp only [Int.ofNat_eq_natCast]; omega) ?_ | refine QC hB hzi ?_ | refine QB hB hxb ?_ | refine HL _ _ _ _ 0 (by omega) (by omega) (fun a2 e => ?_) (fun a2 e f g h => ?_) | refine Q0 hB rfl ?_ | refine Q1 hB (by decide) ?_ | refine Q2 hB (by decide) ?_ | refine Q3 hB (by decide) ?_ | refine Q4 hB (by decide) ?_ | refine Q5 hB (by decide) ?_ | refine Q6 hB (by decide) ?_ | refine Q7 hB (by omega) (by omega) ?_ | refine Q8 hB ?_ | refine Q9 hB ?_ | refine Qa hB ?_ | refine Qb hB (fun _ => ?_) (fun _ => ?_) | refine Qc hB ?_ | refine Qd hB ?_ | refine Qe hB ?_ | refine Qf hB ?_ | refine Qg hB ?_ | refine Qh hB ?_ | refine Qi hB ?_ | refine Qj hB rfl ?_ | refine Qk hB rfl ?_ | refine Ql hB (by first | omega | decide) ?_ | refine Qm hB rfl ?_ | refine Qn hB ?_ | refine Qo hB rfl ?_ | refine Qo hB (Qp rfl) ?_ | refine Qq hB rfl ?_ | refine Qr hB ?_ | refine Qs hB ?_ | refine Qt hB ?_ | refine Qu hB ?_ | refine Qv hB rfl ?_) <;> conv => lhs; whnf)
      · rw [a2]; rfl
      · rw [a2]; rfl
theorem told_ev {n : Nat} (hn : 1000000000000300 ≤ n) (d : Desk) (hd : d.ok) (ok : Bool) : (evKR Bk Gx fsT n).1 0 69 [d.v, .bool ok] [] ansK = some (.int .i64 (askE d ok), []) := by
  refine call_open (show fsT.find 69 = some a69 from rfl) (by omega) fun n' B cl rd hn' hB hcl hrd => ?_
  have HA := askedF_ev (n := n') (by omega) d hd ok
  rw [← hcl] at HA
  unfold askE
  cases hc : d.check
  · rw [hc] at HA
    cases ok
    all_goals
      conv => lhs; whnf
      repeat' ((first | refine Qw hB ?_ | refine Qv hB hd.tp ?_ | refine Qv hB hd.tb ?_ | refine Q0 hB (by simp [purs, pur, hd.tp, hd.tb]) ?_ | refine Qx hB HA ?_ | refine Q0 hB rfl ?_ | refine Q1 hB (by decide) ?_ | refine Q2 hB (by decide) ?_ | refine Q3 hB (by decide) ?_ | refine Q4 hB (by decide) ?_ | refine Q5 hB (by decide) ?_ | refine Q6 hB (by decide) ?_ | refine Q7 hB (by omega) (by omega) ?_ | refine Q8 hB ?_ | refine Q9 hB ?_ | refine Qa hB ?_ | refine Qb hB (fun _ => ?_) (fun _ => ?_) | refine Qc hB ?_ | refine Qd hB ?_ | refine Qe hB ?_ | refine Qf hB ?_ | refine Qg hB ?_ | refine Qh hB ?_ | refine Qi hB ?_ | refine Qj hB rfl ?_ | refine Qk hB rfl ?_ | refine Ql hB (by first | omega | decide) ?_ | refine Qm hB rfl ?_ | refine Qn hB ?_ | refine Qo hB rfl ?_ | refine Qo hB (Qp rfl) ?_ | refine Qq hB rfl ?_ | refine Qr hB ?_ | refine Qs hB ?_ | refine Qt hB ?_ | refine Qu hB ?_ | refine Qv hB rfl ?_) <;> conv => lhs; whnf)
    all_goals rfl
  · rw [hc] at HA
    cases ok
    · conv => lhs; whnf
      repeat' ((first | refine Qw hB ?_ | refine Qv hB hd.tp ?_ | refine Qv hB hd.tb ?_ | refine Q0 hB (by simp [purs, pur, hd.tp, hd.tb]) ?_ | refine Qx hB HA ?_ | refine Q0 hB rfl ?_ | refine Q1 hB (by decide) ?_ | refine Q2 hB (by decide) ?_ | refine Q3 hB (by decide) ?_ | refine Q4 hB (by decide) ?_ | refine Q5 hB (by decide) ?_ | refine Q6 hB (by decide) ?_ | refine Q7 hB (by omega) (by omega) ?_ | refine Q8 hB ?_ | refine Q9 hB ?_ | refine Qa hB ?_ | refine Qb hB (fun _ => ?_) (fun _ => ?_) | refine Qc hB ?_ | refine Qd hB ?_ | refine Qe hB ?_ | refine Qf hB ?_ | refine Qg hB ?_ | refine Qh hB ?_ | refine Qi hB ?_ | refine Qj hB rfl ?_ | refine Qk hB rfl ?_ | refine Ql hB (by first | omega | decide) ?_ | refine Qm hB rfl ?_ | refine Qn hB ?_ | refine Qo hB rfl ?_ | refine Qo hB (Qp rfl) ?_ | refine Qq hB rfl ?_ | refine Qr hB ?_ | refine Qs hB ?_ | refine Qt hB ?_ | refine Qu hB ?_ | refine Qv hB rfl ?_) <;> conv => lhs; whnf)
      all_goals rfl
    · have hnb := (check_fine hc).nb
      have HK := canF_ev hd hc d.bs.length (n := n') (Nat.le_refl _) (by omega) 0 (by omega) 0 (by omega) (by omega) (zi := 0) (zt := 0) (by simp) rfl
      rw [refCan_true hc, ← hcl] at HK
      conv => lhs; whnf
      repeat' ((first | refine Qw hB ?_ | refine Qv hB hd.tp ?_ | refine Qv hB hd.tb ?_ | refine Q0 hB (by simp [purs, pur, hd.tp, hd.tb]) ?_ | refine Qx hB HA ?_ | refine Qy hB HK (fun a1 => ?_) (fun a1 => ?_) | refine Q0 hB rfl ?_ | refine Q1 hB (by decide) ?_ | refine Q2 hB (by decide) ?_ | refine Q3 hB (by decide) ?_ | refine Q4 hB (by decide) ?_ | refine Q5 hB (by decide) ?_ | refine Q6 hB (by decide) ?_ | refine Q7 hB (by omega) (by omega) ?_ | refine Q8 hB ?_ | refine Q9 hB ?_ | refine Qa hB ?_ | refine Qb hB (fun _ => ?_) (fun _ => ?_) | refine Qc hB ?_ | refine Qd hB ?_ | refine Qe hB ?_ | refine Qf hB ?_ | refine Qg hB ?_ | refine Qh hB ?_ | refine Qi hB ?_ | refine Qj hB rfl ?_ | refine Qk hB rfl ?_ | refine Ql hB (by first | omega | decide) ?_ | refine Qm hB rfl ?_ | refine Qn hB ?_ | refine Qo hB rfl ?_ | refine Qo hB (Qp rfl) ?_ | refine Qq hB rfl ?_ | refine Qr hB ?_ | refine Qs hB ?_ | refine Qt hB ?_ | refine Qu hB ?_ | refine Qv hB rfl ?_) <;> conv => lhs; whnf)
      all_goals rw [a1]; rfl
theorem TruthF_ev {n : Nat} (hn : 1000000000000310 ≤ n) (d : Desk) (hd : d.ok) : (evKR Bk Gx fsT n).1 0 20 [d.v] [] ansK = some (.int .i64 (askE d true), []) := by
  refine call_open (show fsT.find 20 = some a20 from rfl) (by omega) fun n' B cl rd hn' hB hcl hrd => ?_
  have HA := told_ev (n := n') (by omega) d hd true
  rw [← hcl] at HA
  conv => lhs; whnf
  repeat' ((first | refine Qw hB ?_ | refine Qv hB hd.tp ?_ | refine Qv hB hd.tb ?_ | refine Q0 hB (by simp [purs, pur, hd.tp, hd.tb]) ?_ | refine Qx hB HA ?_ | refine Q0 hB rfl ?_ | refine Q1 hB (by decide) ?_ | refine Q2 hB (by decide) ?_ | refine Q3 hB (by decide) ?_ | refine Q4 hB (by decide) ?_ | refine Q5 hB (by decide) ?_ | refine Q6 hB (by decide) ?_ | refine Q7 hB (by omega) (by omega) ?_ | refine Q8 hB ?_ | refine Q9 hB ?_ | refine Qa hB ?_ | refine Qb hB (fun _ => ?_) (fun _ => ?_) | refine Qc hB ?_ | refine Qd hB ?_ | refine Qe hB ?_ | refine Qf hB ?_ | refine Qg hB ?_ | refine Qh hB ?_ | refine Qi hB ?_ | refine Qj hB rfl ?_ | refine Qk hB rfl ?_ | refine Ql hB (by first | omega | decide) ?_ | refine Qm hB rfl ?_ | refine Qn hB ?_ | refine Qo hB rfl ?_ | refine Qo hB (Qp rfl) ?_ | refine Qq hB rfl ?_ | refine Qr hB ?_ | refine Qs hB ?_ | refine Qt hB ?_ | refine Qu hB ?_ | refine Qv hB rfl ?_) <;> conv => lhs; whnf)
  all_goals rfl
end Go.Ab.Cl

namespace Go.Ab.Cl
open Go.Ab

def nats (l : List Nat) : List Int := l.map fun x : Nat => (x : Int)
theorem tokE_step {B : Bnd} (hB : B = Bk) {t : Tok} {k : Tok → Ans} {r : Ans} (h : k (eraseTok t) = r) : B.tok t k = r := by subst hB; show tokK t k = r; rw [tokK_eq]; exact h
/-! ### Match -/
theorem row_get {l : List Int} {i : Nat} (h : i < l.length) : (rowsI l)[i]? = some [.int .i64 l[i]] := by simp [rowsI, h]
theorem a24_L1_step {B : Bnd} (hB : B = Bk) {cl : CallK} {rd : RoundK} (l m : List Int) (hl : l.length ≤ 1000000000000000) {t t' : Tok} (ht : purTok t = true) (ht' : purTok t' = true) (n : Nat) (k : Ex → Env → St → Ans) (r : Ans) :
    ∀ (j i : Nat) (ok : Bool), l.length < i + j → i ≤ l.length → (ok = true → l.length = m.length) →
    (∀ x : Int, k (.exit 0) [(0, .sl (rowsI l) t), (1, .sl (rowsI m) t'), (5, .bool (ok && decide (l.drop i = m.drop i))), (6, .int .i64 x)] [⟨[], []⟩] = r) →
    B.loop (evCK B a24_L1) [0, 1, 5, 6] n j cl rd Gx 0 1 [(0, .sl (rowsI l) t), (1, .sl (rowsI m) t'), (5, .bool ok), (6, .int .i64 (.ofNat i))] [⟨[], []⟩] k = r := by
  intro j
  induction j with
  | zero => intro i ok h1 h2; omega
  | succ j ih =>
    intro i ok h1 h2 h3 k1
    refine loop_succ hB ?_
    cases ok
    · conv => lhs; whnf
      repeat' ((first | refine Q0 hB rfl ?_ | refine Q1 hB (by decide) ?_ | refine Q2 hB (by decide) ?_ | refine Q3 hB (by decide) ?_ | refine Q4 hB (by decide) ?_ | refine Q5 hB (by decide) ?_ | refine Q6 hB (by decide) ?_ | refine Q7 hB (by omega) (by omega) ?_ | refine Q8 hB ?_ | refine Q9 hB ?_ | refine Qa hB ?_ | refine Qb hB (fun _ => ?_) (fun _ => ?_) | refine Qc hB ?_ | refine Qd hB ?_ | refine Qe hB ?_ | refine Qf hB ?_ | refine Qg hB ?_ | refine Qh hB ?_ | refine Qi hB ?_ | refine Qj hB rfl ?_ | refine Qk hB rfl ?_ | refine Ql hB (by first | omega | decide) ?_ | refine Qm hB rfl ?_ | refine Qn hB ?_ | refine Qo hB rfl ?_ | refine Qo hB (Qp rfl) ?_ | refine Qq hB rfl ?_ | refine Qr hB ?_ | refine Qs hB ?_ | refine Qt hB ?_ | refine Qu hB ?_ | refine Qv hB rfl ?_) <;> conv => lhs; whnf)
      rw [clampTok_pur ht, clampTok_pur ht']
      exact k1 _
    · have hlm := h3 rfl
      conv => lhs; whnf
      (repeat' ((first | refine Qn hB ?_ | refine Qr hB ?_ | refine Qj hB rfl ?_ | refine Qf hB ?_) <;> conv => lhs; whnf))
      refine lt_nat hB (fun h => ?_) (fun h => ?_) <;> conv => lhs; whnf
      · have hx := row_get h
        have hy := row_get (l := m) (i := i) (by omega)
        have hdl : l.drop i = l[i] :: l.drop (i + 1) := List.drop_eq_getElem_cons h
        have hdm : m.drop i = m[i] :: m.drop (i + 1) := List.drop_eq_getElem_cons (by omega)
        rw [hdl, hdm] at k1
        generalize l[i] = a at hx k1
        generalize m[i] = b at hy k1
        repeat' ((first | refine Qw hB ?_ | refine QC hB (m := i) rfl ?_ | refine QB hB hx ?_ | refine QB hB hy ?_ | refine eq_split hB (fun heq => ?_) (fun heq => ?_) | refine Q0 hB rfl ?_ | refine Q1 hB (by decide) ?_ | refine Q2 hB (by decide) ?_ | refine Q3 hB (by decide) ?_ | refine Q4 hB (by decide) ?_ | refine Q5 hB (by decide) ?_ | refine Q6 hB (by decide) ?_ | refine Q7 hB (by omega) (by omega) ?_ | refine Q8 hB ?_ | refine Q9 hB ?_ | refine Qa hB ?_ | refine Qb hB (fun _ => ?_) (fun _ => ?_) | refine Qc hB ?_ | refine Qd hB ?_ | refine Qe hB ?_ | refine Qf hB ?_ | refine Qg hB ?_ | refine Qh hB ?_ | refine Qi hB ?_ | refine Qj hB rfl ?_ | refine Qk hB rfl ?_ | refine Ql hB (by first | omega | decide) ?_ | refine Qm hB rfl ?_ | refine Qn hB ?_ | refine Qo hB rfl ?_ | refine Qo hB (Qp rfl) ?_ | refine Qq hB rfl ?_ | refine Qr hB ?_ | refine Qs hB ?_ | refine Qt hB ?_ | refine Qu hB ?_ | refine Qv hB rfl ?_) <;> conv => lhs; whnf)
        · subst heq
          rw [clampTok_pur ht, clampTok_pur ht']
          refine ih (i + 1) true (by omega) (by omega) (fun _ => hlm) fun x => ?_
          have k1 := k1 x
          simpa using k1
        · rw [clampTok_pur ht, clampTok_pur ht']
          refine ih (i + 1) false (by omega) (by omega) (fun h => by cases h) fun x => ?_
          have k1 := k1 x
          simpa [heq] using k1
      · repeat' ((first | refine Q0 hB rfl ?_ | refine Q1 hB (by decide) ?_ | refine Q2 hB (by decide) ?_ | refine Q3 hB (by decide) ?_ | refine Q4 hB (by decide) ?_ | refine Q5 hB (by decide) ?_ | refine Q6 hB (by decide) ?_ | refine Q7 hB (by omega) (by omega) ?_ | refine Q8 hB ?_ | refine Q9 hB ?_ | refine Qa hB ?_ | refine Qb hB (fun _ => ?_) (fun _ => ?_) | refine Qc hB ?_ | refine Qd hB ?_ | refine Qe hB ?_ | refine Qf hB ?_ | refine Qg hB ?_ | refine Qh hB ?_ | refine Qi hB ?_ | refine Qj hB rfl ?_ | refine Qk hB rfl ?_ | refine Ql hB (by first | omega | decide) ?_ | refine Qm hB rfl ?_ | refine Qn hB ?_ | refine Qo hB rfl ?_ | refine Qo hB (Qp rfl) ?_ | refine Qq hB rfl ?_ | refine Qr hB ?_ | refine Qs hB ?_ | refine Qt hB ?_ | refine Qu hB ?_ | refine Qv hB rfl ?_) <;> conv => lhs; whnf)
        have hi : i = l.length := by omega
        subst hi
        rw [List.drop_length, hlm, List.drop_length] at k1
        rw [clampTok_pur ht, clampTok_pur ht']
        exact k1 _
theorem Match_ev {n : Nat} (hn : 1000000000000002 ≤ n) (l m : List Int) (hl : l.length ≤ 1000000000000000) {t t' : Tok} (ht : purTok t = true) (ht' : purTok t' = true) :
    (evKR Bk Gx fsT n).1 0 24 [.sl (rowsI l) t, .sl (rowsI m) t'] [] ansK = some (.bool (decide (l = m)), []) := by
  refine call_open (show fsT.find 24 = some a24 from rfl) (by omega) fun n' B cl rd hn' hB hcl hrd => ?_
  conv => lhs; whnf
  repeat' ((first | refine Qw hB ?_ | refine Qv hB ht ?_ | refine Qv hB ht' ?_ | refine Qf hB ?_ | refine eq_split hB (fun heq => ?_) (fun heq => ?_) | refine a24_L1_step hB l m hl (purTok_clamp ht) (purTok_clamp ht') _ _ _ _ 0 _ (by omega) (by omega) (fun h => ?_) (fun x => ?_) | refine Q0 hB rfl ?_ | refine Q1 hB (by decide) ?_ | refine Q2 hB (by decide) ?_ | refine Q3 hB (by decide) ?_ | refine Q4 hB (by decide) ?_ | refine Q5 hB (by decide) ?_ | refine Q6 hB (by decide) ?_ | refine Q7 hB (by omega) (by omega) ?_ | refine Q8 hB ?_ | refine Q9 hB ?_ | refine Qa hB ?_ | refine Qb hB (fun _ => ?_) (fun _ => ?_) | refine Qc hB ?_ | refine Qd hB ?_ | refine Qe hB ?_ | refine Qf hB ?_ | refine Qg hB ?_ | refine Qh hB ?_ | refine Qi hB ?_ | refine Qj hB rfl ?_ | refine Qk hB rfl ?_ | refine Ql hB (by first | omega | decide) ?_ | refine Qm hB rfl ?_ | refine Qn hB ?_ | refine Qo hB rfl ?_ | refine Qo hB (Qp rfl) ?_ | refine Qq hB rfl ?_ | refine Qr hB ?_ | refine Qs hB ?_ | refine Qt hB ?_ | refine Qu hB ?_ | refine Qv hB rfl ?_) <;> conv => lhs; whnf)
  · exact Int.ofNat.inj heq
  · rw [Bool.true_and, List.drop_zero, List.drop_zero]
  · cases h
  · have hne : ¬ l = m := fun h => heq (by rw [h])
    rw [Bool.false_and, decide_eq_false hne]

/-! ### With -/
theorem with1 {l : List Int} (hl : l.length ≤ 1000) {t : Tok} {f : List AObj} : appAt 0 [⟨f, []⟩] 7 1 8 (.sl [] .full) (.sl (rowsI l) t) = some (if l.isEmpty = true then (.sl [] .full, [⟨f, []⟩]) else (.sl (rowsI l) (.site 0 7 1), [⟨f, [(7, 1, l.length)]⟩])) := by
  cases l with
  | nil => rfl
  | cons a l =>
    have h1 : ((l.length + 1) * 8 ≤ 140737488355328) := by simp at hl; omega
    simp [appAt, rowsAt, rowsI, headFit, purs, pur, getTok, setTok, modFr, getFr, tokGet, tokSet, h1]
theorem with2 {l : List Int} (hl : l.length ≤ 1000) {f : List AObj} (z : Int) (hne : l ≠ []) : appAt 0 [⟨f, [(7, 1, l.length)]⟩] 10 1 8 (.sl (rowsI l) (.site 0 7 1)) (.sl [[.int .i64 z]] .full) = some (.sl (rowsI (l ++ [z])) (.site 0 7 1), [⟨f, [(7, 1, l.length + 1)]⟩]) := by
  cases l with
  | nil => exact absurd rfl hne
  | cons a l =>
    have h1 : ((l.length + 1 + 1) * 8 ≤ 140737488355328) := by simp at hl; omega
    simp [appAt, rowsAt, rowsI, headFit, purs, pur, getTok, setTok, modFr, getFr, tokGet, tokSet, h1]
theorem With_ev {n : Nat} (hn : 3 ≤ n) (l : List Int) (hl : l.length ≤ 1000) {t : Tok} (ht : purTok t = true) (z : Int) :
    (evKR Bk Gx fsT n).1 0 90 [.sl (rowsI l) t, .int .i64 z] [] ansK = some (.sl (rowsI (l ++ [z])) .any, []) := by
  refine call_open (show fsT.find 90 = some a90 from rfl) (by omega) fun n' B cl rd hn' hB hcl hrd => ?_
  cases l with
  | nil =>
    conv => lhs; whnf
    repeat' ((first | refine Qw hB ?_ | refine Qv hB ht ?_ | refine tokE_step hB ?_ | refine Q0 hB rfl ?_ | refine Q1 hB (by decide) ?_ | refine Q2 hB (by decide) ?_ | refine Q3 hB (by decide) ?_ | refine Q4 hB (by decide) ?_ | refine Q5 hB (by decide) ?_ | refine Q6 hB (by decide) ?_ | refine Q7 hB (by omega) (by omega) ?_ | refine Q8 hB ?_ | refine Q9 hB ?_ | refine Qa hB ?_ | refine Qb hB (fun _ => ?_) (fun _ => ?_) | refine Qc hB ?_ | refine Qd hB ?_ | refine Qe hB ?_ | refine Qf hB ?_ | refine Qg hB ?_ | refine Qh hB ?_ | refine Qi hB ?_ | refine Qj hB rfl ?_ | refine Qk hB rfl ?_ | refine Ql hB (by first | omega | decide) ?_ | refine Qm hB rfl ?_ | refine Qn hB ?_ | refine Qo hB rfl ?_ | refine Qo hB (Qp rfl) ?_ | refine Qq hB rfl ?_ | refine Qr hB ?_ | refine Qs hB ?_ | refine Qt hB ?_ | refine Qu hB ?_ | refine Qv hB rfl ?_) <;> conv => lhs; whnf)
    all_goals rfl
  | cons a l =>
    have h1 : ∀ t : Tok, appAt 0 [⟨[], []⟩] 7 1 8 (.sl [] .full) (.sl (rowsI (a :: l)) t) = some (.sl (rowsI (a :: l)) (.site 0 7 1), [⟨[], [(7, 1, (a :: l).length)]⟩]) := fun t => with1 hl
    have h2 : appAt 0 [⟨[], [(7, 1, (a :: l).length)]⟩] 10 1 8 (.sl (rowsI (a :: l)) (.site 0 7 1)) (.sl [[.int .i64 z]] .full) = some (.sl (rowsI ((a :: l) ++ [z])) (.site 0 7 1), [⟨[], [(7, 1, (a :: l).length + 1)]⟩]) := with2 hl z (by simp)
    conv => lhs; whnf
    repeat' ((first | refine Qw hB ?_ | refine Qv hB ht ?_ | refine Q0 hB rfl ?_ | refine Q1 hB (by decide) ?_ | refine Q2 hB (by decide) ?_ | refine Q3 hB (by decide) ?_ | refine Q4 hB (by decide) ?_ | refine Q5 hB (by decide) ?_ | refine Q6 hB (by decide) ?_ | refine Q7 hB (by omega) (by omega) ?_ | refine Q8 hB ?_ | refine Q9 hB ?_ | refine Qa hB ?_ | refine Qb hB (fun _ => ?_) (fun _ => ?_) | refine Qc hB ?_ | refine Qd hB ?_ | refine Qe hB ?_ | refine Qf hB ?_ | refine Qg hB ?_ | refine Qh hB ?_ | refine Qi hB ?_ | refine Qj hB rfl ?_ | refine Qk hB rfl ?_ | refine Ql hB (by first | omega | decide) ?_ | refine Qm hB rfl ?_ | refine Qn hB ?_ | refine Qo hB rfl ?_ | refine Qo hB (Qp rfl) ?_ | refine Qq hB rfl ?_ | refine Qr hB ?_ | refine Qs hB ?_ | refine Qt hB ?_ | refine Qu hB ?_ | refine Qv hB rfl ?_) <;> conv => lhs; whnf)
    refine Qq hB (h1 t) ?_
    conv => lhs; whnf
    repeat' ((first | refine Qw hB ?_ | refine Qv hB ht ?_ | refine Q0 hB rfl ?_ | refine Q1 hB (by decide) ?_ | refine Q2 hB (by decide) ?_ | refine Q3 hB (by decide) ?_ | refine Q4 hB (by decide) ?_ | refine Q5 hB (by decide) ?_ | refine Q6 hB (by decide) ?_ | refine Q7 hB (by omega) (by omega) ?_ | refine Q8 hB ?_ | refine Q9 hB ?_ | refine Qa hB ?_ | refine Qb hB (fun _ => ?_) (fun _ => ?_) | refine Qc hB ?_ | refine Qd hB ?_ | refine Qe hB ?_ | refine Qf hB ?_ | refine Qg hB ?_ | refine Qh hB ?_ | refine Qi hB ?_ | refine Qj hB rfl ?_ | refine Qk hB rfl ?_ | refine Ql hB (by first | omega | decide) ?_ | refine Qm hB rfl ?_ | refine Qn hB ?_ | refine Qo hB rfl ?_ | refine Qo hB (Qp rfl) ?_ | refine Qq hB rfl ?_ | refine Qr hB ?_ | refine Qs hB ?_ | refine Qt hB ?_ | refine Qu hB ?_ | refine Qv hB rfl ?_) <;> conv => lhs; whnf)
    refine Qq hB h2 ?_
    conv => lhs; whnf
    repeat' ((first | refine Qw hB ?_ | refine Qv hB ht ?_ | refine tokE_step hB ?_ | refine Q0 hB rfl ?_ | refine Q1 hB (by decide) ?_ | refine Q2 hB (by decide) ?_ | refine Q3 hB (by decide) ?_ | refine Q4 hB (by decide) ?_ | refine Q5 hB (by decide) ?_ | refine Q6 hB (by decide) ?_ | refine Q7 hB (by omega) (by omega) ?_ | refine Q8 hB ?_ | refine Q9 hB ?_ | refine Qa hB ?_ | refine Qb hB (fun _ => ?_) (fun _ => ?_) | refine Qc hB ?_ | refine Qd hB ?_ | refine Qe hB ?_ | refine Qf hB ?_ | refine Qg hB ?_ | refine Qh hB ?_ | refine Qi hB ?_ | refine Qj hB rfl ?_ | refine Qk hB rfl ?_ | refine Ql hB (by first | omega | decide) ?_ | refine Qm hB rfl ?_ | refine Qn hB ?_ | refine Qo hB rfl ?_ | refine Qo hB (Qp rfl) ?_ | refine Qq hB rfl ?_ | refine Qr hB ?_ | refine Qs hB ?_ | refine Qt hB ?_ | refine Qu hB ?_ | refine Qv hB rfl ?_) <;> conv => lhs; whnf)
    all_goals rfl

/-! ### Of -/
def ofFrom (t P j : Nat) : List Int := List.map (fun k : Nat => (k : Int)) ((List.range' j (P - j)).filter fun k => t.testBit k)
theorem ofFrom_end {t P j : Nat} (h : P ≤ j) : ofFrom t P j = [] := by
  unfold ofFrom
  rw [Nat.sub_eq_zero_of_le h]; rfl
theorem ofFrom_yes {t P j : Nat} (h : j < P) (hf : t.testBit j = true) : ofFrom t P j = (j : Int) :: ofFrom t P (j + 1) := by
  unfold ofFrom
  rw [show P - j = (P - (j + 1)) + 1 by omega, List.range'_succ, List.filter_cons_of_pos (p := fun k : Nat => t.testBit k) hf]; rfl
theorem ofFrom_no {t P j : Nat} (h : j < P) (hf : t.testBit j = false) : ofFrom t P j = ofFrom t P (j + 1) := by
  unfold ofFrom
  rw [show P - j = (P - (j + 1)) + 1 by omega, List.range'_succ, List.filter_cons_of_neg (p := fun k : Nat => t.testBit k) (by rw [hf]; exact Bool.false_ne_true)]
theorem a72_L1_step {B : Bnd} (hB : B = Bk) {cl : CallK} {rd : RoundK} (t P : Nat) (hP : P ≤ 8) {zt zP : Int} (hzP : zP = (P : Int)) (H40 : ∀ k : Nat, k < 9 → cl 0 40 [.int .i64 zt, .int .i64 (k : Int)] [] ansK = some (.bool (t.testBit k), []))
    (n : Nat) (k : Ex → Env → St → Ans) (r : Ans) :
    ∀ (j i0 : Nat) (acc : List Int), P < i0 + j → i0 ≤ P → acc.length ≤ i0 →
    (∀ x : Int, k (.exit 0) [(0, .int .i64 zt), (1, .int .i64 zP), (5, .sl (rowsI (acc ++ ofFrom t P i0)) (tk 0 18 (acc ++ ofFrom t P i0))), (6, .int .i64 x)] [⟨[], tks 18 (acc ++ ofFrom t P i0)⟩] = r) →
    B.loop (evCK B a72_L1) [0, 1, 5, 6] n j cl rd Gx 0 1 [(0, .int .i64 zt), (1, .int .i64 zP), (5, .sl (rowsI acc) (tk 0 18 acc)), (6, .int .i64 (.ofNat i0))] [⟨[], tks 18 acc⟩] k = r := by
  intro j
  induction j with
  | zero => intro i0 acc h1 h2; omega
  | succ j ih =>
    intro i0 acc h1 h2 h3 k1
    refine loop_succ hB ?_
    subst hzP
    conv => lhs; whnf
    refine lt_nat hB (fun h => ?_) (fun h => ?_) <;> conv => lhs; whnf
    · repeat' ((first | refine Qw hB ?_ | refine Qy hB (H40 i0 (by omega)) (fun hc => ?_) (fun hc => ?_) | refine Qq hB (app_tk acc (i0 : Int) (by omega) _) ?_ | refine Q0 hB rfl ?_ | refine Q1 hB (by decide) ?_ | refine Q2 hB (by decide) ?_ | refine Q3 hB (by decide) ?_ | refine Q4 hB (by decide) ?_ | refine Q5 hB (by decide) ?_ | refine Q6 hB (by decide) ?_ | refine Q7 hB (by omega) (by omega) ?_ | refine Q8 hB ?_ | refine Q9 hB ?_ | refine Qa hB ?_ | refine Qb hB (fun _ => ?_) (fun _ => ?_) | refine Qc hB ?_ | refine Qd hB ?_ | refine Qe hB ?_ | refine Qf hB ?_ | refine Qg hB ?_ | refine Qh hB ?_ | refine Qi hB ?_ | refine Qj hB rfl ?_ | refine Qk hB rfl ?_ | refine Ql hB (by first | omega | decide) ?_ | refine Qm hB rfl ?_ | refine Qn hB ?_ | refine Qo hB rfl ?_ | refine Qo hB (Qp rfl) ?_ | refine Qq hB rfl ?_ | refine Qr hB ?_ | refine Qs hB ?_ | refine Qt hB ?_ | refine Qu hB ?_ | refine Qv hB rfl ?_) <;> conv => lhs; whnf)
      · rw [ofFrom_yes h hc] at k1
        rw [clamp_tk (by omega)]
        refine ih (i0 + 1) (acc ++ [(i0 : Int)]) (by omega) (by omega) (by simp; omega) ?_
        rw [List.append_assoc]; exact k1
      · rw [ofFrom_no h hc] at k1
        rw [clamp_tk (by omega)]
        exact ih (i0 + 1) acc (by omega) (by omega) (by omega) k1
    · repeat' ((first | refine Q0 hB rfl ?_ | refine Q1 hB (by decide) ?_ | refine Q2 hB (by decide) ?_ | refine Q3 hB (by decide) ?_ | refine Q4 hB (by decide) ?_ | refine Q5 hB (by decide) ?_ | refine Q6 hB (by decide) ?_ | refine Q7 hB (by omega) (by omega) ?_ | refine Q8 hB ?_ | refine Q9 hB ?_ | refine Qa hB ?_ | refine Qb hB (fun _ => ?_) (fun _ => ?_) | refine Qc hB ?_ | refine Qd hB ?_ | refine Qe hB ?_ | refine Qf hB ?_ | refine Qg hB ?_ | refine Qh hB ?_ | refine Qi hB ?_ | refine Qj hB rfl ?_ | refine Qk hB rfl ?_ | refine Ql hB (by first | omega | decide) ?_ | refine Qm hB rfl ?_ | refine Qn hB ?_ | refine Qo hB rfl ?_ | refine Qo hB (Qp rfl) ?_ | refine Qq hB rfl ?_ | refine Qr hB ?_ | refine Qs hB ?_ | refine Qt hB ?_ | refine Qu hB ?_ | refine Qv hB rfl ?_) <;> conv => lhs; whnf)
      have hi : i0 = P := by omega
      subst hi
      rw [ofFrom_end (Nat.le_refl _), List.append_nil] at k1
      rw [clamp_tk (by omega)]
      exact k1 _
theorem Of_ev {n : Nat} (hn : 1000000000000002 ≤ n) (t P : Nat) (ht : t < 512) (hP : P ≤ 8) {zt zP : Int} (hzt : zt = (t : Int)) (hzP : zP = (P : Int)) :
    (evKR Bk Gx fsT n).1 0 72 [.int .i64 zt, .int .i64 zP] [] ansK = some (.sl (rowsI (ofFrom t P 0)) (if (ofFrom t P 0).isEmpty = true then .nil else .any), []) := by
  refine call_open (show fsT.find 72 = some a72 from rfl) (by omega) fun n' B cl rd hn' hB hcl hrd => ?_
  have H40 : ∀ k : Nat, k < 9 → (evKR Bk Gx fsT n').1 0 40 [.int .i64 zt, .int .i64 (k : Int)] [] ansK = some (.bool (t.testBit k), []) := fun k hk => In_ev (n := n') (by omega) t k (by omega) hk hzt rfl
  rw [← hcl] at H40
  conv => lhs; whnf
  repeat' ((first | refine Qw hB ?_ | refine a72_L1_step hB t P hP hzP H40 _ _ _ _ 0 [] (by omega) (by omega) (by simp) (fun x => ?_) | refine tokE_step hB ?_ | refine Q0 hB rfl ?_ | refine Q1 hB (by decide) ?_ | refine Q2 hB (by decide) ?_ | refine Q3 hB (by decide) ?_ | refine Q4 hB (by decide) ?_ | refine Q5 hB (by decide) ?_ | refine Q6 hB (by decide) ?_ | refine Q7 hB (by omega) (by omega) ?_ | refine Q8 hB ?_ | refine Q9 hB ?_ | refine Qa hB ?_ | refine Qb hB (fun _ => ?_) (fun _ => ?_) | refine Qc hB ?_ | refine Qd hB ?_ | refine Qe hB ?_ | refine Qf hB ?_ | refine Qg hB ?_ | refine Qh hB ?_ | refine Qi hB ?_ | refine Qj hB rfl ?_ | refine Qk hB rfl ?_ | refine Ql hB (by first | omega | decide) ?_ | refine Qm hB rfl ?_ | refine Qn hB ?_ | refine Qo hB rfl ?_ | refine Qo hB (Qp rfl) ?_ | refine Qq hB rfl ?_ | refine Qr hB ?_ | refine Qs hB ?_ | refine Qt hB ?_ | refine Qu hB ?_ | refine Qv hB rfl ?_) <;> conv => lhs; whnf)
  rw [List.nil_append]
  unfold tk
  split <;> rfl

/-! ### sets -/
theorem bv_nat {a : Nat} (ha : a < 512) : (BitVec.ofInt 64 (a : Int)).toNat = a := by
  rw [BitVec.ofInt_natCast, BitVec.toNat_ofNat]
  omega
theorem and_gen {a b : Nat} (ha : a < 512) (hb : b < 512) : binAV .and (.int .i64 (a : Int)) (.int .i64 (b : Int)) = some (.int .i64 ((a &&& b : Nat) : Int)) := by
  have h : a &&& b < 512 := Nat.and_lt_two_pow (n := 9) a hb
  show (if IntKind.i64 = IntKind.i64 then intBin .and .i64 (a : Int) (b : Int) else none) = _
  rw [if_pos rfl]
  show some (AV.int .i64 (wrp .i64 (BitVec.ofInt 64 (a : Int) &&& BitVec.ofInt 64 (b : Int)).toNat)) = _
  rw [BitVec.toNat_and, bv_nat ha, bv_nat hb, wrp_i64 (by omega) (by omega)]
theorem or_gen {a b : Nat} (ha : a < 512) (hb : b < 512) : binAV .or (.int .i64 (a : Int)) (.int .i64 (b : Int)) = some (.int .i64 ((a ||| b : Nat) : Int)) := by
  have h : a ||| b < 512 := Nat.or_lt_two_pow (n := 9) ha hb
  show (if IntKind.i64 = IntKind.i64 then intBin .or .i64 (a : Int) (b : Int) else none) = _
  rw [if_pos rfl]
  show some (AV.int .i64 (wrp .i64 (BitVec.ofInt 64 (a : Int) ||| BitVec.ofInt 64 (b : Int)).toNat)) = _
  rw [BitVec.toNat_or, bv_nat ha, bv_nat hb, wrp_i64 (by omega) (by omega)]
theorem shl_all9 : ∀ k : Fin 9, isI (binAV .shl (.int .i64 1) (.int .i64 (k.val : Int))) ((1 <<< k.val : Nat) : Int) = true := by decide +kernel
theorem shl_gen {k : Nat} {b : Int} (hb : b = (k : Int)) (hk : k < 9) : binAV .shl (.int .i64 1) (.int .i64 b) = some (.int .i64 ((1 <<< k : Nat) : Int)) := by subst hb; exact isI_ok (shl_all9 ⟨k, hk⟩)
end Go.Ab.Cl

namespace Go.Ab
theorem getTok_sub {f : Fr} {s : St} {l p : Nat} (h : l < s.length) : getTok (f :: s) l p = getTok s l p := by
  unfold getTok
  show (match (if l = s.length then some f else getFr s l) with | some f => tokGet f.toks p | none => (0, 0)) = _
  rw [if_neg (by omega)]
  rfl
theorem setTok_sub {f : Fr} {s : St} {l p : Nat} {x : Nat × Nat} (h : l < s.length) : setTok (f :: s) l p x = f :: setTok s l p x := by
  show (if l = s.length then _ else f :: modFr _ s l) = _
  rw [if_neg (by omega)]; rfl
theorem getTok_over {fr : List Fr} {s : St} {l p : Nat} (h : l < s.length) : getTok (fr ++ s) l p = getTok s l p := by
  induction fr with
  | nil => rfl
  | cons f fr ih => rw [List.cons_append, getTok_sub (by simp; omega), ih]
theorem setTok_over {fr : List Fr} {s : St} {l p : Nat} {x : Nat × Nat} (h : l < s.length) : setTok (fr ++ s) l p x = fr ++ setTok s l p x := by
  induction fr with
  | nil => rfl
  | cons f fr ih => rw [List.cons_append, setTok_sub (by simp; omega), ih]; rfl
end Go.Ab
namespace Go.Ab.Cl
open Go.Ab

def setI : List (Int × Int) → Int → Int → List (Int × Int)
  | [], i, k => [(i, k)]
  | (a, b) :: l, i, k => if a = i then (i, k) :: l else (a, b) :: setI l i k
theorem setI_ok (ge : List (Int × Int)) (i k : Int) : setE (.s .int) (.int .i64 i) (.int .i64 k) (intsE ge) = some (intsE (setI ge i k)) := by
  induction ge with
  | nil => rfl
  | cons p ge ih =>
    obtain ⟨a, b⟩ := p
    show (eqK (.s .int) (.int .i64 i) (.int .i64 a)).bind _ = _
    have e : eqK (.s .int) (.int .i64 i) (.int .i64 a) = some (i == a) := by simp [eqK, eqS]
    rw [e]
    simp only [Option.bind_some, setI]
    by_cases h : a = i
    · subst h; simp [intsE]
    · have h2 : (i == a) = false := by simpa using fun e => h e.symm
      rw [h2, if_neg h]
      simp only [Bool.false_eq_true, if_false]
      rw [show setE (.s .int) (.int .i64 i) (.int .i64 k) (ge.map fun p => (.int .i64 p.1, .int .i64 p.2)) = _ from ih]
      rfl
theorem look_set (ge : List (Int × Int)) (i k j : Int) : look (setI ge i k) j = if j = i then some k else look ge j := by
  induction ge with
  | nil =>
    unfold look setI
    by_cases h : j = i
    · subst h; simp
    · have h2 : (i == j) = false := by simpa using fun e => h e.symm
      simp [List.find?, h2, h]
  | cons p ge ih =>
    obtain ⟨a, b⟩ := p
    unfold setI
    by_cases h : a = i
    · subst h
      rw [if_pos rfl]
      unfold look
      by_cases h : j = a
      · subst h; simp
      · have h2 : (a == j) = false := by simpa using fun e => h e.symm
        simp [List.find?, h2, h]
    · rw [if_neg h]
      by_cases h3 : a = j
      · subst h3
        rw [if_neg h]
        simp [look]
      · have h2 : (a == j) = false := by simpa using h3
        have e1 : look ((a, b) :: setI ge i k) j = look (setI ge i k) j := by simp [look, List.find?, h2]
        have e2 : look ((a, b) :: ge) j = look ge j := by simp [look, List.find?, h2]
        rw [e1, e2, ih]

def tkf (l : List Int) : Tok := if l.isEmpty = true then .full else .site 0 44 1
theorem clamp_tkf (lv : Nat) (l : List Int) : clampTok lv (tkf l) = tkf l := by
  unfold tkf; split
  · rfl
  · simp [clampTok]
/-- The frames of Truth's rounds. -/
def TS (d : Desk) (zi : Int) (lo : AObj) (ge : List (Int × Int)) (out tout : List Int) : St :=
  [⟨[.cells [.int .i64 zi], lo], []⟩, ⟨[.cells d.c, .cells d.c, .cells [.sl (rowsI out) (tkf out)], .map (intsE ge), .cells [.mp 0 3]], tks 44 tout⟩]
section
variable {d : Desk} {zi : Int} {lo : AObj} {ge : List (Int × Int)} {out tout : List Int} {fr : List Fr}
theorem TS_len : 2 + fr.length = (fr ++ TS d zi lo ge out tout).length := by simp [TS]; omega
theorem TS_get1 : getObj (fr ++ TS d zi lo ge out tout) 0 1 = some (.cells d.c) := (getObj_over (by simp [TS])).trans rfl
theorem TS_get2 : getObj (fr ++ TS d zi lo ge out tout) 0 2 = some (.cells [.sl (rowsI out) (tkf out)]) := (getObj_over (by simp [TS])).trans rfl
theorem TS_get3 : getObj (fr ++ TS d zi lo ge out tout) 0 3 = some (.map (intsE ge)) := (getObj_over (by simp [TS])).trans rfl
theorem TS_get4 : getObj (fr ++ TS d zi lo ge out tout) 0 4 = some (.cells [.mp 0 3]) := (getObj_over (by simp [TS])).trans rfl
theorem TS_geti : getObj (fr ++ TS d zi lo ge out tout) 1 0 = some (.cells [.int .i64 zi]) := (getObj_over (by simp [TS])).trans rfl
theorem TS_getl : getObj (fr ++ TS d zi lo ge out tout) 1 1 = some lo := (getObj_over (by simp [TS])).trans rfl
theorem TS_set3 {ge' : List (Int × Int)} : setObj (fr ++ TS d zi lo ge out tout) 0 3 (.map (intsE ge')) = fr ++ TS d zi lo ge' out tout := (setObj_over (by simp [TS])).trans (congrArg (fr ++ ·) (by simp [TS, setObj, modFr, setO]))
theorem TS_set2 {out' : List Int} : setObj (fr ++ TS d zi lo ge out tout) 0 2 (.cells [.sl (rowsI out') (tkf out')]) = fr ++ TS d zi lo ge out' tout := (setObj_over (by simp [TS])).trans (congrArg (fr ++ ·) (by simp [TS, setObj, modFr, setO]))
theorem TS_setl {lo' : AObj} : setObj (fr ++ TS d zi lo ge out tout) 1 1 lo' = fr ++ TS d zi lo' ge out tout := (setObj_over (by simp [TS])).trans (congrArg (fr ++ ·) (by simp [TS, setObj, modFr, setO]))
theorem TS_app {f : Fr} (hl : out.length ≤ 1000) (z : Int) : appAt 0 (f :: (fr ++ TS d zi lo ge out out)) 44 1 8 (.sl (rowsI out) (tkf out)) (.sl [[.int .i64 z]] .full) = some (.sl (rowsI (out ++ [z])) (tkf (out ++ [z])), f :: (fr ++ TS d zi lo ge out (out ++ [z]))) := by
  have hlen : 0 < (fr ++ TS d zi lo ge out out).length := by simp [TS]
  have hlen2 : 0 < (TS d zi lo ge out out).length := by simp [TS]
  have hg : getTok (f :: (fr ++ TS d zi lo ge out out)) 0 44 = tokGet (tks 44 out) 44 := by
    rw [getTok_sub hlen, getTok_over hlen2]; rfl
  have hs : ∀ x, setTok (f :: (fr ++ TS d zi lo ge out out)) 0 44 x = f :: (fr ++ [⟨[.cells [.int .i64 zi], lo], []⟩, ⟨[.cells d.c, .cells d.c, .cells [.sl (rowsI out) (tkf out)], .map (intsE ge), .cells [.mp 0 3]], tokSet (tks 44 out) 44 x⟩]) := fun x => by
    rw [setTok_sub hlen, setTok_over hlen2]; rfl
  generalize f :: (fr ++ TS d zi lo ge out out) = s at hg hs ⊢
  cases out with
  | nil =>
    simp only [tks, List.isEmpty_nil, if_true] at hg
    simp [appAt, rowsAt, rowsI, tkf, headFit, purs, pur, hg, hs, tokGet, tks, tokSet, TS]
  | cons a out =>
    have h1 : ((out.length + 1 + 1) * 8 ≤ 140737488355328) := by simp at hl; omega
    simp only [tks, List.isEmpty_cons, Bool.false_eq_true, if_false] at hg
    simp [appAt, rowsAt, rowsI, tkf, headFit, purs, pur, hg, hs, tokGet, tks, tokSet, TS, h1]
end
end Go.Ab.Cl
