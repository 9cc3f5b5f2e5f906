/-
  The claims: Could.
-/
import Derived.Test.YthbekoofiienjaaDoorClB
namespace Go.Ab.Cl
open Go.Ab

theorem within_nat {z : Int} {l : Nat} (h : within z 0 ((l : Int) - 1) = true) : ∃ i : Nat, z = (i : Int) ∧ i < l := by
  simp [within] at h
  exact ⟨z.toNat, by omega, by omega⟩

structure Desk.fine (d : Desk) : Prop where
  wear : Small d.wear
  lo : Small d.lo
  hi : Small d.hi
  p : ∀ p ∈ d.ps, Small p.day ∧ Small p.weight ∧ Small p.mark ∧ Small p.value
  b : ∀ b ∈ d.bs, Small b.day ∧ Small b.low ∧ Small b.high ∧ okSeal b.mark = true ∧ b.mark.all okDigit = true
  np : d.ps.length ≤ 8
  nb : d.bs.length ≤ 6

theorem check_fine {d : Desk} (h : d.check = true) : d.fine := by
  simp only [Desk.check, Bool.and_eq_true, decide_eq_true_eq, List.all_eq_true, isSpan, within] at h
  obtain ⟨⟨⟨⟨⟨⟨⟨⟨h1, h2⟩, h3⟩, h4⟩, h5⟩, h6⟩, h7⟩, h8⟩, h9⟩ := h
  refine ⟨by unfold Small; omega, by unfold Small; omega, by unfold Small; omega, fun p hp => ?_, fun b hb => ?_, h6, h7⟩
  · have := h8 p hp
    simp only [okParcel, within, Bool.and_eq_true, decide_eq_true_eq] at this
    unfold Small; omega
  · have := h9 b hb
    simp only [okBox, within, isSpan, Bool.and_eq_true, decide_eq_true_eq] at this
    obtain ⟨⟨k1, k2⟩, k3⟩ := this
    have k4 := k3
    simp only [okSeal, Bool.and_eq_true] at k4
    unfold Small
    exact ⟨by omega, by omega, by omega, k3, k4.2⟩

/-- What Could returns. -/
def couldR (d : Desk) (i k : Int) : Bool × Int :=
  if d.check = true then (if within i 0 ((d.bs.length : Int) - 1) = true ∧ within k 0 ((d.ps.length : Int) - 1) = true then
    (match d.bs[i.toNat]?, d.ps[k.toNat]? with | some b, some p => (couldB d b p, 0) | _, _ => (false, 0)) else (false, 91)) else (false, 90)

theorem Could_ev {n : Nat} (d : Desk) (hd : d.ok) (i k : Int) (hn : 1000000000000006 ≤ n) :
    (evKR Bk Gx fsT n).1 0 13 [d.v, .int .i64 i, .int .i64 k] [] ansK = some (.tup [.bool (couldR d i k).1, .int .i64 (couldR d i k).2], []) := by
  refine call_open (show fsT.find 13 = some a13 from rfl) (by omega) fun n B cl rd hn' hB hcl hrd => ?_
  have HC := Check_ev (G := Gx) (n := n) d hd (by omega)
  have H52 := isBox_ev (G := Gx) (n := n) (by omega) d hd i
  have H53 := isParcel_ev (G := Gx) (n := n) (by omega) d hd k
  rw [← hcl] at HC H52 H53
  cases hck : d.check with
  | false =>
    rw [hck] at HC
    conv => lhs; whnf
    repeat' ((first | refine Qv hB hd.tp ?_ | refine Qv hB hd.tb ?_ | refine Q0 hB (by simp [purs, pur, hd.tp, hd.tb]) ?_ | refine Qx hB HC ?_ | refine Q0 hB rfl ?_ | refine Q1 hB (by decide) ?_ | refine Q2 hB (by decide) ?_ | refine Q3 hB (by decide) ?_ | refine Q4 hB (by decide) ?_ | refine Q5 hB (by decide) ?_ | refine Q6 hB (by decide) ?_ | refine Q7 hB (by omega) (by omega) ?_ | refine Q8 hB ?_ | refine Q9 hB ?_ | refine Qa hB ?_ | refine Qb hB (fun _ => ?_) (fun _ => ?_) | refine Qc hB ?_ | refine Qd hB ?_ | refine Qe hB ?_ | refine Qf hB ?_ | refine Qg hB ?_ | refine Qh hB ?_ | refine Qi hB ?_ | refine Qj hB rfl ?_ | refine Qk hB rfl ?_ | refine Ql hB (by first | omega | decide) ?_ | refine Qm hB rfl ?_ | refine Qn hB ?_ | refine Qo hB rfl ?_ | refine Qo hB (Qp rfl) ?_ | refine Qq hB rfl ?_ | refine Qr hB ?_ | refine Qs hB ?_ | refine Qt hB ?_ | refine Qu hB ?_ | refine Qv hB rfl ?_) <;> conv => lhs; whnf)
    simp [couldR, hck]
  | true =>
    rw [hck] at HC
    conv => lhs; whnf
    repeat' ((first | refine Qv hB hd.tp ?_ | refine Qv hB hd.tb ?_ | refine Q0 hB (by simp [purs, pur, hd.tp, hd.tb]) ?_ | refine Qx hB HC ?_ | refine Qy hB H52 (fun _ => ?_) (fun _ => ?_) | refine Qy hB H53 (fun _ => ?_) (fun _ => ?_) | refine Q0 hB rfl ?_ | refine Q1 hB (by decide) ?_ | refine Q2 hB (by decide) ?_ | refine Q3 hB (by decide) ?_ | refine Q4 hB (by decide) ?_ | refine Q5 hB (by decide) ?_ | refine Q6 hB (by decide) ?_ | refine Q7 hB (by omega) (by omega) ?_ | refine Q8 hB ?_ | refine Q9 hB ?_ | refine Qa hB ?_ | refine Qb hB (fun _ => ?_) (fun _ => ?_) | refine Qc hB ?_ | refine Qd hB ?_ | refine Qe hB ?_ | refine Qf hB ?_ | refine Qg hB ?_ | refine Qh hB ?_ | refine Qi hB ?_ | refine Qj hB rfl ?_ | refine Qk hB rfl ?_ | refine Ql hB (by first | omega | decide) ?_ | refine Qm hB rfl ?_ | refine Qn hB ?_ | refine Qo hB rfl ?_ | refine Qo hB (Qp rfl) ?_ | refine Qq hB rfl ?_ | refine Qr hB ?_ | refine Qs hB ?_ | refine Qt hB ?_ | refine Qu hB ?_ | refine Qv hB rfl ?_) <;> conv => lhs; whnf)
    · rename_i e1 e2
      obtain ⟨i', hi, hil⟩ := within_nat e1
      obtain ⟨k', hk, hkl⟩ := within_nat e2
      obtain ⟨b, hb⟩ : ∃ b, d.bs[i']? = some b := ⟨d.bs[i'], by simp [hil]⟩
      obtain ⟨p, hp⟩ : ∃ p, d.ps[k']? = some p := ⟨d.ps[k'], by simp [hkl]⟩
      have hf := check_fine hck
      have fb := hf.b b (List.mem_of_getElem? hb)
      have fp := hf.p p (List.mem_of_getElem? hp)
      have H54 := could_ev (n := n) d hd i' k' hi hk b p hb hp fb.1 fp.1 fp.2.1 hf.wear fp.2.2.1 fb.2.2.2.2 (by omega)
      rw [← hcl] at H54
      refine Qx hB H54 ?_
      conv => lhs; whnf
      repeat' ((first | refine Q0 hB rfl ?_ | refine Q1 hB (by decide) ?_ | refine Q2 hB (by decide) ?_ | refine Q3 hB (by decide) ?_ | refine Q4 hB (by decide) ?_ | refine Q5 hB (by decide) ?_ | refine Q6 hB (by decide) ?_ | refine Q7 hB (by omega) (by omega) ?_ | refine Q8 hB ?_ | refine Q9 hB ?_ | refine Qa hB ?_ | refine Qb hB (fun _ => ?_) (fun _ => ?_) | refine Qc hB ?_ | refine Qd hB ?_ | refine Qe hB ?_ | refine Qf hB ?_ | refine Qg hB ?_ | refine Qh hB ?_ | refine Qi hB ?_ | refine Qj hB rfl ?_ | refine Qk hB rfl ?_ | refine Ql hB (by first | omega | decide) ?_ | refine Qm hB rfl ?_ | refine Qn hB ?_ | refine Qo hB rfl ?_ | refine Qo hB (Qp rfl) ?_ | refine Qq hB rfl ?_ | refine Qr hB ?_ | refine Qs hB ?_ | refine Qt hB ?_ | refine Qu hB ?_ | refine Qv hB rfl ?_) <;> conv => lhs; whnf)
      have hR : couldR d i k = (couldB d b p, 0) := by
        unfold couldR
        rw [if_pos hck, if_pos ⟨e1, e2⟩, hi, hk]
        simp [hb, hp]
      rw [hR]
    · rename_i e1 e2
      have hR : couldR d i k = (false, 91) := by unfold couldR; rw [if_pos hck, if_neg (by rw [e2]; simp)]
      rw [hR]
    · rename_i e1
      have hR : couldR d i k = (false, 91) := by unfold couldR; rw [if_pos hck, if_neg (by rw [e1]; simp)]
      rw [hR]
end Go.Ab.Cl

namespace Go.Ab.Cl
open Go.Ab

/-- Can a box be a parcel that is not taken? -/
def fitsB (d : Desk) (i t k : Nat) : Bool := match d.bs[i]?, d.ps[k]? with
  | some b, some p => !t.testBit k && couldB d b p
  | _, _ => false
def oddB (d : Desk) (i : Nat) : Bool := match d.bs[i]? with
  | some b => !b.stamp
  | none => false
def optsFrom (d : Desk) (i t j : Nat) : List Int := List.map (fun k : Nat => (k : Int)) ((List.range' j (d.ps.length - j)).filter (fitsB d i t))
/-- All that a box can be. -/
def opts (d : Desk) (i t : Nat) : List Int := if oddB d i = true then -1 :: optsFrom d i t 0 else optsFrom d i t 0

theorem optsFrom_end {d : Desk} {i t j : Nat} (h : d.ps.length ≤ j) : optsFrom d i t j = [] := by
  unfold optsFrom
  rw [Nat.sub_eq_zero_of_le h]; rfl
theorem optsFrom_yes {d : Desk} {i t j : Nat} (h : j < d.ps.length) (hf : fitsB d i t j = true) : optsFrom d i t j = (j : Int) :: optsFrom d i t (j + 1) := by
  unfold optsFrom
  rw [show d.ps.length - j = (d.ps.length - (j + 1)) + 1 by omega, List.range'_succ, List.filter_cons_of_pos hf]; rfl
theorem optsFrom_no {d : Desk} {i t j : Nat} (h : j < d.ps.length) (hf : fitsB d i t j = false) : optsFrom d i t j = optsFrom d i t (j + 1) := by
  unfold optsFrom
  rw [show d.ps.length - j = (d.ps.length - (j + 1)) + 1 by omega, List.range'_succ, List.filter_cons_of_neg (by rw [hf]; exact Bool.false_ne_true)]
theorem optsFrom_mem {d : Desk} {i t : Nat} {z : Int} : ∀ {m j : Nat}, d.ps.length - j = m → z ∈ optsFrom d i t j → ∃ k : Nat, z = (k : Int) ∧ k < d.ps.length ∧ fitsB d i t k = true := by
  intro m j _ h
  unfold optsFrom at h
  simp only [List.mem_map, List.mem_filter, List.mem_range'] at h
  obtain ⟨k, ⟨⟨m, h1, h2⟩, h3⟩, rfl⟩ := h
  exact ⟨k, rfl, by omega, h3⟩
theorem opts_mem {d : Desk} {i t : Nat} {z : Int} (h : z ∈ opts d i t) : z = -1 ∨ ∃ k : Nat, z = (k : Int) ∧ k < d.ps.length ∧ fitsB d i t k = true := by
  unfold opts at h
  split at h
  · rcases List.mem_cons.1 h with h | h
    · exact .inl h
    · exact .inr (optsFrom_mem rfl h)
  · exact .inr (optsFrom_mem rfl h)

/-- Rounds, one after the other, up to one that stops. -/
inductive Runs {σ : Type} (R : Int → σ → Bool → σ → Prop) : List Int → σ → σ → Prop where
  | nil (x : σ) : Runs R [] x x
  | stop {k : Int} {l : List Int} {x y : σ} : R k x false y → Runs R (k :: l) x y
  | more {k : Int} {l : List Int} {x y z : σ} : R k x true y → Runs R l y z → Runs R (k :: l) x z

/-! ### bits -/
def isI (o : Option AV) (n : Int) : Bool := match o with
  | some (.int .i64 m) => m == n
  | _ => false
theorem isI_ok {o : Option AV} {n : Int} (h : isI o n = true) : o = some (.int .i64 n) := by
  unfold isI at h
  split at h
  · rename_i m
    rw [show m = n by simpa using h]
  · cases h
theorem and_all : ∀ t : Fin 256, ∀ k : Fin 8, isI (binAV .and (.int .i64 (Int.fdiv (t.val : Int) (2 ^ k.val))) (.int .i64 1)) (if t.val.testBit k.val = true then 1 else 0) = true := by decide +kernel
theorem or_all : ∀ t : Fin 256, ∀ k : Fin 8, isI (binAV .or (.int .i64 (t.val : Int)) (.int .i64 ((2 : Int) ^ k.val))) ((t.val ||| 1 <<< k.val : Nat) : Int) = true := by decide +kernel
theorem shl_all : ∀ k : Fin 8, isI (binAV .shl (.int .i64 1) (.int .i64 (k.val : Int))) ((2 : Int) ^ k.val) = true := by decide +kernel
theorem lt_all : ∀ t : Fin 256, ∀ k : Fin 8, (t.val ||| 1 <<< k.val) < 256 := by decide +kernel
theorem shr_ok {t k : Nat} {a b : Int} (ha : a = (t : Int)) (hb : b = (k : Int)) (hk : k < 8) : binAV .shr (.int .i64 a) (.int .i64 b) = some (.int .i64 (Int.fdiv (t : Int) (2 ^ k))) := by
  subst ha hb
  have h : ¬ ((k : Int) < 0) := by omega
  have h2 : min k IntKind.i64.bits = k := Nat.min_eq_left (by show k ≤ 64; omega)
  simp [binAV, h, h2]
theorem and_ok {t k : Nat} (ht : t < 256) (hk : k < 8) : binAV .and (.int .i64 (Int.fdiv (t : Int) (2 ^ k))) (.int .i64 1) = some (.int .i64 (if t.testBit k = true then 1 else 0)) := isI_ok (and_all ⟨t, ht⟩ ⟨k, hk⟩)
theorem shl_ok {k : Nat} {b : Int} (hb : b = (k : Int)) (hk : k < 8) : binAV .shl (.int .i64 1) (.int .i64 b) = some (.int .i64 ((2 : Int) ^ k)) := by subst hb; exact isI_ok (shl_all ⟨k, hk⟩)
theorem or_ok {t k : Nat} {a : Int} (ha : a = (t : Int)) (ht : t < 256) (hk : k < 8) : binAV .or (.int .i64 a) (.int .i64 ((2 : Int) ^ k)) = some (.int .i64 ((t ||| 1 <<< k : Nat) : Int)) := by subst ha; exact isI_ok (or_all ⟨t, ht⟩ ⟨k, hk⟩)
theorem bits_lt {t k : Nat} (ht : t < 256) (hk : k < 8) : (t ||| 1 <<< k) < 256 := lt_all ⟨t, ht⟩ ⟨k, hk⟩
end Go.Ab.Cl

namespace Go.Ab.Cl
open Go.Ab

theorem meantRow (d : Desk) {k : Nat} (hk : k < d.ps.length) : ∃ p, d.ps[k]? = some p := ⟨d.ps[k], by simp [hk]⟩

/-- What all rounds do: from any frames above. -/
abbrev RoundIs {σ : Type} (rd : RoundK) (D l il : Nat) (S : σ → St) (P : σ → Prop) (R : Int → σ → Bool → σ → Prop) (k : Int) : Prop :=
  ∀ (fr : List Fr) (x : σ) (kont : AV → St → Ans) (r : Ans), P x → (∀ b x', R k x b x' → kont (.bool b) (fr ++ S x') = r) → rd (D + fr.length) l il [.int .i64 k] (fr ++ S x) kont = r

theorem a84_L1_step {B : Bnd} (hB : B = Bk) {cl : CallK} {rd : RoundK} (d : Desk) (hd : d.ok) (hf : d.fine) (i t : Nat) {zi zt : Int} (hzi : zi = (i : Int)) (hzt : zt = (t : Int)) (ht : t < 256) (b : Box) (hb : d.bs[i]? = some b)
    (H54 : ∀ (k : Nat) (p : Parcel), d.ps[k]? = some p → cl 0 54 [d.v, .int .i64 zi, .int .i64 (k : Int)] [] ansK = some (.bool (couldB d b p), []))
    {σ : Type} (S : σ → St) {D l il : Nat} (hS : ∀ x, (S x).length = D) (hl : l ≤ D) (P : σ → Prop) (R : Int → σ → Bool → σ → Prop) (hPR : ∀ z x x', R z x true x' → P x') (n : Nat) (k : Ex → Env → St → Ans) (r : Ans) :
    ∀ (j i0 : Nat) (x : σ), P x → d.ps.length < i0 + j → i0 ≤ d.ps.length → (∀ z ∈ optsFrom d i t i0, RoundIs rd D l il S P R z) →
    (∀ x', Runs R (optsFrom d i t i0) x x' → k (.exit 0) [(0, .yl l il), (1, .rp d.c), (2, .rp [.int .i64 zi]), (3, .rp [.int .i64 zt]), (22, .int .i64 (.ofNat d.ps.length)), (23, .int .i64 (.ofNat d.ps.length))] (⟨[], []⟩ :: S x') = r) →
    (∀ x' e, Runs R (optsFrom d i t i0) x x' → k .ret e (⟨[], []⟩ :: S x') = r) →
    B.loop (evCK B a84_L1) [0, 1, 2, 3, 22, 23] n j cl rd Gx D (D + 1) [(0, .yl l il), (1, .rp d.c), (2, .rp [.int .i64 zi]), (3, .rp [.int .i64 zt]), (22, .int .i64 (.ofNat d.ps.length)), (23, .int .i64 (.ofNat i0))] (⟨[], []⟩ :: S x) k = r := by
  intro j
  induction j with
  | zero => intro i0 x hPx h1 h2; omega
  | succ j ih =>
    intro i0 x hPx h1 h2 HR k1 k2
    refine loop_succ hB ?_
    conv => lhs; whnf
    refine lt_nat hB (fun h => ?_) (fun h => ?_) <;> conv => lhs; whnf
    · obtain ⟨p, hp⟩ := meantRow d h
      have h8 := hf.np
      have hfit : fitsB d i t i0 = (!t.testBit i0 && couldB d b p) := by simp [fitsB, hb, hp]
      have H := H54 i0 p hp
      repeat' ((first | refine Qm hB (shr_ok hzt rfl (by omega)) ?_ | refine Qm hB (and_ok ht (by omega)) ?_ | refine Qv hB hd.tp ?_ | refine Qv hB hd.tb ?_ | refine Q0 hB (by simp [purs, pur, hd.tp, hd.tb]) ?_ | refine Qy hB H (fun hc => ?_) (fun hc => ?_) | refine eq_split hB (fun hbit => ?_) (fun hbit => ?_) | refine Qo hB (by rw [Nat.ble_eq]; first | omega | (simp only [Nat.pred_eq_sub_one, Nat.succ_eq_add_one]; omega)) ?_ | refine Q0 hB rfl ?_ | refine Q1 hB (by decide) ?_ | refine Q2 hB (by decide) ?_ | refine Q3 hB (by decide) ?_ | refine Q4 hB (by decide) ?_ | refine Q5 hB (by decide) ?_ | refine Q6 hB (by decide) ?_ | refine Q7 hB (by omega) (by omega) ?_ | refine Q8 hB ?_ | refine Q9 hB ?_ | refine Qa hB ?_ | refine Qb hB (fun _ => ?_) (fun _ => ?_) | refine Qc hB ?_ | refine Qd hB ?_ | refine Qe hB ?_ | refine Qf hB ?_ | refine Qg hB ?_ | refine Qh hB ?_ | refine Qi hB ?_ | refine Qj hB rfl ?_ | refine Qk hB rfl ?_ | refine Ql hB (by first | omega | decide) ?_ | refine Qm hB rfl ?_ | refine Qn hB ?_ | refine Qo hB rfl ?_ | refine Qo hB (Qp rfl) ?_ | refine Qq hB rfl ?_ | refine Qr hB ?_ | refine Qs hB ?_ | refine Qt hB ?_ | refine Qu hB ?_ | refine Qv hB rfl ?_) <;> conv => lhs; whnf)
      · have hno : fitsB d i t i0 = false := by rw [hfit]; cases hb2 : t.testBit i0 <;> simp_all
        rw [optsFrom_no h hno] at HR k1 k2
        exact ih (i0 + 1) x hPx (by omega) (by omega) HR k1 k2
      · have hyes : fitsB d i t i0 = true := by rw [hfit]; cases hb2 : t.testBit i0 <;> simp_all
        rw [optsFrom_yes h hyes] at HR k1 k2
        refine HR _ (List.mem_cons_self ..) [⟨[], []⟩, ⟨[], []⟩] x _ _ hPx fun bb x' hR => ?_
        cases bb
        · conv => lhs; whnf
          repeat' ((first | refine Qo hB (by rw [Nat.ble_eq]; first | omega | (simp only [Nat.pred_eq_sub_one, Nat.succ_eq_add_one]; omega)) ?_ | refine Q0 hB rfl ?_ | refine Q1 hB (by decide) ?_ | refine Q2 hB (by decide) ?_ | refine Q3 hB (by decide) ?_ | refine Q4 hB (by decide) ?_ | refine Q5 hB (by decide) ?_ | refine Q6 hB (by decide) ?_ | refine Q7 hB (by omega) (by omega) ?_ | refine Q8 hB ?_ | refine Q9 hB ?_ | refine Qa hB ?_ | refine Qb hB (fun _ => ?_) (fun _ => ?_) | refine Qc hB ?_ | refine Qd hB ?_ | refine Qe hB ?_ | refine Qf hB ?_ | refine Qg hB ?_ | refine Qh hB ?_ | refine Qi hB ?_ | refine Qj hB rfl ?_ | refine Qk hB rfl ?_ | refine Ql hB (by first | omega | decide) ?_ | refine Qm hB rfl ?_ | refine Qn hB ?_ | refine Qo hB rfl ?_ | refine Qo hB (Qp rfl) ?_ | refine Qq hB rfl ?_ | refine Qr hB ?_ | refine Qs hB ?_ | refine Qt hB ?_ | refine Qu hB ?_ | refine Qv hB rfl ?_) <;> conv => lhs; whnf)
          exact k2 x' _ (.stop hR)
        · conv => lhs; whnf
          repeat' ((first | refine Qo hB (by rw [Nat.ble_eq]; first | omega | (simp only [Nat.pred_eq_sub_one, Nat.succ_eq_add_one]; omega)) ?_ | refine Q0 hB rfl ?_ | refine Q1 hB (by decide) ?_ | refine Q2 hB (by decide) ?_ | refine Q3 hB (by decide) ?_ | refine Q4 hB (by decide) ?_ | refine Q5 hB (by decide) ?_ | refine Q6 hB (by decide) ?_ | refine Q7 hB (by omega) (by omega) ?_ | refine Q8 hB ?_ | refine Q9 hB ?_ | refine Qa hB ?_ | refine Qb hB (fun _ => ?_) (fun _ => ?_) | refine Qc hB ?_ | refine Qd hB ?_ | refine Qe hB ?_ | refine Qf hB ?_ | refine Qg hB ?_ | refine Qh hB ?_ | refine Qi hB ?_ | refine Qj hB rfl ?_ | refine Qk hB rfl ?_ | refine Ql hB (by first | omega | decide) ?_ | refine Qm hB rfl ?_ | refine Qn hB ?_ | refine Qo hB rfl ?_ | refine Qo hB (Qp rfl) ?_ | refine Qq hB rfl ?_ | refine Qr hB ?_ | refine Qs hB ?_ | refine Qt hB ?_ | refine Qu hB ?_ | refine Qv hB rfl ?_) <;> conv => lhs; whnf)
          exact ih (i0 + 1) x' (hPR _ _ _ hR) (by omega) (by omega) (fun z hz => HR z (List.mem_cons_of_mem _ hz)) (fun y hy => k1 y (.more hR hy)) (fun y e hy => k2 y e (.more hR hy))
      · have hno : fitsB d i t i0 = false := by rw [hfit, hc]; simp
        rw [optsFrom_no h hno] at HR k1 k2
        exact ih (i0 + 1) x hPx (by omega) (by omega) HR k1 k2
    · have hi : i0 = d.ps.length := by omega
      subst hi
      repeat' ((first | refine Qo hB (by rw [Nat.ble_eq]; first | omega | (simp only [Nat.pred_eq_sub_one, Nat.succ_eq_add_one]; omega)) ?_ | refine Q0 hB rfl ?_ | refine Q1 hB (by decide) ?_ | refine Q2 hB (by decide) ?_ | refine Q3 hB (by decide) ?_ | refine Q4 hB (by decide) ?_ | refine Q5 hB (by decide) ?_ | refine Q6 hB (by decide) ?_ | refine Q7 hB (by omega) (by omega) ?_ | refine Q8 hB ?_ | refine Q9 hB ?_ | refine Qa hB ?_ | refine Qb hB (fun _ => ?_) (fun _ => ?_) | refine Qc hB ?_ | refine Qd hB ?_ | refine Qe hB ?_ | refine Qf hB ?_ | refine Qg hB ?_ | refine Qh hB ?_ | refine Qi hB ?_ | refine Qj hB rfl ?_ | refine Qk hB rfl ?_ | refine Ql hB (by first | omega | decide) ?_ | refine Qm hB rfl ?_ | refine Qn hB ?_ | refine Qo hB rfl ?_ | refine Qo hB (Qp rfl) ?_ | refine Qq hB rfl ?_ | refine Qr hB ?_ | refine Qs hB ?_ | refine Qt hB ?_ | refine Qu hB ?_ | refine Qv hB rfl ?_) <;> conv => lhs; whnf)
      refine k1 x ?_
      rw [optsFrom_end (Nat.le_refl _)]
      exact .nil x

theorem meant1_ev {n : Nat} (hn : 1000000000000006 ≤ n) (d : Desk) (hd : d.ok) (hf : d.fine) (i t : Nat) {zi zt : Int} (hzi : zi = (i : Int)) (hzt : zt = (t : Int)) (ht : t < 256) (hi : i < d.bs.length)
    {σ : Type} (S : σ → St) {D l il : Nat} (hS : ∀ x, (S x).length = D) (hl : l ≤ D) (P : σ → Prop) (R : Int → σ → Bool → σ → Prop) (hPR : ∀ z x x', R z x true x' → P x') (x : σ) (hPx : P x) (kont : AV → St → Ans) (r : Ans)
    (HR : ∀ z ∈ opts d i t, RoundIs (evKR Bk Gx fsT n).2 D l il S P R z) (K : ∀ x', Runs R (opts d i t) x x' → kont (.tup []) (S x') = r) :
    (evKR Bk Gx fsT (n + 1)).1 D 84 [.yl l il, .rp d.c, .rp [.int .i64 zi], .rp [.int .i64 zt]] (S x) kont = r := by
  refine call_open (show fsT.find 84 = some a84 from rfl) (by omega) fun m B cl rd hn' hB hcl hrd => ?_
  obtain rfl : n = m := by omega
  obtain ⟨b, hb⟩ : ∃ b, d.bs[i]? = some b := ⟨d.bs[i], by simp [hi]⟩
  have hbm := List.mem_of_getElem? hb
  have hb5 := hf.b b hbm
  have H54 : ∀ (k : Nat) (p : Parcel), d.ps[k]? = some p → cl 0 54 [d.v, .int .i64 zi, .int .i64 (k : Int)] [] ansK = some (.bool (couldB d b p), []) := by
    intro k p hp
    have hp4 := hf.p p (List.mem_of_getElem? hp)
    rw [hcl]
    exact could_ev d hd i k hzi rfl b p hb hp hb5.1 hp4.1 hp4.2.1 hf.wear hp4.2.2.1 hb5.2.2.2.2 (by omega)
  rw [← hrd] at HR
  have hxb : (d.bs.map Box.c)[i]? = some b.c := by simp [hb]
  have h8 := hf.np
  have hodd : oddB d i = !b.stamp := by simp [oddB, hb]
  unfold opts at HR K
  rw [hodd] at HR K
  rcases b with ⟨b1, b2, b3, b4, b5⟩
  conv => lhs; whnf
  cases b5
  · repeat' ((first | refine QC hB hzi ?_ | refine QB hB hxb ?_ | refine Qo hB (by rw [Nat.ble_eq]; first | omega | (simp only [Nat.pred_eq_sub_one, Nat.succ_eq_add_one]; omega)) ?_ | refine Q0 hB rfl ?_ | refine Q1 hB (by decide) ?_ | refine Q2 hB (by decide) ?_ | refine Q3 hB (by decide) ?_ | refine Q4 hB (by decide) ?_ | refine Q5 hB (by decide) ?_ | refine Q6 hB (by decide) ?_ | refine Q7 hB (by omega) (by omega) ?_ | refine Q8 hB ?_ | refine Q9 hB ?_ | refine Qa hB ?_ | refine Qb hB (fun _ => ?_) (fun _ => ?_) | refine Qc hB ?_ | refine Qd hB ?_ | refine Qe hB ?_ | refine Qf hB ?_ | refine Qg hB ?_ | refine Qh hB ?_ | refine Qi hB ?_ | refine Qj hB rfl ?_ | refine Qk hB rfl ?_ | refine Ql hB (by first | omega | decide) ?_ | refine Qm hB rfl ?_ | refine Qn hB ?_ | refine Qo hB rfl ?_ | refine Qo hB (Qp rfl) ?_ | refine Qq hB rfl ?_ | refine Qr hB ?_ | refine Qs hB ?_ | refine Qt hB ?_ | refine Qu hB ?_ | refine Qv hB rfl ?_) <;> conv => lhs; whnf)
    refine HR _ (List.mem_cons_self ..) [⟨[], []⟩] x _ _ hPx fun bb x' hR => ?_
    cases bb
    · conv => lhs; whnf
      exact K x' (.stop hR)
    · conv => lhs; whnf
      repeat' ((first | refine Qo hB (by rw [Nat.ble_eq]; first | omega | (simp only [Nat.pred_eq_sub_one, Nat.succ_eq_add_one]; omega)) ?_ | refine a84_L1_step hB d hd hf i t hzi hzt ht _ hb H54 S hS hl P R hPR _ _ _ _ 0 x' (hPR _ _ _ hR) (by omega) (by omega) (fun z hz => HR z (List.mem_cons_of_mem _ hz)) (fun y hy => ?_) (fun y e hy => ?_) | refine Q0 hB rfl ?_ | refine Q1 hB (by decide) ?_ | refine Q2 hB (by decide) ?_ | refine Q3 hB (by decide) ?_ | refine Q4 hB (by decide) ?_ | refine Q5 hB (by decide) ?_ | refine Q6 hB (by decide) ?_ | refine Q7 hB (by omega) (by omega) ?_ | refine Q8 hB ?_ | refine Q9 hB ?_ | refine Qa hB ?_ | refine Qb hB (fun _ => ?_) (fun _ => ?_) | refine Qc hB ?_ | refine Qd hB ?_ | refine Qe hB ?_ | refine Qf hB ?_ | refine Qg hB ?_ | refine Qh hB ?_ | refine Qi hB ?_ | refine Qj hB rfl ?_ | refine Qk hB rfl ?_ | refine Ql hB (by first | omega | decide) ?_ | refine Qm hB rfl ?_ | refine Qn hB ?_ | refine Qo hB rfl ?_ | refine Qo hB (Qp rfl) ?_ | refine Qq hB rfl ?_ | refine Qr hB ?_ | refine Qs hB ?_ | refine Qt hB ?_ | refine Qu hB ?_ | refine Qv hB rfl ?_) <;> conv => lhs; whnf)
      · exact K y (.more hR hy)
      · exact K y (.more hR hy)
  · repeat' ((first | refine QC hB hzi ?_ | refine QB hB hxb ?_ | refine Qo hB (by rw [Nat.ble_eq]; first | omega | (simp only [Nat.pred_eq_sub_one, Nat.succ_eq_add_one]; omega)) ?_ | refine a84_L1_step hB d hd hf i t hzi hzt ht _ hb H54 S hS hl P R hPR _ _ _ _ 0 x hPx (by omega) (by omega) HR (fun y hy => ?_) (fun y e hy => ?_) | refine Q0 hB rfl ?_ | refine Q1 hB (by decide) ?_ | refine Q2 hB (by decide) ?_ | refine Q3 hB (by decide) ?_ | refine Q4 hB (by decide) ?_ | refine Q5 hB (by decide) ?_ | refine Q6 hB (by decide) ?_ | refine Q7 hB (by omega) (by omega) ?_ | refine Q8 hB ?_ | refine Q9 hB ?_ | refine Qa hB ?_ | refine Qb hB (fun _ => ?_) (fun _ => ?_) | refine Qc hB ?_ | refine Qd hB ?_ | refine Qe hB ?_ | refine Qf hB ?_ | refine Qg hB ?_ | refine Qh hB ?_ | refine Qi hB ?_ | refine Qj hB rfl ?_ | refine Qk hB rfl ?_ | refine Ql hB (by first | omega | decide) ?_ | refine Qm hB rfl ?_ | refine Qn hB ?_ | refine Qo hB rfl ?_ | refine Qo hB (Qp rfl) ?_ | refine Qq hB rfl ?_ | refine Qr hB ?_ | refine Qs hB ?_ | refine Qt hB ?_ | refine Qu hB ?_ | refine Qv hB rfl ?_) <;> conv => lhs; whnf)
    · exact K y hy
    · exact K y hy
end Go.Ab.Cl

namespace Go.Ab.Cl
open Go.Ab

def comb (by_ : Int → Int → Int) (out n v : Int) : Int := if n = -1 then out else by_ (if out = -1 then n + v else out) (n + v)
def clash (g : Nat → Option Int) (i : Nat) (k : Int) : Bool := match g i with
  | some x => decide (x ≠ k)
  | none => false
def valueOf (d : Desk) (k : Nat) : Int := match d.ps[k]? with
  | some p => p.value
  | none => 0
/-- One choice more. -/
def stepW (d : Desk) (by_ : Int → Int → Int) (g : Nat → Option Int) (i t : Nat) (st : Int) (rest : Nat → Int → Int) (out k : Int) : Int :=
  if clash g i k = true then out else
  if k = -1 then (if d.strange < st + 1 then out else comb by_ out (rest t (st + 1)) 0)
  else comb by_ out (rest (t ||| 1 <<< k.toNat) st) (valueOf d k.toNat)
/-- The best value of the last m boxes. -/
def W (d : Desk) (by_ : Int → Int → Int) (g : Nat → Option Int) : Nat → Nat → Int → Int
  | 0, _, _ => 0
  | m + 1, t, st => (opts d (d.bs.length - (m + 1)) t).foldl (stepW d by_ g (d.bs.length - (m + 1)) t st (W d by_ g m)) (-1)

theorem value_in {d : Desk} (hc : d.check = true) (k : Nat) : 0 ≤ valueOf d k ∧ valueOf d k ≤ 100000 := by
  unfold valueOf
  split
  · rename_i p hp
    simp only [Desk.check, Bool.and_eq_true, decide_eq_true_eq, List.all_eq_true] at hc
    have := hc.1.2 p (List.mem_of_getElem? hp)
    simp only [okParcel, within, Bool.and_eq_true, decide_eq_true_eq] at this
    omega
  · omega
theorem comb_in {by_ : Int → Int → Int} (hby : ∀ a b, by_ a b = a ∨ by_ a b = b) {out n v : Int} {M : Int} (ho : -1 ≤ out ∧ out ≤ M) (hn : -1 ≤ n ∧ n + v ≤ M) (hv : 0 ≤ v) : -1 ≤ comb by_ out n v ∧ comb by_ out n v ≤ M := by
  unfold comb
  by_cases h : n = -1
  · rw [if_pos h]; exact ho
  · rw [if_neg h]
    by_cases h2 : out = -1
    · rw [if_pos h2]; rcases hby (n + v) (n + v) with h3 | h3 <;> rw [h3] <;> omega
    · rw [if_neg h2]; rcases hby out (n + v) with h3 | h3 <;> rw [h3] <;> omega
theorem step_in {d : Desk} {by_ : Int → Int → Int} (hby : ∀ a b, by_ a b = a ∨ by_ a b = b) (hc : d.check = true) (g : Nat → Option Int) (i t : Nat) (st : Int) {rest : Nat → Int → Int} {M : Int} (hr : ∀ t st, -1 ≤ rest t st ∧ rest t st ≤ M) {out : Int} (ho : -1 ≤ out ∧ out ≤ M + 100000) (k : Int) :
    -1 ≤ stepW d by_ g i t st rest out k ∧ stepW d by_ g i t st rest out k ≤ M + 100000 := by
  unfold stepW
  split
  · exact ho
  · split
    · split
      · exact ho
      · have := hr t (st + 1); exact comb_in hby ho (by omega) (by omega)
    · have := hr (t ||| 1 <<< k.toNat) st
      have := value_in hc k.toNat
      exact comb_in hby ho (by omega) (by omega)
theorem fold_in {d : Desk} {by_ : Int → Int → Int} (hby : ∀ a b, by_ a b = a ∨ by_ a b = b) (hc : d.check = true) (g : Nat → Option Int) (i t : Nat) (st : Int) {rest : Nat → Int → Int} {M : Int} (hr : ∀ t st, -1 ≤ rest t st ∧ rest t st ≤ M) :
    ∀ (l : List Int) {out : Int}, (-1 ≤ out ∧ out ≤ M + 100000) → -1 ≤ l.foldl (stepW d by_ g i t st rest) out ∧ l.foldl (stepW d by_ g i t st rest) out ≤ M + 100000
  | [], _, ho => ho
  | k :: l, _, ho => fold_in hby hc g i t st hr l (step_in hby hc g i t st hr ho k)
theorem W_in {d : Desk} {by_ : Int → Int → Int} (hby : ∀ a b, by_ a b = a ∨ by_ a b = b) (hc : d.check = true) (g : Nat → Option Int) : ∀ (m t : Nat) (st : Int), -1 ≤ W d by_ g m t st ∧ W d by_ g m t st ≤ 100000 * (m : Int)
  | 0, _, _ => by simp [W]
  | m + 1, t, st => by
    have := fold_in hby hc g (d.bs.length - (m + 1)) t st (fun t st => W_in hby hc g m t st) (opts d (d.bs.length - (m + 1)) t) (out := -1) (by omega)
    simp only [W]
    omega

/-! ### what is remembered -/
def kk3 : EqK := .agg [.int, .int, .int]
def keyV (i t st : Int) : AV := .agg [.int .i64 i, .int .i64 t, .int .i64 st]
theorem key_eq (i t st i' t' st' : Int) : eqK kk3 (keyV i t st) (keyV i' t' st') = some (decide (i = i' ∧ t = t' ∧ st = st')) := by
  by_cases h1 : i = i' <;> by_cases h2 : t = t' <;> by_cases h3 : st = st' <;> simp [eqK, kk3, keyV, eqL, eqS, h1, h2, h3]
def Memo (d : Desk) (by_ : Int → Int → Int) (g : Nat → Option Int) (es : List (AV × AV)) : Prop :=
  ∀ p ∈ es, ∃ (m t : Nat) (st : Int), m ≤ d.bs.length ∧ p = (keyV ((d.bs.length - m : Nat) : Int) (t : Int) st, .int .i64 (W d by_ g m t st))
theorem memo_look {d : Desk} {by_ : Int → Int → Int} {g : Nat → Option Int} {es : List (AV × AV)} (h : Memo d by_ g es) {m : Nat} (hm : m ≤ d.bs.length) (t : Nat) (st : Int) :
    lookE kk3 (keyV ((d.bs.length - m : Nat) : Int) (t : Int) st) es = some none ∨ lookE kk3 (keyV ((d.bs.length - m : Nat) : Int) (t : Int) st) es = some (some (.int .i64 (W d by_ g m t st))) := by
  induction es with
  | nil => exact .inl rfl
  | cons p es ih =>
    obtain ⟨m', t', st', hm', rfl⟩ := h _ (List.mem_cons_self ..)
    simp only [lookE, key_eq, Option.bind_some]
    by_cases he : ((d.bs.length - m : Nat) : Int) = ((d.bs.length - m' : Nat) : Int) ∧ (t : Int) = (t' : Int) ∧ st = st'
    · obtain ⟨h1, h2, h3⟩ := he
      have e1 : m = m' := by omega
      have e2 : t = t' := by omega
      subst e1 e2 h3
      simp
    · rw [if_neg (by simpa using he)]
      exact ih fun p hp => h p (List.mem_cons_of_mem _ hp)
theorem memo_set {d : Desk} {by_ : Int → Int → Int} {g : Nat → Option Int} {es : List (AV × AV)} (h : Memo d by_ g es) {m : Nat} (hm : m ≤ d.bs.length) (t : Nat) (st : Int) :
    ∃ es', setE kk3 (keyV ((d.bs.length - m : Nat) : Int) (t : Int) st) (.int .i64 (W d by_ g m t st)) es = some es' ∧ Memo d by_ g es' := by
  induction es with
  | nil =>
    refine ⟨_, rfl, fun p hp => ?_⟩
    simp only [List.mem_singleton] at hp
    exact ⟨m, t, st, hm, hp⟩
  | cons p es ih =>
    obtain ⟨m', t', st', hm', rfl⟩ := h _ (List.mem_cons_self ..)
    obtain ⟨es', h1, h2⟩ := ih fun p hp => h p (List.mem_cons_of_mem _ hp)
    simp only [setE, key_eq, Option.bind_some, h1, Option.map_some]
    split
    · refine ⟨_, rfl, fun p hp => ?_⟩
      rcases List.mem_cons.1 hp with hp | hp
      · exact ⟨m, t, st, hm, hp⟩
      · exact h p (List.mem_cons_of_mem _ hp)
    · refine ⟨_, rfl, fun p hp => ?_⟩
      rcases List.mem_cons.1 hp with hp | hp
      · exact h p (by rw [hp]; exact List.mem_cons_self ..)
      · exact h2 p hp
theorem key_ok (i t st : Int) : keyOK kk3 (keyV i t st) = true := rfl

/-! ### what is given -/
/-- A map of numbers. -/
def intsE (ge : List (Int × Int)) : List (AV × AV) := ge.map fun p => (.int .i64 p.1, .int .i64 p.2)
def look (ge : List (Int × Int)) (i : Int) : Option Int := (ge.find? fun p => p.1 == i).map (·.2)
theorem look_ok (ge : List (Int × Int)) (i : Int) : lookE (.s .int) (.int .i64 i) (intsE ge) = some ((look ge i).map (.int .i64 ·)) := by
  induction ge with
  | nil => rfl
  | cons p ge ih =>
    obtain ⟨a, b⟩ := p
    show (eqK (.s .int) (.int .i64 i) (.int .i64 a)).bind _ = _
    have e : eqK (.s .int) (.int .i64 i) (.int .i64 a) = some (i == a) := by simp [eqK, eqS]
    rw [e]
    simp only [Option.bind_some]
    by_cases h : a = i
    · subst h; simp [look]
    · have h2 : (i == a) = false := by simpa using fun e => h e.symm
      have h3 : (a == i) = false := by simpa using h
      rw [h2]
      simp only [Bool.false_eq_true, if_false]
      rw [show lookE (.s .int) (.int .i64 i) (ge.map fun p => (.int .i64 p.1, .int .i64 p.2)) = _ from ih]
      simp [look, h3]
end Go.Ab.Cl
