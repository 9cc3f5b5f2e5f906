/-
  The claims, plain: what all that is back is worth, at best; what is remembered of it.
-/
import Derived.Test.YthbekoofiienjaaDoorClN
namespace Go.Ab.Cl
open Go.Ab

def comb (by_ : Int → Int → Int) (out n v : Int) : Int := if n = -1 then out else by_ (if out = -1 then n + v else out) (n + v)
def clash (g : Nat → Option Int) (i : Nat) (k : Int) : Bool := match g i with
  | some x => decide (x ≠ k)
  | none => false
def valueOf (d : Desk) (k : Nat) : Int := match d.ps[k]? with
  | some p => p.value
  | none => 0
/-- One choice more. -/
def stepW (d : Desk) (by_ : Int → Int → Int) (g : Nat → Option Int) (i t : Nat) (st : Int) (rest : Nat → Int → Int) (out k : Int) : Int :=
  if clash g i k = true then out else
  if k = -1 then (if d.strange < st + 1 then out else comb by_ out (rest t (st + 1)) 0)
  else comb by_ out (rest (t ||| 1 <<< k.toNat) st) (valueOf d k.toNat)
/-- The best value of the last m boxes. -/
def W (d : Desk) (by_ : Int → Int → Int) (g : Nat → Option Int) : Nat → Nat → Int → Int
  | 0, _, _ => 0
  | m + 1, t, st => (opts d (d.bs.length - (m + 1)) t).foldl (stepW d by_ g (d.bs.length - (m + 1)) t st (W d by_ g m)) (-1)

theorem value_in {d : Desk} (hc : d.check = true) (k : Nat) : 0 ≤ valueOf d k ∧ valueOf d k ≤ 100000 := by
  unfold valueOf
  split
  · rename_i p hp
    simp only [Desk.check, Bool.and_eq_true, decide_eq_true_eq, List.all_eq_true] at hc
    have := hc.1.2 p (List.mem_of_getElem? hp)
    simp only [okParcel, within, Bool.and_eq_true, decide_eq_true_eq] at this
    omega
  · omega
theorem comb_in {by_ : Int → Int → Int} (hby : ∀ a b, by_ a b = a ∨ by_ a b = b) {out n v : Int} {M : Int} (ho : -1 ≤ out ∧ out ≤ M) (hn : -1 ≤ n ∧ n + v ≤ M) (hv : 0 ≤ v) : -1 ≤ comb by_ out n v ∧ comb by_ out n v ≤ M := by
  unfold comb
  by_cases h : n = -1
  · rw [if_pos h]; exact ho
  · rw [if_neg h]
    by_cases h2 : out = -1
    · rw [if_pos h2]; rcases hby (n + v) (n + v) with h3 | h3 <;> rw [h3] <;> omega
    · rw [if_neg h2]; rcases hby out (n + v) with h3 | h3 <;> rw [h3] <;> omega
theorem step_in {d : Desk} {by_ : Int → Int → Int} (hby : ∀ a b, by_ a b = a ∨ by_ a b = b) (hc : d.check = true) (g : Nat → Option Int) (i t : Nat) (st : Int) {rest : Nat → Int → Int} {M : Int} (hr : ∀ t st, -1 ≤ rest t st ∧ rest t st ≤ M) {out : Int} (ho : -1 ≤ out ∧ out ≤ M + 100000) (k : Int) :
    -1 ≤ stepW d by_ g i t st rest out k ∧ stepW d by_ g i t st rest out k ≤ M + 100000 := by
  unfold stepW
  split
  · exact ho
  · split
    · split
      · exact ho
      · have := hr t (st + 1); exact comb_in hby ho (by omega) (by omega)
    · have := hr (t ||| 1 <<< k.toNat) st
      have := value_in hc k.toNat
      exact comb_in hby ho (by omega) (by omega)
theorem fold_in {d : Desk} {by_ : Int → Int → Int} (hby : ∀ a b, by_ a b = a ∨ by_ a b = b) (hc : d.check = true) (g : Nat → Option Int) (i t : Nat) (st : Int) {rest : Nat → Int → Int} {M : Int} (hr : ∀ t st, -1 ≤ rest t st ∧ rest t st ≤ M) :
    ∀ (l : List Int) {out : Int}, (-1 ≤ out ∧ out ≤ M + 100000) → -1 ≤ l.foldl (stepW d by_ g i t st rest) out ∧ l.foldl (stepW d by_ g i t st rest) out ≤ M + 100000
  | [], _, ho => ho
  | k :: l, _, ho => fold_in hby hc g i t st hr l (step_in hby hc g i t st hr ho k)
theorem W_in {d : Desk} {by_ : Int → Int → Int} (hby : ∀ a b, by_ a b = a ∨ by_ a b = b) (hc : d.check = true) (g : Nat → Option Int) : ∀ (m t : Nat) (st : Int), -1 ≤ W d by_ g m t st ∧ W d by_ g m t st ≤ 100000 * (m : Int)
  | 0, _, _ => by simp [W]
  | m + 1, t, st => by
    have := fold_in hby hc g (d.bs.length - (m + 1)) t st (fun t st => W_in hby hc g m t st) (opts d (d.bs.length - (m + 1)) t) (out := -1) (by omega)
    simp only [W]
    omega

/-! ### what is remembered -/
def kk3 : EqK := .agg [.int, .int, .int]
def keyV (i t st : Int) : AV := .agg [.int .i64 i, .int .i64 t, .int .i64 st]
theorem key_eq (i t st i' t' st' : Int) : eqK kk3 (keyV i t st) (keyV i' t' st') = some (decide (i = i' ∧ t = t' ∧ st = st')) := by
  by_cases h1 : i = i' <;> by_cases h2 : t = t' <;> by_cases h3 : st = st' <;> simp [eqK, kk3, keyV, eqL, eqS, h1, h2, h3]
def Memo (d : Desk) (by_ : Int → Int → Int) (g : Nat → Option Int) (es : List (AV × AV)) : Prop :=
  ∀ p ∈ es, ∃ (m t : Nat) (st : Int), m ≤ d.bs.length ∧ p = (keyV ((d.bs.length - m : Nat) : Int) (t : Int) st, .int .i64 (W d by_ g m t st))
theorem memo_look {d : Desk} {by_ : Int → Int → Int} {g : Nat → Option Int} {es : List (AV × AV)} (h : Memo d by_ g es) {m : Nat} (hm : m ≤ d.bs.length) (t : Nat) (st : Int) :
    lookE kk3 (keyV ((d.bs.length - m : Nat) : Int) (t : Int) st) es = some none ∨ lookE kk3 (keyV ((d.bs.length - m : Nat) : Int) (t : Int) st) es = some (some (.int .i64 (W d by_ g m t st))) := by
  induction es with
  | nil => exact .inl rfl
  | cons p es ih =>
    obtain ⟨m', t', st', hm', rfl⟩ := h _ (List.mem_cons_self ..)
    simp only [lookE, key_eq, Option.bind_some]
    by_cases he : ((d.bs.length - m : Nat) : Int) = ((d.bs.length - m' : Nat) : Int) ∧ (t : Int) = (t' : Int) ∧ st = st'
    · obtain ⟨h1, h2, h3⟩ := he
      have e1 : m = m' := by omega
      have e2 : t = t' := by omega
      subst e1 e2 h3
      simp
    · rw [if_neg (by simpa using he)]
      exact ih fun p hp => h p (List.mem_cons_of_mem _ hp)
theorem memo_set {d : Desk} {by_ : Int → Int → Int} {g : Nat → Option Int} {es : List (AV × AV)} (h : Memo d by_ g es) {m : Nat} (hm : m ≤ d.bs.length) (t : Nat) (st : Int) :
    ∃ es', setE kk3 (keyV ((d.bs.length - m : Nat) : Int) (t : Int) st) (.int .i64 (W d by_ g m t st)) es = some es' ∧ Memo d by_ g es' := by
  induction es with
  | nil =>
    refine ⟨_, rfl, fun p hp => ?_⟩
    simp only [List.mem_singleton] at hp
    exact ⟨m, t, st, hm, hp⟩
  | cons p es ih =>
    obtain ⟨m', t', st', hm', rfl⟩ := h _ (List.mem_cons_self ..)
    obtain ⟨es', h1, h2⟩ := ih fun p hp => h p (List.mem_cons_of_mem _ hp)
    simp only [setE, key_eq, Option.bind_some, h1, Option.map_some]
    split
    · refine ⟨_, rfl, fun p hp => ?_⟩
      rcases List.mem_cons.1 hp with hp | hp
      · exact ⟨m, t, st, hm, hp⟩
      · exact h p (List.mem_cons_of_mem _ hp)
    · refine ⟨_, rfl, fun p hp => ?_⟩
      rcases List.mem_cons.1 hp with hp | hp
      · exact h p (by rw [hp]; exact List.mem_cons_self ..)
      · exact h2 p hp
theorem key_ok (i t st : Int) : keyOK kk3 (keyV i t st) = true := rfl

/-! ### what is given -/
/-- A map of numbers. -/
def intsE (ge : List (Int × Int)) : List (AV × AV) := ge.map fun p => (.int .i64 p.1, .int .i64 p.2)
def look (ge : List (Int × Int)) (i : Int) : Option Int := (ge.find? fun p => p.1 == i).map (·.2)
theorem look_ok (ge : List (Int × Int)) (i : Int) : lookE (.s .int) (.int .i64 i) (intsE ge) = some ((look ge i).map (.int .i64 ·)) := by
  induction ge with
  | nil => rfl
  | cons p ge ih =>
    obtain ⟨a, b⟩ := p
    show (eqK (.s .int) (.int .i64 i) (.int .i64 a)).bind _ = _
    have e : eqK (.s .int) (.int .i64 i) (.int .i64 a) = some (i == a) := by simp [eqK, eqS]
    rw [e]
    simp only [Option.bind_some]
    by_cases h : a = i
    · subst h; simp [look]
    · have h2 : (i == a) = false := by simpa using fun e => h e.symm
      have h3 : (a == i) = false := by simpa using h
      rw [h2]
      simp only [Bool.false_eq_true, if_false]
      rw [show lookE (.s .int) (.int .i64 i) (ge.map fun p => (.int .i64 p.1, .int .i64 p.2)) = _ from ih]
      simp [look, h3]
end Go.Ab.Cl
