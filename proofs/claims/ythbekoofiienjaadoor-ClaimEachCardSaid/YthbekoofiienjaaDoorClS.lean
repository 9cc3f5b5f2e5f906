/-
  The claims, plain: a truth of a desk, and one of the desk without a box.
-/
import Derived.Test.YthbekoofiienjaaDoorClL
namespace Go.Ab.Cl
open Go.Ab

def up (i j : Nat) : Nat := if j < i then j else j + 1
theorem up_ne {i j : Nat} : up i j ≠ i := by unfold up; split <;> omega
theorem up_inj {i a b : Nat} (h : up i a = up i b) : a = b := by unfold up at h; split at h <;> split at h <;> omega
theorem up_or (i j : Nat) : j = i ∨ ∃ m, j = up i m := by
  by_cases h : j < i
  · exact .inr ⟨j, by simp [up, h]⟩
  · by_cases h2 : j = i
    · exact .inl h2
    · refine .inr ⟨j - 1, ?_⟩
      have : ¬ j - 1 < i := by omega
      simp [up, this]; omega
theorem cut_get {α : Type} {l : List α} {i : Nat} (j : Nat) : (l.take i ++ l.drop (i + 1))[j]? = l[up i j]? := by
  rw [← List.eraseIdx_eq_take_drop_succ, List.getElem?_eraseIdx]
  unfold up
  split <;> rfl

/-- An entry put in between others, which are changed. -/
def ins (i : Nat) (x0 : Int) (f : Int → Int) (l : List Int) : List Int := (l.take i).map f ++ x0 :: (l.drop i).map f
theorem ins_len {i : Nat} {x0 : Int} {f : Int → Int} {l : List Int} (hi : i ≤ l.length) : (ins i x0 f l).length = l.length + 1 := by
  simp [ins]; omega
theorem ins_at {i : Nat} {x0 : Int} {f : Int → Int} {l : List Int} (hi : i ≤ l.length) : (ins i x0 f l)[i]? = some x0 := by
  unfold ins
  rw [List.getElem?_append_right (by simp; omega)]
  simp [Nat.min_eq_left hi]
theorem ins_up {i : Nat} {x0 : Int} {f : Int → Int} {l : List Int} (hi : i ≤ l.length) (j : Nat) : (ins i x0 f l)[up i j]? = (l[j]?).map f := by
  unfold ins up
  by_cases h : j < i
  · rw [if_pos h, List.getElem?_append_left (by simp; omega)]
    simp [h]
  · rw [if_neg h, List.getElem?_append_right (by simp; omega)]
    simp only [List.length_map, List.length_take, Nat.min_eq_left hi]
    rw [show j + 1 - i = (j - i) + 1 by omega, List.getElem?_cons_succ]
    simp
    congr 2
    omega
theorem count_map {f : Int → Int} (hf : ∀ x, f x = -1 ↔ x = -1) (l : List Int) : (l.map f).count (-1) = l.count (-1) := by
  induction l with
  | nil => rfl
  | cons x l ih =>
    rw [List.map_cons, List.count_cons, List.count_cons, ih]
    by_cases h : x = -1
    · rw [(hf x).2 h, h]
    · have h2 : ¬ f x = -1 := fun e => h ((hf x).1 e)
      simp [h, h2]
theorem ins_count {i : Nat} {x0 : Int} {f : Int → Int} (hf : ∀ x, f x = -1 ↔ x = -1) {l : List Int} : (ins i x0 f l).count (-1) = l.count (-1) + (if x0 = -1 then 1 else 0) := by
  unfold ins
  rw [List.count_append, List.count_cons, count_map hf, count_map hf]
  have h : l.count (-1) = (l.take i).count (-1) + (l.drop i).count (-1) := by rw [← List.count_append, List.take_append_drop]
  rw [h]
  by_cases h : x0 = -1
  · simp [h]; omega
  · simp [h]

/-- How the entries of the lesser desk's truths are those of the other one's. -/
structure Lets (d d2 : Desk) (i : Nat) (x0 : Int) (f : Int → Int) (fn : Nat → Nat) : Prop where
  len : d2.bs.length + 1 = d.bs.length
  hi : i ≤ d2.bs.length
  odd : ∀ j, oddB d2 j = oddB d (up i j)
  neg : ∀ x, f x = -1 ↔ x = -1
  nat : ∀ n : Nat, f (n : Int) = (fn n : Nat)
  sur : ∀ x (n : Nat), f x = (n : Int) → ∃ m : Nat, x = (m : Int)
  inj : ∀ m n, fn m = fn n → m = n
  ne : ∀ n : Nat, x0 ≠ (fn n : Nat)
  fit : ∀ j n, fit0 d2 j n = fit0 d (up i j) (fn n)
  str : d2.strange + (if x0 = -1 then 1 else 0) = d.strange
  val : ∀ n, valueOf d2 n = valueOf d (fn n)

theorem Tr_ins {d d2 : Desk} {i : Nat} {x0 : Int} {f : Int → Int} {fn : Nat → Nat} (h : Lets d d2 i x0 f fn) {l : List Int} (hl : l.length = d2.bs.length) :
    Tr d (ins i x0 f l) ↔ ((x0 = -1 ∧ oddB d i = true) ∨ ∃ n : Nat, x0 = (n : Int) ∧ fit0 d i n = true) ∧ Tr d2 l := by
  have hi : i ≤ l.length := by rw [hl]; exact h.hi
  have hcount := ins_count (i := i) (x0 := x0) h.neg (l := l)
  constructor
  · intro ht
    refine ⟨ht.ok i x0 (ins_at hi), hl, fun j x hx => ?_, fun j1 j2 n h1 h2 => ?_, ?_⟩
    · have h1 : (ins i x0 f l)[up i j]? = some (f x) := by rw [ins_up hi, hx]; rfl
      rcases ht.ok _ _ h1 with ⟨h2, h3⟩ | ⟨n, h2, h3⟩
      · exact .inl ⟨(h.neg x).1 h2, by rw [h.odd]; exact h3⟩
      · obtain ⟨m, rfl⟩ := h.sur x n h2
        rw [h.nat] at h2
        have : fn m = n := by omega
        exact .inr ⟨m, rfl, by rw [h.fit, this]; exact h3⟩
    · have k1 : (ins i x0 f l)[up i j1]? = some ((fn n : Nat) : Int) := by rw [ins_up hi, h1, Option.map_some, h.nat]
      have k2 : (ins i x0 f l)[up i j2]? = some ((fn n : Nat) : Int) := by rw [ins_up hi, h2, Option.map_some, h.nat]
      exact up_inj (ht.inj _ _ _ k1 k2)
    · have a := ht.few
      have b := h.str
      rw [hcount] at a
      by_cases hx0 : x0 = -1
      · rw [if_pos hx0] at a b; omega
      · rw [if_neg hx0] at a b; omega
  · rintro ⟨h0, ht⟩
    refine ⟨by rw [ins_len hi, hl]; exact h.len, fun j x hx => ?_, fun j1 j2 n h1 h2 => ?_, ?_⟩
    · rcases up_or i j with rfl | ⟨m, rfl⟩
      · rw [ins_at hi] at hx
        cases hx; exact h0
      · rw [ins_up hi] at hx
        cases hm : l[m]? with
        | none => rw [hm] at hx; cases hx
        | some y =>
          rw [hm] at hx
          simp only [Option.map_some, Option.some.injEq] at hx
          subst hx
          rcases ht.ok m y hm with ⟨h2, h3⟩ | ⟨n, rfl, h3⟩
          · exact .inl ⟨(h.neg y).2 h2, by rw [← h.odd]; exact h3⟩
          · exact .inr ⟨fn n, h.nat n, by rw [← h.fit]; exact h3⟩
    · rcases up_or i j1 with e1 | ⟨m1, rfl⟩
      · rcases up_or i j2 with e2 | ⟨m2, rfl⟩
        · rw [e1, e2]
        · subst e1
          rw [ins_at hi] at h1
          rw [ins_up hi] at h2
          cases hm : l[m2]? with
          | none => rw [hm] at h2; cases h2
          | some y =>
            rw [hm] at h2
            simp only [Option.map_some, Option.some.injEq] at h1 h2
            obtain ⟨m, rfl⟩ := h.sur y n h2
            rw [h.nat] at h2
            exact absurd (h1.trans h2.symm) (h.ne m)
      · rcases up_or i j2 with e2 | ⟨m2, rfl⟩
        · subst e2
          rw [ins_at hi] at h2
          rw [ins_up hi] at h1
          cases hm : l[m1]? with
          | none => rw [hm] at h1; cases h1
          | some y =>
            rw [hm] at h1
            simp only [Option.map_some, Option.some.injEq] at h1 h2
            obtain ⟨m, rfl⟩ := h.sur y n h1
            rw [h.nat] at h1
            exact absurd (h2.trans h1.symm) (h.ne m)
        · rw [ins_up hi] at h1 h2
          cases hm1 : l[m1]? with
          | none => rw [hm1] at h1; cases h1
          | some y1 =>
            cases hm2 : l[m2]? with
            | none => rw [hm2] at h2; cases h2
            | some y2 =>
              rw [hm1] at h1
              rw [hm2] at h2
              simp only [Option.map_some, Option.some.injEq] at h1 h2
              obtain ⟨a1, rfl⟩ := h.sur y1 n h1
              obtain ⟨a2, rfl⟩ := h.sur y2 n h2
              rw [h.nat] at h1 h2
              have : a1 = a2 := h.inj _ _ (by omega)
              subst this
              rw [ht.inj m1 m2 a1 hm1 hm2]
    · have a := ht.few
      have b := h.str
      rw [hcount]
      by_cases hx0 : x0 = -1
      · rw [if_pos hx0] at b ⊢; omega
      · rw [if_neg hx0] at b ⊢; omega
theorem val_app {d : Desk} (a b : List Int) : val d (a ++ b) = val d a + val d b := by
  induction a with
  | nil => simp [val]
  | cons x a ih => simp only [List.cons_append, val, ih]; omega
theorem val_map {d d2 : Desk} {i : Nat} {x0 : Int} {f : Int → Int} {fn : Nat → Nat} (h : Lets d d2 i x0 f fn) : ∀ {l : List Int}, (∀ x ∈ l, x = -1 ∨ ∃ n : Nat, x = (n : Int)) → val d (l.map f) = val d2 l
  | [], _ => rfl
  | x :: l, hx => by
    simp only [List.map_cons, val]
    rw [val_map h (fun y hy => hx y (List.mem_cons_of_mem _ hy))]
    rcases hx x (List.mem_cons_self ..) with h1 | ⟨n, rfl⟩
    · rw [(h.neg x).2 h1, if_pos rfl, if_pos h1]
    · have e1 : ¬ ((n : Int) = -1) := by omega
      have e2 : ¬ (((fn n : Nat) : Int) = -1) := by omega
      rw [h.nat, if_neg e1, if_neg e2, Int.toNat_natCast, Int.toNat_natCast, h.val]
theorem val_ins {d d2 : Desk} {i : Nat} {x0 : Int} {f : Int → Int} {fn : Nat → Nat} (h : Lets d d2 i x0 f fn) {l : List Int} (ht : Tr d2 l) : val d (ins i x0 f l) = (if x0 = -1 then 0 else valueOf d x0.toNat) + val d2 l := by
  have hm : ∀ x ∈ l, x = -1 ∨ ∃ n : Nat, x = (n : Int) := fun x hx => by
    rcases Tr_mem ht x hx with h1 | ⟨n, h1, _⟩
    · exact .inl h1
    · exact .inr ⟨n, h1⟩
  unfold ins
  rw [val_app, val, val_map h (fun x hx => hm x (List.mem_of_mem_take hx)), val_map h (fun x hx => hm x (List.mem_of_mem_drop hx))]
  have : val d2 l = val d2 (l.take i) + val d2 (l.drop i) := by rw [← val_app, List.take_append_drop]
  rw [this]; omega
end Go.Ab.Cl

namespace Go.Ab.Cl
open Go.Ab

theorem ins_of {i : Nat} {x0 : Int} {f g : Int → Int} {l : List Int} (hi : i < l.length) (h0 : l[i]? = some x0) (hg : ∀ j y, l[up i j]? = some y → f (g y) = y) :
    l = ins i x0 f ((l.take i ++ l.drop (i + 1)).map g) := by
  have hlen : ((l.take i ++ l.drop (i + 1)).map g).length + 1 = l.length := by simp; omega
  refine List.ext_getElem? fun j => ?_
  rcases up_or i j with rfl | ⟨m, rfl⟩
  · rw [ins_at (by omega), h0]
  · rw [ins_up (by omega), List.getElem?_map, cut_get]
    cases h : l[up i m]? with
    | none => rfl
    | some y => simp [hg m y h]

def un (k : Nat) (x : Int) : Int := if (k : Int) ≤ x then x + 1 else x
def sh (k : Nat) (x : Int) : Int := if (k : Int) < x then x - 1 else x
theorem un_sh {k : Nat} {x : Int} (h : x ≠ (k : Int)) : un k (sh k x) = x := by unfold un sh; split <;> split <;> omega
/-- The desk without the box, and without the parcel that it is; and the one without a box that is strange. -/
def dK (d : Desk) (i k : Nat) (tb tp : Tok) : Desk := lessP (lessB d i tb) k tp
def dO (d : Desk) (i : Nat) (tb : Tok) : Desk := lessB (dS d (d.strange - 1)) i tb
theorem lets_K {d : Desk} {i k : Nat} (hi : i < d.bs.length) (tb tp : Tok) : Lets d (dK d i k tb tp) i (k : Int) (un k) (up k) where
  len := by simp [dK, lessP, lessB]; omega
  hi := by simp [dK, lessP, lessB]; omega
  odd j := by
    unfold oddB
    show (match (d.bs.take i ++ d.bs.drop (i + 1))[j]? with | some b => !b.stamp | none => false) = _
    rw [cut_get]
    rfl
  neg x := by unfold un; split <;> omega
  nat n := by unfold un up; split <;> split <;> omega
  sur x n h := by
    unfold un at h
    split at h
    · exact ⟨(x).toNat, by omega⟩
    · exact ⟨n, h⟩
  inj m n h := up_inj h
  ne n h := by have : up k n ≠ k := up_ne; omega
  fit j n := by
    unfold fit0
    show (match (d.bs.take i ++ d.bs.drop (i + 1))[j]?, (d.ps.take k ++ d.ps.drop (k + 1))[n]? with | some b, some p => couldB _ b p | _, _ => false) = _
    rw [cut_get, cut_get]; rfl
  str := by
    have h : ¬ ((k : Int) = -1) := by omega
    rw [if_neg h]
    show d.strange + 0 = d.strange
    omega
  val n := by
    unfold valueOf
    show (match (d.ps.take k ++ d.ps.drop (k + 1))[n]? with | some p => p.value | none => 0) = _
    rw [cut_get]
    rfl
theorem lets_O {d : Desk} {i : Nat} (hi : i < d.bs.length) (tb : Tok) : Lets d (dO d i tb) i (-1) (fun x => x) (fun n => n) where
  len := by simp [dO, lessB, dS]; omega
  hi := by simp [dO, lessB, dS]; omega
  odd j := by
    unfold oddB
    show (match (d.bs.take i ++ d.bs.drop (i + 1))[j]? with | some b => !b.stamp | none => false) = _
    rw [cut_get]
    rfl
  neg x := Iff.rfl
  nat n := rfl
  sur x n h := ⟨n, h⟩
  inj m n h := h
  ne n h := by omega
  fit j n := by
    unfold fit0
    show (match (d.bs.take i ++ d.bs.drop (i + 1))[j]?, d.ps[n]? with | some b, some p => couldB _ b p | _, _ => false) = _
    rw [cut_get]; rfl
  str := by show d.strange - 1 + 1 = d.strange; omega
  val n := rfl

/-- The values of all truths in which a box is something. -/
def SK (d : Desk) (i : Nat) (x v : Int) : Prop := ∃ l, Tr d l ∧ l[i]? = some x ∧ v = val d l
theorem SK_K {d : Desk} {i k : Nat} (hi : i < d.bs.length) (tb tp : Tok) (v : Int) : SK d i (k : Int) v ↔ fit0 d i k = true ∧ ∃ l, Tr (dK d i k tb tp) l ∧ v = valueOf d k + val (dK d i k tb tp) l := by
  have hL := lets_K (k := k) hi tb tp
  have hk : ¬ ((k : Int) = -1) := by omega
  constructor
  · rintro ⟨l, ht, h0, rfl⟩
    have e := ins_of (f := un k) (g := sh k) (by rw [ht.len]; exact hi) h0 (fun j y hy => un_sh (fun e => by
      subst e
      exact up_ne (ht.inj _ _ k hy h0)))
    have hl' : ((l.take i ++ l.drop (i + 1)).map (sh k)).length = (dK d i k tb tp).bs.length := by
      have := hL.len; have := ht.len; simp; omega
    rw [e] at ht
    have h2 := (Tr_ins hL hl').1 ht
    refine ⟨?_, _, h2.2, ?_⟩
    · rcases h2.1 with ⟨h3, _⟩ | ⟨n, h3, h4⟩
      · exact absurd h3 hk
      · have : k = n := by omega
        rw [this]; exact h4
    · rw [e, val_ins hL h2.2, if_neg hk, ← e, Int.toNat_natCast]
  · rintro ⟨hf, l, ht, rfl⟩
    have hil : i ≤ l.length := by rw [ht.len]; exact hL.hi
    refine ⟨ins i (k : Int) (un k) l, (Tr_ins hL ht.len).2 ⟨.inr ⟨k, rfl, hf⟩, ht⟩, ins_at hil, ?_⟩
    rw [val_ins hL ht, if_neg hk, Int.toNat_natCast]
theorem SK_O {d : Desk} {i : Nat} (hi : i < d.bs.length) (tb : Tok) (v : Int) : SK d i (-1) v ↔ oddB d i = true ∧ ∃ l, Tr (dO d i tb) l ∧ v = val (dO d i tb) l := by
  have hL := lets_O hi tb
  constructor
  · rintro ⟨l, ht, h0, rfl⟩
    have e := ins_of (f := fun x => x) (g := fun x => x) (by rw [ht.len]; exact hi) h0 (fun j y hy => rfl)
    have hl' : ((l.take i ++ l.drop (i + 1)).map (fun x => x)).length = (dO d i tb).bs.length := by
      have := hL.len; have := ht.len; simp; omega
    rw [e] at ht
    have h2 := (Tr_ins hL hl').1 ht
    refine ⟨?_, _, h2.2, ?_⟩
    · rcases h2.1 with ⟨_, h3⟩ | ⟨n, h3, h4⟩
      · exact h3
      · omega
    · rw [e, val_ins hL h2.2, if_pos rfl, ← e]; omega
  · rintro ⟨hf, l, ht, rfl⟩
    have hil : i ≤ l.length := by rw [ht.len]; exact hL.hi
    refine ⟨ins i (-1) (fun x => x) l, (Tr_ins hL ht.len).2 ⟨.inl ⟨rfl, hf⟩, ht⟩, ins_at hil, ?_⟩
    rw [val_ins hL ht, if_pos rfl]; omega
theorem can_SK {d : Desk} (hc : d.check = true) {i : Nat} (hi : i < d.bs.length) {x : Int} : canB d (i : Int) x = true ↔ ∃ v, SK d i x v := by
  rw [can_iff hc hi]
  exact ⟨fun ⟨l, h1, h2⟩ => ⟨_, l, h1, h2, rfl⟩, fun ⟨_, l, h1, h2, _⟩ => ⟨l, h1, h2⟩⟩
theorem cut_all {α : Type} {l : List α} {p : α → Bool} {i : Nat} (h : l.all p = true) : (l.take i ++ l.drop (i + 1)).all p = true := by
  rw [List.all_eq_true] at h ⊢
  intro x hx
  rcases List.mem_append.1 hx with hx | hx
  · exact h x (List.mem_of_mem_take hx)
  · exact h x (List.mem_of_mem_drop hx)
theorem dK_check {d : Desk} (hc : d.check = true) {i k : Nat} {tb tp : Tok} : (dK d i k tb tp).check = true := by
  simp only [Desk.check, Bool.and_eq_true, decide_eq_true_eq] at hc
  obtain ⟨⟨⟨⟨⟨⟨c1, c2⟩, c3⟩, c4⟩, c5⟩, c6⟩, c7⟩ := hc
  simp only [Desk.check, dK, lessP, lessB, Bool.and_eq_true]
  refine ⟨⟨⟨⟨⟨⟨c1, c2⟩, c3⟩, decide_eq_true ?_⟩, decide_eq_true ?_⟩, cut_all c6⟩, cut_all c7⟩
  · simp; omega
  · simp; omega
theorem dO_check {d : Desk} (hc : d.check = true) (hs : 0 < d.strange) {i : Nat} {tb : Tok} : (dO d i tb).check = true := by
  have hst := check_strange hc
  simp only [Desk.check, Bool.and_eq_true, decide_eq_true_eq] at hc
  obtain ⟨⟨⟨⟨⟨⟨c1, c2⟩, c3⟩, c4⟩, c5⟩, c6⟩, c7⟩ := hc
  simp only [Desk.check, dO, lessB, dS, Bool.and_eq_true]
  refine ⟨⟨⟨⟨⟨⟨c1, c2⟩, ?_⟩, decide_eq_true c4⟩, decide_eq_true ?_⟩, c6⟩, cut_all c7⟩
  · simp [within]; omega
  · simp; omega

/-- The least and the greatest of some values. -/
def Acc (found : Bool) (lo hi : Int) (S : Int → Prop) : Prop := (found = false ∧ lo = 0 ∧ hi = 0 ∧ ∀ v, ¬ S v) ∨ (found = true ∧ S lo ∧ S hi ∧ ∀ v, S v → lo ≤ v ∧ v ≤ hi)
theorem Acc_worth {d : Desk} (hc : d.check = true) : Acc (trueB d) (worthLo d) (worthHi d) (fun v => ∃ l, Tr d l ∧ v = val d l) := by
  cases ht : trueB d
  · refine .inl ⟨rfl, ?_, ?_, fun v ⟨l, h, _⟩ => ?_⟩
    · simp [worthLo, askE, hc, ht]
    · simp [worthHi, askE, hc, ht]
    · have := (true_iff hc).2 ⟨l, h⟩
      rw [ht] at this; cases this
  · obtain ⟨⟨l1, h1, e1⟩, ⟨l2, h2, e2⟩, h3⟩ := worth_spec hc ht
    exact .inr ⟨rfl, ⟨l1, h1, e1⟩, ⟨l2, h2, e2⟩, fun v ⟨l, h, hv⟩ => by rw [hv]; exact h3 l h⟩
theorem Acc_congr {f : Bool} {lo hi : Int} {S T : Int → Prop} (h : Acc f lo hi S) (e : ∀ v, S v ↔ T v) : Acc f lo hi T := by
  have : S = T := funext fun v => propext (e v)
  rw [← this]; exact h
/-- Nothing more, or more. -/
theorem Acc_skip {f : Bool} {lo hi : Int} {S T : Int → Prop} (h : Acc f lo hi S) (hn : ∀ v, ¬ T v) : Acc f lo hi (fun v => S v ∨ T v) :=
  Acc_congr h fun v => ⟨.inl, fun h => h.elim id fun h => absurd h (hn v)⟩
theorem Acc_more {f : Bool} {lo hi a b : Int} {S T : Int → Prop} (h : Acc f lo hi S) (ha : T a) (hb : T b) (ht : ∀ v, T v → a ≤ v ∧ v ≤ b) :
    Acc true (loI (if f = true then lo else a) a) (hiI (if f = true then hi else b) b) (fun v => S v ∨ T v) := by
  refine .inr ⟨rfl, ?_, ?_, fun v hv => ?_⟩
  · rcases h with ⟨h1, _⟩ | ⟨h1, h2, h3, h4⟩
    · subst h1; right; simp [loI, ha]
    · subst h1
      rcases lo_or lo a with e | e
      · left; simp [e, h2]
      · right; simp [e, ha]
  · rcases h with ⟨h1, _⟩ | ⟨h1, h2, h3, h4⟩
    · subst h1; right; simp [hiI, hb]
    · subst h1
      rcases hi_or hi b with e | e
      · left; simp [e, h3]
      · right; simp [e, hb]
  · have l1 := lo_better.r (if f = true then lo else a) a
    have l2 := lo_better.l (if f = true then lo else a) a
    have u1 := hi_better.r (if f = true then hi else b) b
    have u2 := hi_better.l (if f = true then hi else b) b
    rcases hv with hv | hv
    · rcases h with ⟨h1, h2, h3, h4⟩ | ⟨h1, h2, h3, h4⟩
      · exact absurd hv (h4 v)
      · subst h1
        have := h4 v hv
        simp only [if_true] at l2 u2 ⊢
        omega
    · have := ht v hv
      omega
theorem Acc_same {f g : Bool} {lo hi lo' hi' : Int} {S : Int → Prop} (h : Acc f lo hi S) (h' : Acc g lo' hi' S) : f = g ∧ lo = lo' ∧ hi = hi' := by
  rcases h with ⟨h1, h2, h3, h4⟩ | ⟨h1, h2, h3, h4⟩ <;> rcases h' with ⟨k1, k2, k3, k4⟩ | ⟨k1, k2, k3, k4⟩
  · exact ⟨by rw [h1, k1], by rw [h2, k2], by rw [h3, k3]⟩
  · exact absurd k2 (h4 _)
  · exact absurd h2 (k4 _)
  · have a1 := h4 _ k2; have a2 := h4 _ k3; have b1 := k4 _ h2; have b2 := k4 _ h3
    exact ⟨by rw [h1, k1], by omega, by omega⟩
theorem all_SK {d : Desk} {i : Nat} (hi : i < d.bs.length) (v : Int) : (∃ l, Tr d l ∧ v = val d l) ↔ (∃ k : Nat, k < d.ps.length ∧ SK d i (k : Int) v) ∨ SK d i (-1) v := by
  constructor
  · rintro ⟨l, h, hv⟩
    have hl : i < l.length := by rw [h.len]; exact hi
    have hg : l[i]? = some l[i] := by simp [hl]
    rcases h.ok i _ hg with ⟨h1, _⟩ | ⟨n, h1, h2⟩
    · right; exact ⟨l, h, by rw [hg, h1], hv⟩
    · left; exact ⟨n, (fit_lt h2).2, l, h, by rw [hg, h1], hv⟩
  · rintro (⟨k, _, l, h, _, hv⟩ | ⟨l, h, _, hv⟩) <;> exact ⟨l, h, hv⟩
end Go.Ab.Cl
