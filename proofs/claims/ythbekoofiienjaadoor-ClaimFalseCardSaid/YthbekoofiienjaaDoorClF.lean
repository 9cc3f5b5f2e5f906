/-
  The claims, plain: truths; what the best value of the boxes says of them.
-/
import Derived.Test.YthbekoofiienjaaDoorClP
import Derived.Test.YthbekoofiienjaaDoorClZ
namespace Go.Ab.Cl
open Go.Ab

def fit0 (d : Desk) (i k : Nat) : Bool := match d.bs[i]?, d.ps[k]? with
  | some b, some p => couldB d b p
  | _, _ => false
theorem fits_fit {d : Desk} {i t k : Nat} : fitsB d i t k = (!t.testBit k && fit0 d i k) := by
  unfold fitsB fit0
  cases d.bs[i]? <;> cases d.ps[k]? <;> simp
theorem fit_lt {d : Desk} {i k : Nat} (h : fit0 d i k = true) : i < d.bs.length ∧ k < d.ps.length := by
  unfold fit0 at h
  split at h
  · rename_i b p hb hp
    exact ⟨(List.getElem?_eq_some_iff.1 hb).1, (List.getElem?_eq_some_iff.1 hp).1⟩
  · cases h
theorem optsFrom_iff {d : Desk} {i t : Nat} {z : Int} : z ∈ optsFrom d i t 0 ↔ ∃ k : Nat, z = (k : Int) ∧ fitsB d i t k = true := by
  unfold optsFrom
  simp only [List.mem_map, List.mem_filter, List.mem_range']
  constructor
  · rintro ⟨k, ⟨_, h3⟩, rfl⟩; exact ⟨k, rfl, h3⟩
  · rintro ⟨k, rfl, h⟩
    have h2 := h
    rw [fits_fit, Bool.and_eq_true] at h2
    exact ⟨k, ⟨⟨k, by have := (fit_lt h2.2).2; omega, by omega⟩, h⟩, rfl⟩
theorem opts_iff {d : Desk} {i t : Nat} {z : Int} : z ∈ opts d i t ↔ (z = -1 ∧ oddB d i = true) ∨ ∃ k : Nat, z = (k : Int) ∧ fitsB d i t k = true := by
  unfold opts
  split
  · rename_i h
    rw [List.mem_cons, optsFrom_iff]
    simp [h]
  · rename_i h
    rw [optsFrom_iff]
    simp [h]

/-- What parcels are worth. -/
def val (d : Desk) : List Int → Int
  | [] => 0
  | k :: l => (if k = -1 then 0 else valueOf d k.toNat) + val d l

/-- The last m boxes, chosen one after the other. -/
def Ch (d : Desk) (g : Nat → Option Int) (i t : Nat) (st : Int) (rest : Nat → Int → List Int → Prop) (k : Int) (l : List Int) : Prop :=
  clash g i k = false ∧ if k = -1 then st + 1 ≤ d.strange ∧ rest t (st + 1) l else rest (t ||| 1 <<< k.toNat) st l
def Suf (d : Desk) (g : Nat → Option Int) : Nat → Nat → Int → List Int → Prop
  | 0, _, _, l => l = []
  | m + 1, t, st, l => ∃ k l', l = k :: l' ∧ k ∈ opts d (d.bs.length - (m + 1)) t ∧ Ch d g (d.bs.length - (m + 1)) t st (Suf d g m) k l'

/-- What it means to be the best of some values. -/
structure Better (by_ : Int → Int → Int) (R : Int → Int → Prop) : Prop where
  or : ∀ a b, by_ a b = a ∨ by_ a b = b
  l : ∀ a b, R (by_ a b) a
  r : ∀ a b, R (by_ a b) b
  refl : ∀ a, R a a
  trans : ∀ a b c, R a b → R b c → R a c
  add : ∀ a b v, R a b → R (v + a) (v + b)

def IsBest (R : Int → Int → Prop) (out : Int) (S : Int → Prop) : Prop := (out = -1 ∧ ∀ v, ¬ S v) ∨ (0 ≤ out ∧ S out ∧ ∀ v, S v → R out v)

theorem step_best {d : Desk} {by_ : Int → Int → Int} {R : Int → Int → Prop} (hb : Better by_ R) (hc : d.check = true) (g : Nat → Option Int) (i t : Nat) (st : Int) {rw_ : Nat → Int → Int} {rs : Nat → Int → List Int → Prop}
    (hr : ∀ t st, IsBest R (rw_ t st) (fun v => ∃ l, rs t st l ∧ v = val d l)) {out : Int} {S : Int → Prop} (ho : IsBest R out S) (k : Int) :
    IsBest R (stepW d by_ g i t st rw_ out k) (fun v => S v ∨ ∃ l, Ch d g i t st rs k l ∧ v = val d (k :: l)) := by
  have key : ∀ (w vk : Int) (T : Int → Prop), 0 ≤ vk → IsBest R w T → (∀ v, (∃ l, Ch d g i t st rs k l ∧ v = val d (k :: l)) ↔ ∃ u, T u ∧ v = vk + u) → IsBest R (comb by_ out w vk) (fun v => S v ∨ ∃ l, Ch d g i t st rs k l ∧ v = val d (k :: l)) := by
    intro w vk T hvk hw hT
    unfold comb
    rcases hw with ⟨hw1, hw2⟩ | ⟨hw1, hw2, hw3⟩
    · rw [if_pos hw1]
      have hno : ∀ v, ¬ ∃ l, Ch d g i t st rs k l ∧ v = val d (k :: l) := fun v h => by
        obtain ⟨u, hu, _⟩ := (hT v).1 h
        exact hw2 u hu
      rcases ho with ⟨h1, h2⟩ | ⟨h1, h2, h3⟩
      · exact .inl ⟨h1, fun v hv => hv.elim (h2 v) (hno v)⟩
      · exact .inr ⟨h1, .inl h2, fun v hv => hv.elim (h3 v) (fun h => absurd h (hno v))⟩
    · rw [if_neg (by omega)]
      have hin : ∃ l, Ch d g i t st rs k l ∧ vk + w = val d (k :: l) := (hT _).2 ⟨w, hw2, rfl⟩
      have hbd : ∀ v, (∃ l, Ch d g i t st rs k l ∧ v = val d (k :: l)) → R (vk + w) v := fun v h => by
        obtain ⟨u, hu, rfl⟩ := (hT v).1 h
        exact hb.add _ _ _ (hw3 u hu)
      rw [show w + vk = vk + w by omega]
      rcases ho with ⟨h1, h2⟩ | ⟨h1, h2, h3⟩
      · rw [if_pos h1]
        have e : by_ (vk + w) (vk + w) = vk + w := by rcases hb.or (vk + w) (vk + w) with h | h <;> exact h
        rw [e]
        exact .inr ⟨by omega, .inr hin, fun v hv => hv.elim (fun h => absurd h (h2 v)) (hbd v)⟩
      · rw [if_neg (by omega)]
        refine .inr ⟨?_, ?_, fun v hv => ?_⟩
        · rcases hb.or out (vk + w) with h | h <;> rw [h] <;> omega
        · rcases hb.or out (vk + w) with h | h <;> rw [h]
          · exact .inl h2
          · exact .inr hin
        · rcases hv with hv | hv
          · exact hb.trans _ _ _ (hb.l _ _) (h3 v hv)
          · exact hb.trans _ _ _ (hb.r _ _) (hbd v hv)
  have skip : (∀ l, ¬ Ch d g i t st rs k l) → IsBest R out (fun v => S v ∨ ∃ l, Ch d g i t st rs k l ∧ v = val d (k :: l)) := by
    intro hn
    rcases ho with ⟨h1, h2⟩ | ⟨h1, h2, h3⟩
    · exact .inl ⟨h1, fun v hv => hv.elim (h2 v) (fun ⟨l, h, _⟩ => hn l h)⟩
    · exact .inr ⟨h1, .inl h2, fun v hv => hv.elim (h3 v) (fun ⟨l, h, _⟩ => absurd h (hn l))⟩
  unfold stepW
  by_cases hcl : clash g i k = true
  · rw [if_pos hcl]
    exact skip fun l h => by rw [h.1] at hcl; cases hcl
  · have hcl' : clash g i k = false := by simpa using hcl
    rw [if_neg hcl]
    by_cases hk : k = -1
    · rw [if_pos hk]
      by_cases hs : d.strange < st + 1
      · rw [if_pos hs]
        exact skip fun l h => by have := h.2; rw [if_pos hk] at this; omega
      · rw [if_neg hs]
        refine key _ 0 _ (by omega) (hr t (st + 1)) fun v => ?_
        constructor
        · rintro ⟨l, h, rfl⟩
          have h2 := h.2
          rw [if_pos hk] at h2
          exact ⟨_, ⟨l, h2.2, rfl⟩, by simp [val, hk]⟩
        · rintro ⟨u, ⟨l, h, rfl⟩, rfl⟩
          exact ⟨l, ⟨hcl', by rw [if_pos hk]; exact ⟨by omega, h⟩⟩, by simp [val, hk]⟩
    · rw [if_neg hk]
      refine key _ (valueOf d k.toNat) _ (value_in hc _).1 (hr _ st) fun v => ?_
      constructor
      · rintro ⟨l, h, rfl⟩
        have h2 := h.2
        rw [if_neg hk] at h2
        exact ⟨_, ⟨l, h2, rfl⟩, by simp [val, hk]⟩
      · rintro ⟨u, ⟨l, h, rfl⟩, rfl⟩
        exact ⟨l, ⟨hcl', by rw [if_neg hk]; exact h⟩, by simp [val, hk]⟩

theorem best_congr {R : Int → Int → Prop} {out : Int} {S T : Int → Prop} (h : IsBest R out S) (e : ∀ v, S v ↔ T v) : IsBest R out T := by
  have : S = T := funext fun v => propext (e v)
  rw [← this]; exact h

theorem fold_best {d : Desk} {by_ : Int → Int → Int} {R : Int → Int → Prop} (hb : Better by_ R) (hc : d.check = true) (g : Nat → Option Int) (i t : Nat) (st : Int) {rw_ : Nat → Int → Int} {rs : Nat → Int → List Int → Prop}
    (hr : ∀ t st, IsBest R (rw_ t st) (fun v => ∃ l, rs t st l ∧ v = val d l)) : ∀ (ks : List Int) {out : Int} {S : Int → Prop}, IsBest R out S →
    IsBest R (ks.foldl (stepW d by_ g i t st rw_) out) (fun v => S v ∨ ∃ k l, k ∈ ks ∧ Ch d g i t st rs k l ∧ v = val d (k :: l))
  | [], out, S, ho => best_congr ho fun v => by simp
  | k :: ks, out, S, ho => by
    refine best_congr (fold_best hb hc g i t st hr ks (step_best hb hc g i t st hr ho k)) fun v => ?_
    constructor
    · rintro ((h | ⟨l, h, rfl⟩) | ⟨k', l, h1, h2, rfl⟩)
      · exact .inl h
      · exact .inr ⟨k, l, List.mem_cons_self .., h, rfl⟩
      · exact .inr ⟨k', l, List.mem_cons_of_mem _ h1, h2, rfl⟩
    · rintro (h | ⟨k', l, h1, h2, rfl⟩)
      · exact .inl (.inl h)
      · rcases List.mem_cons.1 h1 with rfl | h1
        · exact .inl (.inr ⟨l, h2, rfl⟩)
        · exact .inr ⟨k', l, h1, h2, rfl⟩

theorem W_best {d : Desk} {by_ : Int → Int → Int} {R : Int → Int → Prop} (hb : Better by_ R) (hc : d.check = true) (g : Nat → Option Int) : ∀ (m t : Nat) (st : Int), IsBest R (W d by_ g m t st) (fun v => ∃ l, Suf d g m t st l ∧ v = val d l)
  | 0, t, st => .inr ⟨by simp [W], ⟨[], rfl, rfl⟩, fun v ⟨l, h, hv⟩ => by
      have h : l = [] := h
      subst h; subst hv; exact hb.refl _⟩
  | m + 1, t, st => by
    have h := fold_best hb hc g (d.bs.length - (m + 1)) t st (fun t st => W_best hb hc g m t st) (opts d (d.bs.length - (m + 1)) t) (out := -1) (S := fun _ => False) (.inl ⟨rfl, fun _ h => h⟩)
    refine best_congr h fun v => ?_
    constructor
    · rintro (h | ⟨k, l, h1, h2, rfl⟩)
      · cases h
      · exact ⟨k :: l, ⟨k, l, rfl, h1, h2⟩, rfl⟩
    · rintro ⟨_, ⟨k, l, rfl, h1, h2⟩, rfl⟩
      exact .inr ⟨k, l, h1, h2, rfl⟩

/-! ### truths, said all at once -/
structure SufD (d : Desk) (g : Nat → Option Int) (i0 t : Nat) (st : Int) (l : List Int) : Prop where
  ok : ∀ (i : Nat) (k : Int), l[i]? = some k → (k = -1 ∧ oddB d (i0 + i) = true) ∨ ∃ n : Nat, k = (n : Int) ∧ fit0 d (i0 + i) n = true ∧ t.testBit n = false
  inj : ∀ (i j n : Nat), l[i]? = some (n : Int) → l[j]? = some (n : Int) → i = j
  few : st + (l.count (-1) : Nat) ≤ d.strange
  free : ∀ (i : Nat) (k : Int), l[i]? = some k → clash g (i0 + i) k = false

theorem bit_or (t n k : Nat) : (t ||| 1 <<< n).testBit k = (t.testBit k || decide (k = n)) := by
  rw [Nat.testBit_or, Nat.testBit_shiftLeft]
  congr 1
  by_cases h : k = n
  · subst h; simp
  · by_cases h2 : k ≥ n
    · have : k - n ≠ 0 := by omega
      obtain ⟨m, hm⟩ := Nat.exists_eq_succ_of_ne_zero this
      simp [h, h2, hm, Nat.testBit_succ]
    · simp [h, h2]

theorem Suf_iff {d : Desk} {g : Nat → Option Int} : ∀ (m t : Nat) (st : Int) (l : List Int), m ≤ d.bs.length → st ≤ d.strange → (Suf d g m t st l ↔ l.length = m ∧ SufD d g (d.bs.length - m) t st l)
  | 0, t, st, l, hm, hst => by
    constructor
    · intro h
      have h : l = [] := h
      subst h
      exact ⟨rfl, fun i k h => by simp at h, fun i j n h => by simp at h, by simpa using hst, fun i k h => by simp at h⟩
    · rintro ⟨h, _⟩
      exact List.length_eq_zero_iff.1 h
  | m + 1, t, st, l, hm, hst => by
    have hadd : ∀ i, d.bs.length - (m + 1) + (i + 1) = d.bs.length - m + i := fun i => by omega
    constructor
    · rintro ⟨k, l', rfl, hk, hcl, hch⟩
      rcases opts_iff.1 hk with ⟨rfl, ho⟩ | ⟨n, rfl, hf⟩
      · rw [if_pos rfl] at hch
        obtain ⟨hs, hr⟩ := hch
        obtain ⟨hl, hd⟩ := (Suf_iff m t (st + 1) l' (by omega) (by omega)).1 hr
        refine ⟨by simp [hl], fun i k h => ?_, fun i j n h1 h2 => ?_, ?_, fun i k h => ?_⟩
        · cases i with
          | zero => simp at h; subst h; exact .inl ⟨rfl, ho⟩
          | succ i => rw [hadd]; exact hd.ok i k (by simpa using h)
        · cases i with
          | zero => simp at h1 <;> omega
          | succ i => cases j with
            | zero => simp at h2 <;> omega
            | succ j => rw [hd.inj i j n (by simpa using h1) (by simpa using h2)]
        · have := hd.few; simp; omega
        · cases i with
          | zero => simp at h; subst h; exact hcl
          | succ i => rw [hadd]; exact hd.free i k (by simpa using h)
      · have hn1 : ¬ ((n : Int) = -1) := by omega
        rw [if_neg hn1] at hch
        rw [fits_fit, Bool.and_eq_true] at hf
        obtain ⟨hf1, hf2⟩ := hf
        obtain ⟨hl, hd⟩ := (Suf_iff m _ st l' (by omega) hst).1 hch
        refine ⟨by simp [hl], fun i k h => ?_, fun i j n' h1 h2 => ?_, ?_, fun i k h => ?_⟩
        · cases i with
          | zero => simp at h; subst h; exact .inr ⟨n, rfl, hf2, by simpa using hf1⟩
          | succ i =>
            rw [hadd]
            rcases hd.ok i k (by simpa using h) with h1 | ⟨n', h1, h2, h3⟩
            · exact .inl h1
            · refine .inr ⟨n', h1, h2, ?_⟩
              simp only [Int.toNat_natCast] at h3
              rw [bit_or, Bool.or_eq_false_iff] at h3
              exact h3.1
        · have hne : ∀ i : Nat, l'[i]? = some (n : Int) → False := fun i h => by
            rcases hd.ok i _ h with h1 | ⟨n'', h1, h2, h3⟩
            · exact hn1 h1.1
            · simp only [Int.toNat_natCast] at h3
              rw [bit_or, Bool.or_eq_false_iff] at h3
              have : n'' = n := by omega
              simp [this] at h3
          cases i with
          | zero =>
            simp at h1
            have : n' = n := by omega
            subst this
            cases j with
            | zero => rfl
            | succ j => exact absurd (by simpa using h2) (fun h => hne j h)
          | succ i => cases j with
            | zero =>
              simp at h2
              have : n' = n := by omega
              subst this
              exact absurd (by simpa using h1) (fun h => hne i h)
            | succ j => rw [hd.inj i j n' (by simpa using h1) (by simpa using h2)]
        · have := hd.few
          rw [List.count_cons_of_ne (by simp)]; exact this
        · cases i with
          | zero => simp at h; subst h; exact hcl
          | succ i => rw [hadd]; exact hd.free i k (by simpa using h)
    · rintro ⟨hl, hd⟩
      cases l with
      | nil => simp at hl
      | cons k l' =>
        have hl' : l'.length = m := by simpa using hl
        have h0 := hd.ok 0 k rfl
        have hf0 := hd.free 0 k rfl
        simp only [Nat.add_zero] at h0 hf0
        refine ⟨k, l', rfl, ?_, hf0, ?_⟩
        · rcases h0 with ⟨h1, h2⟩ | ⟨n, h1, h2, h3⟩
          · exact opts_iff.2 (.inl ⟨h1, h2⟩)
          · exact opts_iff.2 (.inr ⟨n, h1, by rw [fits_fit, h3, h2]; rfl⟩)
        · rcases h0 with ⟨h1, h2⟩ | ⟨n, h1, h2, h3⟩
          · subst h1
            rw [if_pos rfl]
            have hfew := hd.few
            rw [List.count_cons_self] at hfew
            refine ⟨by omega, (Suf_iff m t (st + 1) l' (by omega) (by omega)).2 ⟨hl', fun i k h => ?_, fun i j n h1 h2 => ?_, by omega, fun i k h => ?_⟩⟩
            · rw [← hadd]; exact hd.ok (i + 1) k (by simpa using h)
            · have := hd.inj (i + 1) (j + 1) n (by simpa using h1) (by simpa using h2); omega
            · rw [← hadd]; exact hd.free (i + 1) k (by simpa using h)
          · subst h1
            have hn1 : ¬ ((n : Int) = -1) := by omega
            rw [if_neg hn1]
            refine (Suf_iff m _ st l' (by omega) hst).2 ⟨hl', fun i k h => ?_, fun i j n' h1 h2 => ?_, ?_, fun i k h => ?_⟩
            · rw [← hadd]
              rcases hd.ok (i + 1) k (by simpa using h) with h1 | ⟨n', h1, h4, h5⟩
              · exact .inl h1
              · refine .inr ⟨n', h1, h4, ?_⟩
                simp only [Int.toNat_natCast]
                rw [bit_or, h5]
                simp only [Bool.false_or, decide_eq_false_iff_not]
                rintro rfl
                have := hd.inj 0 (i + 1) n' (by simp) (by rw [h1] at h; simpa using h)
                omega
            · have := hd.inj (i + 1) (j + 1) n' (by simpa using h1) (by simpa using h2); omega
            · have := hd.few
              rw [List.count_cons_of_ne (by simp)] at this; exact this
            · rw [← hadd]; exact hd.free (i + 1) k (by simpa using h)

/-- A truth. -/
structure Tr (d : Desk) (l : List Int) : Prop where
  len : l.length = d.bs.length
  ok : ∀ (i : Nat) (k : Int), l[i]? = some k → (k = -1 ∧ oddB d i = true) ∨ ∃ n : Nat, k = (n : Int) ∧ fit0 d i n = true
  inj : ∀ (i j n : Nat), l[i]? = some (n : Int) → l[j]? = some (n : Int) → i = j
  few : ((l.count (-1) : Nat) : Int) ≤ d.strange
theorem Suf_all {d : Desk} {g : Nat → Option Int} (h0 : 0 ≤ d.strange) {l : List Int} : Suf d g d.bs.length 0 0 l ↔ Tr d l ∧ ∀ (i : Nat) (k : Int), l[i]? = some k → clash g i k = false := by
  rw [Suf_iff _ _ _ _ (Nat.le_refl _) h0, Nat.sub_self]
  constructor
  · rintro ⟨h1, h2⟩
    refine ⟨⟨h1, fun i k h => ?_, h2.inj, by have := h2.few; omega⟩, fun i k h => by have := h2.free i k h; simpa using this⟩
    rcases h2.ok i k h with h3 | ⟨n, h3, h4, _⟩
    · exact .inl (by simpa using h3)
    · exact .inr ⟨n, h3, by simpa using h4⟩
  · rintro ⟨h1, h2⟩
    refine ⟨h1.len, fun i k h => ?_, h1.inj, by have := h1.few; omega, fun i k h => by simpa using h2 i k h⟩
    rcases h1.ok i k h with h3 | ⟨n, h3, h4⟩
    · exact .inl (by simpa using h3)
    · exact .inr ⟨n, h3, by simpa using h4, by simp⟩
end Go.Ab.Cl

namespace Go.Ab.Cl
open Go.Ab

theorem hi_better : Better hiI (fun x y => y ≤ x) where
  or := hi_or
  l a b := by unfold hiI; split <;> omega
  r a b := by unfold hiI; split <;> omega
  refl a := Int.le_refl a
  trans a b c h1 h2 := by omega
  add a b v h := by omega
theorem lo_better : Better loI (fun x y => x ≤ y) where
  or := lo_or
  l a b := by unfold loI; split <;> omega
  r a b := by unfold loI; split <;> omega
  refl a := Int.le_refl a
  trans a b c h1 h2 := by omega
  add a b v h := by omega

theorem best_spec {d : Desk} {by_ : Int → Int → Int} {R : Int → Int → Prop} (hb : Better by_ R) (hc : d.check = true) (ge : List (Int × Int)) :
    IsBest R (best d by_ ge) (fun v => ∃ l, (Tr d l ∧ ∀ (i : Nat) (k : Int), l[i]? = some k → clash (fun i => look ge i) i k = false) ∧ v = val d l) := by
  have hs := check_strange hc
  refine best_congr (W_best hb hc (fun i => look ge i) d.bs.length 0 0) fun v => ?_
  simp only [Suf_all hs.1]
theorem best_never {d : Desk} {by_ : Int → Int → Int} {R : Int → Int → Prop} (hb : Better by_ R) (hc : d.check = true) (ge : List (Int × Int)) : best d by_ ge ≠ -1 ↔ ∃ l, Tr d l ∧ ∀ (i : Nat) (k : Int), l[i]? = some k → clash (fun i => look ge i) i k = false := by
  rcases best_spec hb hc ge with ⟨h1, h2⟩ | ⟨h1, ⟨l, h2, h3⟩, h4⟩
  · rw [h1]
    constructor
    · intro h; exact absurd rfl h
    · rintro ⟨l, hl⟩; exact absurd ⟨l, hl, rfl⟩ (h2 (val d l))
  · exact ⟨fun _ => ⟨l, h2⟩, fun _ => by omega⟩
theorem clash_none {i : Nat} {k : Int} : clash (fun i => look [] i) i k = false := rfl
theorem true_iff {d : Desk} (hc : d.check = true) : trueB d = true ↔ ∃ l, Tr d l := by
  unfold trueB
  rw [decide_eq_true_eq, best_never hi_better hc]
  exact ⟨fun ⟨l, h, _⟩ => ⟨l, h⟩, fun ⟨l, h⟩ => ⟨l, h, fun _ _ _ => clash_none⟩⟩
theorem can_iff {d : Desk} (hc : d.check = true) {b : Nat} (hb : b < d.bs.length) {p : Int} : canB d (b : Int) p = true ↔ ∃ l, Tr d l ∧ l[b]? = some p := by
  unfold canB
  rw [decide_eq_true_eq, best_never hi_better hc]
  have hlook : ∀ (i : Nat) (k : Int), clash (fun i => look [((b : Int), p)] i) i k = false ↔ (b = i → p = k) := by
    intro i k
    unfold clash look
    by_cases h : b = i
    · subst h; simp
    · have h2 : ((b : Int) == (i : Int)) = false := by simp; omega
      simp [List.find?, h2, h]
  constructor
  · rintro ⟨l, h, h2⟩
    refine ⟨l, h, ?_⟩
    have hlt : b < l.length := by rw [h.len]; exact hb
    have := (hlook b l[b]).1 (h2 b l[b] (by simp [hlt])) rfl
    rw [this]; simp [hlt]
  · rintro ⟨l, h, h2⟩
    refine ⟨l, h, fun i k hk => (hlook i k).2 fun hbi => ?_⟩
    subst hbi
    rw [h2] at hk; exact Option.some.inj hk
/-- What is told of a desk in which something is true: from what to what all is worth. -/
theorem worth_spec {d : Desk} (hc : d.check = true) (ht : trueB d = true) : (∃ l, Tr d l ∧ worthLo d = val d l) ∧ (∃ l, Tr d l ∧ worthHi d = val d l) ∧ (∀ l, Tr d l → worthLo d ≤ val d l ∧ val d l ≤ worthHi d) := by
  have he : askE d true = 0 := by simp [askE, hc, ht]
  rw [show worthLo d = best d loI [] from if_pos he, show worthHi d = best d hiI [] from if_pos he]
  obtain ⟨l0, h0⟩ := (true_iff hc).1 ht
  rcases best_spec lo_better hc [] with ⟨h1, h2⟩ | ⟨h1, ⟨l, h2, h3⟩, h4⟩
  · exact absurd ⟨l0, ⟨h0, fun _ _ _ => clash_none⟩, rfl⟩ (h2 (val d l0))
  rcases best_spec hi_better hc [] with ⟨k1, k2⟩ | ⟨k1, ⟨l', k2, k3⟩, k4⟩
  · exact absurd ⟨l0, ⟨h0, fun _ _ _ => clash_none⟩, rfl⟩ (k2 (val d l0))
  exact ⟨⟨l, h2.1, h3⟩, ⟨l', k2.1, k3⟩, fun l'' h => ⟨h4 _ ⟨l'', ⟨h, fun _ _ _ => clash_none⟩, rfl⟩, k4 _ ⟨l'', ⟨h, fun _ _ _ => clash_none⟩, rfl⟩⟩⟩
end Go.Ab.Cl

namespace Go.Ab.Cl
open Go.Ab

/-- Boxes without some stamps. -/
def Box.uns (b : Box) (c : Bool) : Box := { b with stamp := b.stamp && !c }
def unsB (bs : List Box) (f : Nat → Bool) : List Box := bs.mapIdx fun i b => b.uns (f i)
def unS (d : Desk) (f : Nat → Bool) (tb : Tok) : Desk := { d with bs := unsB d.bs f, tb := tb }
def tW (d : Desk) (f : Nat → Bool) : Bool := trueB (unS d f .any)
def stampB (d : Desk) (i : Nat) : Bool := match d.bs[i]? with
  | some b => b.stamp
  | none => false

theorem unsB_len (bs : List Box) (f : Nat → Bool) : (unsB bs f).length = bs.length := by simp [unsB]
theorem unsB_get (bs : List Box) (f : Nat → Bool) (i : Nat) : (unsB bs f)[i]? = (bs[i]?).map fun b => b.uns (f i) := by simp [unsB]
theorem unsB_congr {bs : List Box} {f g : Nat → Bool} (h : ∀ i, i < bs.length → f i = g i) : unsB bs f = unsB bs g := by
  refine List.ext_getElem? fun i => ?_
  rw [unsB_get, unsB_get]
  by_cases hi : i < bs.length
  · rw [h i hi]
  · rw [List.getElem?_eq_none (by omega)]; rfl
theorem uns_same (b : Box) : b.uns false = b := by simp [Box.uns]
theorem unsB_none (bs : List Box) {f : Nat → Bool} (h : ∀ i, i < bs.length → f i = false) : unsB bs f = bs := by
  refine List.ext_getElem? fun i => ?_
  rw [unsB_get]
  by_cases hi : i < bs.length
  · rw [h i hi, List.getElem?_eq_getElem hi]
    simp [uns_same]
  · rw [List.getElem?_eq_none (by omega)]; rfl
theorem tW_congr {d : Desk} {f g : Nat → Bool} (h : ∀ i, i < d.bs.length → f i = g i) : tW d f = tW d g := by
  unfold tW unS
  rw [unsB_congr h]
theorem uns_box (b : Box) (c : Bool) : okBox (b.uns c) = okBox b := rfl
theorem unS_check (d : Desk) (f : Nat → Bool) (tb : Tok) : (unS d f tb).check = d.check := by
  have e : (unS d f tb).check = (isSpan d.lo d.hi 0 400 && within d.wear 0 5000 && within d.strange 0 6 && decide (d.ps.length ≤ 8) && decide ((unsB d.bs f).length ≤ 6) && d.ps.all okParcel && (unsB d.bs f).all okBox) := rfl
  have e2 : d.check = (isSpan d.lo d.hi 0 400 && within d.wear 0 5000 && within d.strange 0 6 && decide (d.ps.length ≤ 8) && decide (d.bs.length ≤ 6) && d.ps.all okParcel && d.bs.all okBox) := rfl
  have h : (unsB d.bs f).all okBox = d.bs.all okBox := by
    rw [Bool.eq_iff_iff, List.all_eq_true, List.all_eq_true]
    constructor
    · intro h b hb
      obtain ⟨i, hi, rfl⟩ := List.mem_iff_getElem.1 hb
      have : (unsB d.bs f)[i]? = some (d.bs[i].uns (f i)) := by rw [unsB_get, List.getElem?_eq_getElem hi]; rfl
      have := h _ (List.mem_of_getElem? this)
      rwa [uns_box] at this
    · intro h b hb
      obtain ⟨i, hi, rfl⟩ := List.mem_iff_getElem.1 hb
      have hi2 : i < d.bs.length := by rw [unsB_len] at hi; exact hi
      have : (unsB d.bs f)[i]? = some (d.bs[i].uns (f i)) := by rw [unsB_get, List.getElem?_eq_getElem hi2]; rfl
      rw [List.getElem?_eq_getElem hi] at this
      rw [Option.some.inj this, uns_box]
      exact h _ (List.getElem_mem _)
  rw [e, e2, unsB_len, h]
theorem unS_ok {d : Desk} (hd : d.ok) {f : Nat → Bool} {tb : Tok} (ht : purTok tb = true) : (unS d f tb).ok where
  tp := hd.tp
  tb := ht
  ps := hd.ps
  bs := by have := hd.bs; simpa [unS, unsB_len] using this
  str b hb := by
    obtain ⟨i, hi, rfl⟩ := List.mem_iff_getElem.1 hb
    have hi : i < (unsB d.bs f).length := hi
    have hi2 : i < d.bs.length := by rw [unsB_len] at hi; exact hi
    have : (unsB d.bs f)[i]? = some (d.bs[i].uns (f i)) := by rw [unsB_get, List.getElem?_eq_getElem hi2]; rfl
    rw [List.getElem?_eq_getElem hi] at this
    show (unsB d.bs f)[i].mark.length ≤ _
    rw [Option.some.inj this]
    show (d.bs[i]).mark.length ≤ _
    exact hd.str _ (List.getElem_mem _)
theorem tW_tok {d : Desk} (hc : d.check = true) (f : Nat → Bool) (tb : Tok) : trueB (unS d f tb) = tW d f := by
  unfold tW
  rw [Bool.eq_iff_iff, true_iff (by rw [unS_check]; exact hc), true_iff (by rw [unS_check]; exact hc)]
  exact ⟨fun ⟨l, h⟩ => ⟨l, h.len, h.ok, h.inj, h.few⟩, fun ⟨l, h⟩ => ⟨l, h.len, h.ok, h.inj, h.few⟩⟩

/-! ### choices -/
def inL (l : List Nat) (i : Nat) : Bool := decide (i ∈ l)
def chooseV (d : Desk) : Nat → Nat → List Nat → Option (List Nat)
  | 0, _, l => if tW d (inL l) = true then some l else none
  | m + 1, j, l => (List.range' j (d.bs.length - j)).findSome? fun k => if stampB d k = true then chooseV d m (k + 1) (l ++ [k]) else none
def Asc (d : Desk) : Nat → List Nat → Prop
  | _, [] => True
  | j, k :: l => j ≤ k ∧ k < d.bs.length ∧ stampB d k = true ∧ Asc d (k + 1) l
def aheadN : List Nat → List Nat → Bool
  | [], [] => false
  | [], _ :: _ => true
  | _ :: _, [] => false
  | x :: a, y :: b => if x = y then aheadN a b else decide (x < y)

theorem Asc.weaken {d : Desk} : ∀ {l : List Nat} {j j' : Nat}, Asc d j l → j' ≤ j → Asc d j' l
  | [], _, _, _, _ => trivial
  | _ :: _, _, _, ⟨h1, h2⟩, h => ⟨by omega, h2⟩
theorem Asc.len {d : Desk} : ∀ {l : List Nat} {j : Nat}, Asc d j l → j ≤ d.bs.length → l.length + j ≤ d.bs.length
  | [], _, _, h => by simpa using h
  | k :: l, j, ⟨h1, h2, _, h3⟩, h => by
    have := Asc.len h3 (by omega)
    simp only [List.length_cons]; omega
theorem Asc.mem {d : Desk} : ∀ {l : List Nat} {j : Nat}, Asc d j l → ∀ x ∈ l, j ≤ x ∧ x < d.bs.length ∧ stampB d x = true
  | [], _, _, x, hx => by cases hx
  | k :: l, j, ⟨h1, h2, h3, h4⟩, x, hx => by
    rcases List.mem_cons.1 hx with rfl | hx
    · exact ⟨h1, h2, h3⟩
    · have := Asc.mem h4 x hx
      exact ⟨by omega, this.2⟩

def ChSpec (d : Desk) (m j : Nat) (l : List Nat) (o : Option (List Nat)) : Prop :=
  (o = none ∧ ∀ l2, l2.length = m → Asc d j l2 → tW d (inL (l ++ l2)) = false) ∨
  (∃ l2, o = some (l ++ l2) ∧ l2.length = m ∧ Asc d j l2 ∧ tW d (inL (l ++ l2)) = true ∧ ∀ l3, l3.length = m → Asc d j l3 → tW d (inL (l ++ l3)) = true → l2 = l3 ∨ aheadN l2 l3 = true)
theorem choose_spec (d : Desk) : ∀ (m j : Nat) (l : List Nat), ChSpec d m j l (chooseV d m j l)
  | 0, j, l => by
    unfold chooseV
    split
    · rename_i h
      exact .inr ⟨[], by simp, rfl, trivial, by simpa using h, fun l3 h3 _ _ => .inl (List.length_eq_zero_iff.1 h3).symm⟩
    · rename_i h
      refine .inl ⟨rfl, fun l2 h2 _ => ?_⟩
      obtain rfl := List.length_eq_zero_iff.1 h2
      simpa using h
  | m + 1, j, l => by
    have key : ∀ (c j : Nat), d.bs.length - j = c → ChSpec d (m + 1) j l ((List.range' j c).findSome? fun k => if stampB d k = true then chooseV d m (k + 1) (l ++ [k]) else none) := by
      intro c
      induction c with
      | zero =>
        intro j hj
        refine .inl ⟨rfl, fun l2 h2 ha => ?_⟩
        cases l2 with
        | nil => simp at h2
        | cons k l2 => have := ha.1; have := ha.2.1; omega
      | succ c ih =>
        intro j hj
        have hrest := ih (j + 1) (by omega)
        rw [List.range'_succ, List.findSome?_cons]
        have hskip : (∀ l2, l2.length = m → Asc d (j + 1) l2 → stampB d j = true → tW d (inL (l ++ j :: l2)) = false) → ChSpec d (m + 1) j l ((List.range' (j + 1) c).findSome? fun k => if stampB d k = true then chooseV d m (k + 1) (l ++ [k]) else none) := by
          intro hno
          rcases hrest with ⟨h1, h2⟩ | ⟨l2, h1, h2, h3, h4, h5⟩
          · refine .inl ⟨h1, fun l2 hl ha => ?_⟩
            cases l2 with
            | nil => simp at hl
            | cons k l2 =>
              obtain ⟨a1, a2, a3, a4⟩ := ha
              by_cases hk : k = j
              · subst hk; exact hno l2 (by simpa using hl) a4 a3
              · exact h2 (k :: l2) hl ⟨by omega, a2, a3, a4⟩
          · refine .inr ⟨l2, h1, h2, h3.weaken (by omega), h4, fun l3 hl ha ht => ?_⟩
            cases l3 with
            | nil => simp at hl
            | cons k l3 =>
              obtain ⟨a1, a2, a3, a4⟩ := ha
              by_cases hk : k = j
              · subst hk
                rw [hno l3 (by simpa using hl) a4 a3] at ht
                cases ht
              · exact h5 (k :: l3) hl ⟨by omega, a2, a3, a4⟩ ht
        by_cases hs : stampB d j = true
        · simp only [hs, if_true]
          rcases choose_spec d m (j + 1) (l ++ [j]) with ⟨h1, h2⟩ | ⟨l2, h1, h2, h3, h4, h5⟩
          · rw [h1]
            refine hskip fun l2 hl ha _ => ?_
            have := h2 l2 hl ha
            rwa [List.append_assoc] at this
          · rw [h1]
            rw [List.append_assoc] at h4
            refine .inr ⟨j :: l2, by simp, by simp [h2], ⟨Nat.le_refl _, by omega, hs, h3⟩, h4, fun l3 hl ha ht => ?_⟩
            cases l3 with
            | nil => simp at hl
            | cons k l3 =>
              obtain ⟨a1, a2, a3, a4⟩ := ha
              by_cases hk : j = k
              · subst hk
                have := h5 l3 (by simpa using hl) a4 (by rw [List.append_assoc]; exact ht)
                rcases this with rfl | h
                · exact .inl rfl
                · exact .inr (by simp [aheadN, h])
              · refine .inr ?_
                simp only [aheadN, if_neg hk, decide_eq_true_eq]; omega
        · simp only [hs]
          exact hskip fun l2 _ _ h => absurd h hs
    exact key _ j rfl

/-- A choice of stamps without which all can be true. -/
def Cand (d : Desk) (l : List Nat) : Prop := Asc d 0 l ∧ tW d (inL l) = true
def lessL (a b : List Nat) : Bool := decide (a.length < b.length) || (decide (a.length = b.length) && aheadN a b)
def Least (d : Desk) (o : Option (List Nat)) : Prop := (o = none ∧ ∀ l, ¬ Cand d l) ∨ ∃ l, o = some l ∧ Cand d l ∧ ∀ l', Cand d l' → l = l' ∨ lessL l l' = true
def wrongV (d : Desk) : Option (List Nat) := (List.range' 0 (d.bs.length + 1)).findSome? fun m => chooseV d m 0 []
theorem wrong_least (d : Desk) : Least d (wrongV d) := by
  have key : ∀ (c j : Nat), j + c = d.bs.length + 1 → (∀ l, Cand d l → j ≤ l.length) → Least d ((List.range' j c).findSome? fun m => chooseV d m 0 []) := by
    intro c
    induction c with
    | zero =>
      intro j hj hno
      refine .inl ⟨rfl, fun l hl => ?_⟩
      have h1 := hno l hl
      have := hl.1.len (by omega)
      omega
    | succ c ih =>
      intro j hj hno
      rw [List.range'_succ, List.findSome?_cons]
      rcases choose_spec d j 0 [] with ⟨h1, h2⟩ | ⟨l2, h1, h2, h3, h4, h5⟩
      · rw [h1]
        refine ih (j + 1) (by omega) fun l hl => ?_
        have := hno l hl
        rcases Nat.lt_or_ge j l.length with h | h
        · omega
        · have h := h2 l (by omega) hl.1
          rw [List.nil_append, hl.2] at h
          cases h
      · rw [h1]
        refine .inr ⟨l2, by simp, ⟨h3, by simpa using h4⟩, fun l' hl => ?_⟩
        have := hno l' hl
        rcases Nat.lt_or_ge j l'.length with h | h
        · exact .inr (by simp [lessL]; omega)
        · rcases h5 l' (by omega) hl.1 (by simpa using hl.2) with h6 | h6
          · exact .inl h6
          · exact .inr (by simp [lessL, h6]; omega)
  exact key _ 0 (by omega) fun _ _ => Nat.zero_le _

theorem ahead_irr : ∀ a : List Nat, aheadN a a = false
  | [] => rfl
  | x :: a => by simp [aheadN, ahead_irr a]
theorem ahead_asym : ∀ {a b : List Nat}, aheadN a b = true → aheadN b a = false
  | [], [], h => by cases h
  | [], _ :: _, _ => rfl
  | _ :: _, [], h => by cases h
  | x :: a, y :: b, h => by
    simp only [aheadN] at h ⊢
    split at h
    · rename_i e; rw [if_pos e.symm]; exact ahead_asym h
    · rename_i e
      rw [if_neg (fun e' => e e'.symm)]
      simp at h ⊢; omega
theorem ahead_trans : ∀ {a b c : List Nat}, aheadN a b = true → aheadN b c = true → aheadN a c = true
  | [], [], _, h, _ => by cases h
  | [], _ :: _, [], _, h => by cases h
  | [], _ :: _, _ :: _, _, _ => rfl
  | _ :: _, [], _, h, _ => by cases h
  | _ :: _, _ :: _, [], _, h => by cases h
  | x :: a, y :: b, z :: c, h, h' => by
    simp only [aheadN] at h h' ⊢
    split at h
    · rename_i e
      subst e
      split at h'
      · rename_i e; rw [if_pos e]; exact ahead_trans h h'
      · rename_i e; rw [if_neg e]; exact h'
    · rename_i e
      split at h'
      · rename_i e2; subst e2; rw [if_neg e]; exact h
      · rename_i e2
        simp at h h'
        rw [if_neg (by omega)]
        simp; omega
theorem ahead_total : ∀ (a b : List Nat), a.length = b.length → aheadN a b = true ∨ a = b ∨ aheadN b a = true
  | [], [], _ => .inr (.inl rfl)
  | x :: a, y :: b, h => by
    simp only [aheadN]
    by_cases e : x = y
    · subst e
      rw [if_pos rfl, if_pos rfl]
      rcases ahead_total a b (by simpa using h) with h | h | h
      · exact .inl h
      · exact .inr (.inl (by rw [h]))
      · exact .inr (.inr h)
    · rw [if_neg e, if_neg fun e' => e e'.symm]
      simp only [decide_eq_true_eq]
      omega
theorem less_iff {a b : List Nat} : lessL a b = true ↔ a.length < b.length ∨ (a.length = b.length ∧ aheadN a b = true) := by
  simp [lessL]
theorem less_asym {a b : List Nat} (h : lessL a b = true) : lessL b a = false := by
  rw [less_iff] at h
  rw [← Bool.not_eq_true, less_iff]
  rintro h'
  rcases h with h | ⟨h1, h2⟩
  · omega
  · rcases h' with h' | ⟨_, h'⟩
    · omega
    · rw [ahead_asym h2] at h'; cases h'
theorem less_trans {a b c : List Nat} (h : lessL a b = true) (h' : lessL b c = true) : lessL a c = true := by
  rw [less_iff] at *
  rcases h with h | ⟨h1, h2⟩
  · rcases h' with h' | ⟨h3, h4⟩
    · exact .inl (by omega)
    · exact .inl (by omega)
  · rcases h' with h' | ⟨h3, h4⟩
    · exact .inl (by omega)
    · exact .inr ⟨by omega, ahead_trans h2 h4⟩
theorem less_total (a b : List Nat) : lessL a b = true ∨ a = b ∨ lessL b a = true := by
  rcases Nat.lt_trichotomy a.length b.length with h | h | h
  · exact .inl (less_iff.2 (.inl h))
  · rcases ahead_total a b h with h1 | h1 | h1
    · exact .inl (less_iff.2 (.inr ⟨h, h1⟩))
    · exact .inr (.inl h1)
    · exact .inr (.inr (less_iff.2 (.inr ⟨h.symm, h1⟩)))
  · exact .inr (.inr (less_iff.2 (.inl h)))
theorem least_one {d : Desk} {o o' : Option (List Nat)} (h : Least d o) (h' : Least d o') : o = o' := by
  rcases h with ⟨rfl, h⟩ | ⟨l, rfl, h1, h2⟩
  · rcases h' with ⟨rfl, _⟩ | ⟨l', rfl, h3, _⟩
    · rfl
    · exact absurd h3 (h l')
  · rcases h' with ⟨rfl, h⟩ | ⟨l', rfl, h3, h4⟩
    · exact absurd h1 (h l)
    · rcases h2 l' h3 with rfl | h5
      · rfl
      · rcases h4 l h1 with rfl | h6
        · rfl
        · rw [less_asym h5] at h6; cases h6
end Go.Ab.Cl

namespace Go.Ab.Cl
open Go.Ab

theorem Tween_ev {G : Nat → List AV} {n : Nat} (hn : 1 ≤ n) (a b c : Int) : (evKR Bk G fsT n).1 0 38 [.int .i64 a, .int .i64 b, .int .i64 c] [] ansK = some (.bool (within a b c), []) := by
  refine call_open (show fsT.find 38 = some a38 from rfl) (by omega) fun n B cl rd hn' hB hcl hrd => ?_
  conv => lhs; whnf
  repeat' ((first | refine le_split hB (fun _ => ?_) (fun _ => ?_) | refine purs_step hB rfl ?_ | refine lt_tt hB (by decide) ?_ | refine lt_ff hB (by decide) ?_ | refine le_tt hB (by decide) ?_ | refine le_ff hB (by decide) ?_ | refine eq_tt hB (by decide) ?_ | refine eq_ff hB (by decide) ?_ | refine fint_wrp hB (by omega) (by omega) ?_ | refine fint_step hB ?_ | refine fbool_tt hB ?_ | refine fbool_ff hB ?_ | refine fbool_split hB (fun _ => ?_) (fun _ => ?_) | refine ftok_step hB ?_ | refine frows_step hB ?_ | refine fstr_step hB ?_ | refine len_map hB ?_ | refine len_step hB ?_ | refine lens_step hB ?_ | refine byte_step hB ?_ | refine drop_step hB rfl ?_ | refine fl_step hB rfl ?_ | refine add_one hB (by first | omega | decide) ?_ | refine opt_step hB rfl ?_ | refine fnat_step hB ?_ | refine ifk_step hB rfl ?_ | refine ifk_step hB (flat_or rfl) ?_ | refine opt2_step hB rfl ?_ | refine obj_raw hB ?_ | refine sob_raw hB ?_ | refine fst_raw hB ?_ | refine optl_raw hB ?_ | refine tok_step hB rfl ?_) <;> conv => lhs; whnf)
  all_goals simp_all [within] <;> omega
theorem Proper_ev {G : Nat → List AV} {n : Nat} (hn : 1 ≤ n) (a b c d : Int) : (evKR Bk G fsT n).1 0 60 [.agg [.int .i64 a, .int .i64 b], .int .i64 c, .int .i64 d] [] ansK = some (.bool (isSpan a b c d), []) := by
  refine call_open (show fsT.find 60 = some a60 from rfl) (by omega) fun n B cl rd hn' hB hcl hrd => ?_
  conv => lhs; whnf
  repeat' ((first | refine le_split hB (fun _ => ?_) (fun _ => ?_) | refine purs_step hB rfl ?_ | refine lt_tt hB (by decide) ?_ | refine lt_ff hB (by decide) ?_ | refine le_tt hB (by decide) ?_ | refine le_ff hB (by decide) ?_ | refine eq_tt hB (by decide) ?_ | refine eq_ff hB (by decide) ?_ | refine fint_wrp hB (by omega) (by omega) ?_ | refine fint_step hB ?_ | refine fbool_tt hB ?_ | refine fbool_ff hB ?_ | refine fbool_split hB (fun _ => ?_) (fun _ => ?_) | refine ftok_step hB ?_ | refine frows_step hB ?_ | refine fstr_step hB ?_ | refine len_map hB ?_ | refine len_step hB ?_ | refine lens_step hB ?_ | refine byte_step hB ?_ | refine drop_step hB rfl ?_ | refine fl_step hB rfl ?_ | refine add_one hB (by first | omega | decide) ?_ | refine opt_step hB rfl ?_ | refine fnat_step hB ?_ | refine ifk_step hB rfl ?_ | refine ifk_step hB (flat_or rfl) ?_ | refine opt2_step hB rfl ?_ | refine obj_raw hB ?_ | refine sob_raw hB ?_ | refine fst_raw hB ?_ | refine optl_raw hB ?_ | refine tok_step hB rfl ?_) <;> conv => lhs; whnf)
  all_goals simp_all [isSpan] <;> omega

theorem a35_L1_step {G : Nat → List AV} {B : Bnd} (hB : B = Bk) {cl : CallK} {rd : RoundK} (H38 : ∀ a b c : Int, cl 0 38 [.int .i64 a, .int .i64 b, .int .i64 c] [] ansK = some (.bool (within a b c), [])) (d : Desk) (hd : d.ok) (hp : ∀ p ∈ d.ps, okParcel p = true) (n : Nat) (k : Ex → Env → St → Ans) (r : Ans) :
    ∀ (j i : Nat), d.ps.length < i + j → i ≤ d.ps.length →
    (k (.exit 0) [(1, .ptr 0 0 0), (3, .bool true), (4, .int .i64 (.ofNat d.ps.length))] [⟨[.cells d.c], []⟩] = r) →
    B.loop (evCK B a35_L1) [1, 3, 4] n j cl rd G 0 1 [(1, .ptr 0 0 0), (3, .bool true), (4, .int .i64 (.ofNat i))] [⟨[.cells d.c], []⟩] k = r := by
  intro j
  induction j with
  | zero => intro i h1 h2; omega
  | succ j ih =>
    intro i h1 h2 k1
    have h3 := hd.ps
    refine loop_succ hB ?_
    conv => lhs; whnf
    repeat' ((first | refine purs_step hB rfl ?_ | refine lt_tt hB (by decide) ?_ | refine lt_ff hB (by decide) ?_ | refine le_tt hB (by decide) ?_ | refine le_ff hB (by decide) ?_ | refine eq_tt hB (by decide) ?_ | refine eq_ff hB (by decide) ?_ | refine fint_wrp hB (by omega) (by omega) ?_ | refine fint_step hB ?_ | refine fbool_tt hB ?_ | refine fbool_ff hB ?_ | refine fbool_split hB (fun _ => ?_) (fun _ => ?_) | refine ftok_step hB ?_ | refine frows_step hB ?_ | refine fstr_step hB ?_ | refine len_map hB ?_ | refine len_step hB ?_ | refine lens_step hB ?_ | refine byte_step hB ?_ | refine drop_step hB rfl ?_ | refine fl_step hB rfl ?_ | refine add_one hB (by first | omega | decide) ?_ | refine opt_step hB rfl ?_ | refine fnat_step hB ?_ | refine ifk_step hB rfl ?_ | refine ifk_step hB (flat_or rfl) ?_ | refine opt2_step hB rfl ?_ | refine obj_raw hB ?_ | refine sob_raw hB ?_ | refine fst_raw hB ?_ | refine optl_raw hB ?_ | refine tok_step hB rfl ?_) <;> conv => lhs; whnf)
    refine lt_nat hB (fun h => ?_) (fun h => ?_) <;> conv => lhs; whnf
    · have hx : (d.ps.map Parcel.c)[i]? = some (Parcel.c d.ps[i]) := by simp [h]
      have hq := hp d.ps[i] (List.getElem_mem h)
      generalize d.ps[i] = p at hx hq
      simp only [okParcel, Bool.and_eq_true] at hq
      obtain ⟨⟨⟨q1, q2⟩, q3⟩, q4⟩ := hq
      have H1 := H38 p.day 0 4000
      have H2 := H38 p.weight 0 50000
      have H3 := H38 p.mark 0 9999
      have H4 := H38 p.value 0 100000
      rw [q1] at H1
      rw [q2] at H2
      rw [q3] at H3
      rw [q4] at H4
      repeat' ((first | refine pans_step hB H1 ?_ | refine pans_step hB H2 ?_ | refine pans_step hB H3 ?_ | refine pans_step hB H4 ?_ | refine natOf_step hB (m := i) rfl ?_ | refine nth_step hB hx ?_ | refine purs_step hB rfl ?_ | refine lt_tt hB (by decide) ?_ | refine lt_ff hB (by decide) ?_ | refine le_tt hB (by decide) ?_ | refine le_ff hB (by decide) ?_ | refine eq_tt hB (by decide) ?_ | refine eq_ff hB (by decide) ?_ | refine fint_wrp hB (by omega) (by omega) ?_ | refine fint_step hB ?_ | refine fbool_tt hB ?_ | refine fbool_ff hB ?_ | refine fbool_split hB (fun _ => ?_) (fun _ => ?_) | refine ftok_step hB ?_ | refine frows_step hB ?_ | refine fstr_step hB ?_ | refine len_map hB ?_ | refine len_step hB ?_ | refine lens_step hB ?_ | refine byte_step hB ?_ | refine drop_step hB rfl ?_ | refine fl_step hB rfl ?_ | refine add_one hB (by first | omega | decide) ?_ | refine opt_step hB rfl ?_ | refine fnat_step hB ?_ | refine ifk_step hB rfl ?_ | refine ifk_step hB (flat_or rfl) ?_ | refine opt2_step hB rfl ?_ | refine obj_raw hB ?_ | refine sob_raw hB ?_ | refine fst_raw hB ?_ | refine optl_raw hB ?_ | refine tok_step hB rfl ?_) <;> conv => lhs; whnf)
      (repeat' ((refine ifk_step hB rfl ?_) <;> conv => lhs; whnf))
      exact ih (i + 1) (by omega) (by omega) k1
    · have : i = d.ps.length := by omega
      subst this
      (repeat' ((refine ifk_step hB rfl ?_) <;> conv => lhs; whnf))
      exact k1

theorem a35_L2_step {G : Nat → List AV} {B : Bnd} (hB : B = Bk) {cl : CallK} {rd : RoundK} (H38 : ∀ a b c : Int, cl 0 38 [.int .i64 a, .int .i64 b, .int .i64 c] [] ansK = some (.bool (within a b c), []))
    (H60 : ∀ a b c d : Int, cl 0 60 [.agg [.int .i64 a, .int .i64 b], .int .i64 c, .int .i64 d] [] ansK = some (.bool (isSpan a b c d), [])) (d : Desk) (hd : d.ok) (hp : ∀ b ∈ d.bs, okBox b = true) (n : Nat) (k : Ex → Env → St → Ans) (r : Ans) :
    ∀ (j i : Nat), d.bs.length < i + j → i ≤ d.bs.length →
    (k (.exit 2) [(1, .ptr 0 0 0), (3, .bool true), (6, .int .i64 (.ofNat d.bs.length))] [⟨[.cells d.c], []⟩] = r) →
    B.loop (evCK B a35_L2) [1, 3, 6] n j cl rd G 0 1 [(1, .ptr 0 0 0), (3, .bool true), (6, .int .i64 (.ofNat i))] [⟨[.cells d.c], []⟩] k = r := by
  intro j
  induction j with
  | zero => intro i h1 h2; omega
  | succ j ih =>
    intro i h1 h2 k1
    have h3 := hd.bs
    refine loop_succ hB ?_
    conv => lhs; whnf
    repeat' ((first | refine purs_step hB rfl ?_ | refine lt_tt hB (by decide) ?_ | refine lt_ff hB (by decide) ?_ | refine le_tt hB (by decide) ?_ | refine le_ff hB (by decide) ?_ | refine eq_tt hB (by decide) ?_ | refine eq_ff hB (by decide) ?_ | refine fint_wrp hB (by omega) (by omega) ?_ | refine fint_step hB ?_ | refine fbool_tt hB ?_ | refine fbool_ff hB ?_ | refine fbool_split hB (fun _ => ?_) (fun _ => ?_) | refine ftok_step hB ?_ | refine frows_step hB ?_ | refine fstr_step hB ?_ | refine len_map hB ?_ | refine len_step hB ?_ | refine lens_step hB ?_ | refine byte_step hB ?_ | refine drop_step hB rfl ?_ | refine fl_step hB rfl ?_ | refine add_one hB (by first | omega | decide) ?_ | refine opt_step hB rfl ?_ | refine fnat_step hB ?_ | refine ifk_step hB rfl ?_ | refine ifk_step hB (flat_or rfl) ?_ | refine opt2_step hB rfl ?_ | refine obj_raw hB ?_ | refine sob_raw hB ?_ | refine fst_raw hB ?_ | refine optl_raw hB ?_ | refine tok_step hB rfl ?_) <;> conv => lhs; whnf)
    refine lt_nat hB (fun h => ?_) (fun h => ?_) <;> conv => lhs; whnf
    · have hx : (d.bs.map Box.c)[i]? = some (Box.c d.bs[i]) := by simp [h]
      have hq := hp d.bs[i] (List.getElem_mem h)
      generalize d.bs[i] = b at hx hq
      simp only [okBox, Bool.and_eq_true] at hq
      obtain ⟨⟨q1, q2⟩, q3⟩ := hq
      have H1 := H38 b.day 0 4000
      have H2 := H60 b.low b.high 0 50000
      rw [q1] at H1
      rw [q2] at H2
      have q4 : b.mark.length = 0 ∨ b.mark.length = 4 := by
        simp only [okSeal, Bool.and_eq_true, Bool.or_eq_true, beq_iff_eq, List.isEmpty_iff] at q3
        rcases q3.1 with h | h
        · left; simp [h]
        · right; exact h
      repeat' ((first | refine pans_step hB H1 ?_ | refine pans_step hB H2 ?_ | refine natOf_step hB (m := i) rfl ?_ | refine nth_step hB hx ?_ | refine eq_split hB (fun _ => ?_) (fun _ => ?_) | refine purs_step hB rfl ?_ | refine lt_tt hB (by decide) ?_ | refine lt_ff hB (by decide) ?_ | refine le_tt hB (by decide) ?_ | refine le_ff hB (by decide) ?_ | refine eq_tt hB (by decide) ?_ | refine eq_ff hB (by decide) ?_ | refine fint_wrp hB (by omega) (by omega) ?_ | refine fint_step hB ?_ | refine fbool_tt hB ?_ | refine fbool_ff hB ?_ | refine fbool_split hB (fun _ => ?_) (fun _ => ?_) | refine ftok_step hB ?_ | refine frows_step hB ?_ | refine fstr_step hB ?_ | refine len_map hB ?_ | refine len_step hB ?_ | refine lens_step hB ?_ | refine byte_step hB ?_ | refine drop_step hB rfl ?_ | refine fl_step hB rfl ?_ | refine add_one hB (by first | omega | decide) ?_ | refine opt_step hB rfl ?_ | refine fnat_step hB ?_ | refine ifk_step hB rfl ?_ | refine ifk_step hB (flat_or rfl) ?_ | refine opt2_step hB rfl ?_ | refine obj_raw hB ?_ | refine sob_raw hB ?_ | refine fst_raw hB ?_ | refine optl_raw hB ?_ | refine tok_step hB rfl ?_) <;> conv => lhs; whnf)
      · (repeat' ((refine ifk_step hB rfl ?_) <;> conv => lhs; whnf))
        exact ih (i + 1) (by omega) (by omega) k1
      · (repeat' ((refine ifk_step hB rfl ?_) <;> conv => lhs; whnf))
        exact ih (i + 1) (by omega) (by omega) k1
      · simp only [Int.ofNat_eq_natCast] at *
        omega
    · have : i = d.bs.length := by omega
      subst this
      (repeat' ((refine ifk_step hB rfl ?_) <;> conv => lhs; whnf))
      exact k1

theorem sound_ev {G : Nat → List AV} {n : Nat} (d : Desk) (hd : d.ok) (hn : 1000000000000006 ≤ n) : (evKR Bk G fsT n).1 0 35 [d.v] [] ansK = some (.bool d.check, []) := by
  refine call_open (show fsT.find 35 = some a35 from rfl) (by omega) fun n B cl rd hn' hB hcl hrd => ?_
  have HC := Check_ev (G := G) (n := n) d hd (by omega)
  have H38 := fun a b c => Tween_ev (G := G) (n := n) (by omega) a b c
  have H60 := fun a b c e => Proper_ev (G := G) (n := n) (by omega) a b c e
  rw [← hcl] at HC H38 H60
  cases hck : d.check with
  | false =>
    rw [hck] at HC
    conv => lhs; whnf
    repeat' ((first | refine tok_step hB hd.tp ?_ | refine tok_step hB hd.tb ?_ | refine purs_step hB (by simp [purs, pur, hd.tp, hd.tb]) ?_ | refine pans_step hB HC ?_ | refine loop_step hB (by omega) ?_ | refine purs_step hB rfl ?_ | refine lt_tt hB (by decide) ?_ | refine lt_ff hB (by decide) ?_ | refine le_tt hB (by decide) ?_ | refine le_ff hB (by decide) ?_ | refine eq_tt hB (by decide) ?_ | refine eq_ff hB (by decide) ?_ | refine fint_wrp hB (by omega) (by omega) ?_ | refine fint_step hB ?_ | refine fbool_tt hB ?_ | refine fbool_ff hB ?_ | refine fbool_split hB (fun _ => ?_) (fun _ => ?_) | refine ftok_step hB ?_ | refine frows_step hB ?_ | refine fstr_step hB ?_ | refine len_map hB ?_ | refine len_step hB ?_ | refine lens_step hB ?_ | refine byte_step hB ?_ | refine drop_step hB rfl ?_ | refine fl_step hB rfl ?_ | refine add_one hB (by first | omega | decide) ?_ | refine opt_step hB rfl ?_ | refine fnat_step hB ?_ | refine ifk_step hB rfl ?_ | refine ifk_step hB (flat_or rfl) ?_ | refine opt2_step hB rfl ?_ | refine obj_raw hB ?_ | refine sob_raw hB ?_ | refine fst_raw hB ?_ | refine optl_raw hB ?_ | refine tok_step hB rfl ?_) <;> conv => lhs; whnf)
  | true =>
    rw [hck] at HC
    have hf := hck
    simp only [Desk.check, Bool.and_eq_true, decide_eq_true_eq, List.all_eq_true] at hf
    obtain ⟨⟨⟨⟨⟨⟨g1, g2⟩, g3⟩, g4⟩, g5⟩, g6⟩, g7⟩ := hf
    have H1 := H60 d.lo d.hi 0 400
    have H2 := H38 d.wear 0 5000
    have H3 := H38 d.strange 0 6
    rw [g1] at H1
    rw [g2] at H2
    rw [g3] at H3
    conv => lhs; whnf
    repeat' ((first | refine tok_step hB hd.tp ?_ | refine tok_step hB hd.tb ?_ | refine purs_step hB (by simp [purs, pur, hd.tp, hd.tb]) ?_ | refine pans_step hB HC ?_ | refine pans_step hB H1 ?_ | refine pans_step hB H2 ?_ | refine pans_step hB H3 ?_ | refine le_tt hB (by simp only [Int.ofNat_eq_natCast]; omega) ?_ | refine a35_L1_step hB H38 d hd g6 _ _ _ _ 0 (by omega) (by omega) ?_ | refine a35_L2_step hB H38 H60 d hd g7 _ _ _ _ 0 (by omega) (by omega) ?_ | refine purs_step hB rfl ?_ | refine lt_tt hB (by decide) ?_ | refine lt_ff hB (by decide) ?_ | refine le_tt hB (by decide) ?_ | refine le_ff hB (by decide) ?_ | refine eq_tt hB (by decide) ?_ | refine eq_ff hB (by decide) ?_ | refine fint_wrp hB (by omega) (by omega) ?_ | refine fint_step hB ?_ | refine fbool_tt hB ?_ | refine fbool_ff hB ?_ | refine fbool_split hB (fun _ => ?_) (fun _ => ?_) | refine ftok_step hB ?_ | refine frows_step hB ?_ | refine fstr_step hB ?_ | refine len_map hB ?_ | refine len_step hB ?_ | refine lens_step hB ?_ | refine byte_step hB ?_ | refine drop_step hB rfl ?_ | refine fl_step hB rfl ?_ | refine add_one hB (by first | omega | decide) ?_ | refine opt_step hB rfl ?_ | refine fnat_step hB ?_ | refine ifk_step hB rfl ?_ | refine ifk_step hB (flat_or rfl) ?_ | refine opt2_step hB rfl ?_ | refine obj_raw hB ?_ | refine sob_raw hB ?_ | refine fst_raw hB ?_ | refine optl_raw hB ?_ | refine tok_step hB rfl ?_) <;> conv => lhs; whnf)
end Go.Ab.Cl

namespace Go.Ab.Cl
open Go.Ab

theorem rem_i64 {a b : Int} (h : b ≠ 0) : binAV .rem (.int .i64 a) (.int .i64 b) = some (.int .i64 (a.tmod b)) := by simp [binAV, intBin, h]
theorem quo_i64 {a b : Int} (h : b ≠ 0) (h1 : -9223372036854775808 ≤ a.tdiv b) (h2 : a.tdiv b ≤ 9223372036854775807) : binAV .quo (.int .i64 a) (.int .i64 b) = some (.int .i64 (a.tdiv b)) := by simp [binAV, intBin, h, wrp_i64 h1 h2]

def spin (n many : Int) : Int := if many < 1 then 0 else if n.tmod many < 0 then n.tmod many + many else n.tmod many
theorem tmod_lt {n many : Int} (h : 1 ≤ many) : -many < n.tmod many ∧ n.tmod many < many := by
  constructor
  · have := Int.lt_tmod_of_pos n (show 0 < many by omega); omega
  · exact Int.tmod_lt_of_pos n (by omega)
theorem spin_in {n many : Int} (h : 1 ≤ many) : 0 ≤ spin n many ∧ spin n many < many := by
  have := tmod_lt (n := n) h
  unfold spin
  rw [if_neg (by omega)]
  split <;> omega

theorem Spin_ev {G : Nat → List AV} {n : Nat} (hn : 1 ≤ n) (a b : Int) (hb : b ≤ 9000000000000000000) : (evKR Bk G fsT n).1 0 42 [.int .i64 a, .int .i64 b] [] ansK = some (.int .i64 (spin a b), []) := by
  refine call_open (show fsT.find 42 = some a42 from rfl) (by omega) fun n B cl rd hn' hB hcl hrd => ?_
  conv => lhs; whnf
  refine lt_split hB (fun h => ?_) (fun h => ?_) <;> conv => lhs; whnf
  · have : spin a b = 0 := by unfold spin; rw [if_pos h]
    rw [this]
  · have ht := tmod_lt (n := a) (many := b) (by omega)
    repeat' ((first | refine opt_step hB (rem_i64 (by omega)) ?_ | refine lt_split hB (fun h => ?_) (fun h => ?_) | refine add_step hB (by omega) (by omega) ?_ | refine purs_step hB rfl ?_ | refine lt_tt hB (by decide) ?_ | refine lt_ff hB (by decide) ?_ | refine le_tt hB (by decide) ?_ | refine le_ff hB (by decide) ?_ | refine eq_tt hB (by decide) ?_ | refine eq_ff hB (by decide) ?_ | refine fint_wrp hB (by omega) (by omega) ?_ | refine fint_step hB ?_ | refine fbool_tt hB ?_ | refine fbool_ff hB ?_ | refine fbool_split hB (fun _ => ?_) (fun _ => ?_) | refine ftok_step hB ?_ | refine frows_step hB ?_ | refine fstr_step hB ?_ | refine len_map hB ?_ | refine len_step hB ?_ | refine lens_step hB ?_ | refine byte_step hB ?_ | refine drop_step hB rfl ?_ | refine fl_step hB rfl ?_ | refine add_one hB (by first | omega | decide) ?_ | refine opt_step hB rfl ?_ | refine fnat_step hB ?_ | refine ifk_step hB rfl ?_ | refine ifk_step hB (flat_or rfl) ?_ | refine opt2_step hB rfl ?_ | refine obj_raw hB ?_ | refine sob_raw hB ?_ | refine fst_raw hB ?_ | refine optl_raw hB ?_ | refine tok_step hB rfl ?_) <;> conv => lhs; whnf)
    all_goals
      refine congrArg some (congrArg (·, []) (congrArg (AV.int .i64) ?_))
      unfold spin
      rw [if_neg (by omega)]
      simp_all
    all_goals (intros; omega)

theorem Bare_ev {G : Nat → List AV} {n : Nat} (hn : 1 ≤ n) (a : Int) (ha : 0 ≤ a) : (evKR Bk G fsT n).1 0 89 [.int .i64 a] [] ansK = some (.int .i64 a, []) := by
  refine call_open (show fsT.find 89 = some a89 from rfl) (by omega) fun n B cl rd hn' hB hcl hrd => ?_
  conv => lhs; whnf
  repeat' ((first | refine lt_ff hB (by omega) ?_ | refine purs_step hB rfl ?_ | refine lt_tt hB (by decide) ?_ | refine lt_ff hB (by decide) ?_ | refine le_tt hB (by decide) ?_ | refine le_ff hB (by decide) ?_ | refine eq_tt hB (by decide) ?_ | refine eq_ff hB (by decide) ?_ | refine fint_wrp hB (by omega) (by omega) ?_ | refine fint_step hB ?_ | refine fbool_tt hB ?_ | refine fbool_ff hB ?_ | refine fbool_split hB (fun _ => ?_) (fun _ => ?_) | refine ftok_step hB ?_ | refine frows_step hB ?_ | refine fstr_step hB ?_ | refine len_map hB ?_ | refine len_step hB ?_ | refine lens_step hB ?_ | refine byte_step hB ?_ | refine drop_step hB rfl ?_ | refine fl_step hB rfl ?_ | refine add_one hB (by first | omega | decide) ?_ | refine opt_step hB rfl ?_ | refine fnat_step hB ?_ | refine ifk_step hB rfl ?_ | refine ifk_step hB (flat_or rfl) ?_ | refine opt2_step hB rfl ?_ | refine obj_raw hB ?_ | refine sob_raw hB ?_ | refine fst_raw hB ?_ | refine optl_raw hB ?_ | refine tok_step hB rfl ?_) <;> conv => lhs; whnf)

/-- A number's digits, j of them at most. -/
def digits : Nat → Nat → List UInt8
  | 0, _ => []
  | j + 1, n => if n < 10 then [(48 + n).toUInt8] else digits j (n / 10) ++ [(48 + n % 10).toUInt8]

theorem digits_len : ∀ (j n : Nat), (digits j n).length ≤ j
  | 0, _ => by simp [digits]
  | j + 1, n => by
    unfold digits
    split
    · simp
    · have := digits_len j (n / 10); simp; omega
theorem str_add {a b : List UInt8} (h : a.length + b.length ≤ 9223372036854775807) : binAV .add (.str a) (.str b) = some (.str (a ++ b)) := by simp [binAV, strBin, h]

theorem rune_ok {r : Nat} (h : r < 10) : cvtAV .rune (.int .i32 (wrp .i32 (48 + (r : Int)))) = some (.str [(48 + r).toUInt8]) := by
  match r, h with
  | 0, _ => rfl
  | 1, _ => rfl
  | 2, _ => rfl
  | 3, _ => rfl
  | 4, _ => rfl
  | 5, _ => rfl
  | 6, _ => rfl
  | 7, _ => rfl
  | 8, _ => rfl
  | 9, _ => rfl

theorem Write_ev {G : Nat → List AV} : ∀ (j : Nat) {n : Nat} (m : Nat) {z : Int}, z = (m : Int) → 0 < j → m < 10 ^ j → j ≤ 18 → j + 2 ≤ n → (evKR Bk G fsT n).1 0 82 [.int .i64 z] [] ansK = some (.str (digits j m), []) := by
  intro j
  induction j with
  | zero => intro n m z hz h; omega
  | succ j ih =>
    intro n m z hz _ hm hj hn
    have hm2 : m < 10 ^ 18 := Nat.lt_of_lt_of_le hm (Nat.pow_le_pow_right (by omega) hj)
    refine call_open (show fsT.find 82 = some a82 from rfl) (by omega) fun n B cl rd hn' hB hcl hrd => ?_
    have ht : z.tmod 10 = ((m % 10 : Nat) : Int) := by subst hz; rfl
    have HB := Bare_ev (G := G) (n := n) (by omega) (z.tmod 10) (by rw [ht]; omega)
    rw [← hcl] at HB
    have hr : cvtAV .rune (.int .i32 (wrp .i32 (48 + z.tmod 10))) = some (.str [(48 + m % 10).toUInt8]) := by rw [ht]; exact rune_ok (by omega)
    have hrem : binAV .rem (.int .i64 z) (.int .i64 10) = some (.int .i64 (z.tmod 10)) := rem_i64 (by decide)
    have hq : z.tdiv 10 = ((m / 10 : Nat) : Int) := by subst hz; rfl
    have hquo : binAV .quo (.int .i64 z) (.int .i64 10) = some (.int .i64 (z.tdiv 10)) := quo_i64 (by decide) (by rw [hq]; omega) (by rw [hq]; omega)
    have hb0 : 0 ≤ z.tmod 10 := by rw [ht]; omega
    have hb9 : z.tmod 10 ≤ 9 := by rw [ht]; omega
    have hl := digits_len j (m / 10)
    by_cases h10 : m < 10
    · conv => lhs; whnf
      repeat' ((first | refine opt_step hB hrem ?_ | refine opt_step hB hr ?_ | refine pans_step hB HB ?_ | refine add_step hB (by omega) (by omega) ?_ | refine lt_tt hB (by omega) ?_ | refine lt_ff hB (by omega) ?_ | refine le_tt hB (by omega) ?_ | refine purs_step hB rfl ?_ | refine lt_tt hB (by decide) ?_ | refine lt_ff hB (by decide) ?_ | refine le_tt hB (by decide) ?_ | refine le_ff hB (by decide) ?_ | refine eq_tt hB (by decide) ?_ | refine eq_ff hB (by decide) ?_ | refine fint_wrp hB (by omega) (by omega) ?_ | refine fint_step hB ?_ | refine fbool_tt hB ?_ | refine fbool_ff hB ?_ | refine fbool_split hB (fun _ => ?_) (fun _ => ?_) | refine ftok_step hB ?_ | refine frows_step hB ?_ | refine fstr_step hB ?_ | refine len_map hB ?_ | refine len_step hB ?_ | refine lens_step hB ?_ | refine byte_step hB ?_ | refine drop_step hB rfl ?_ | refine fl_step hB rfl ?_ | refine add_one hB (by first | omega | decide) ?_ | refine opt_step hB rfl ?_ | refine fnat_step hB ?_ | refine ifk_step hB rfl ?_ | refine ifk_step hB (flat_or rfl) ?_ | refine opt2_step hB rfl ?_ | refine obj_raw hB ?_ | refine sob_raw hB ?_ | refine fst_raw hB ?_ | refine optl_raw hB ?_ | refine tok_step hB rfl ?_) <;> conv => lhs; whnf)
      have : digits (j + 1) m = [(48 + m % 10).toUInt8] := by unfold digits; rw [if_pos h10, Nat.mod_eq_of_lt h10]
      rw [this]
    · have hj0 : 0 < j := by
        rcases Nat.eq_zero_or_pos j with h | h
        · subst h; simp at hm; omega
        · exact h
      have hm10 : m / 10 < 10 ^ j := by rw [Nat.div_lt_iff_lt_mul (by omega)]; rw [Nat.pow_succ] at hm; omega
      have H82 := ih (n := n) (m / 10) hq hj0 hm10 (by omega) (by omega)
      rw [← hcl] at H82
      conv => lhs; whnf
      repeat' ((first | refine opt_step hB hrem ?_ | refine opt_step hB hr ?_ | refine opt_step hB hquo ?_ | refine opt_step hB (str_add (by simp; omega)) ?_ | refine pans_step hB HB ?_ | refine pans_step hB H82 ?_ | refine add_step hB (by omega) (by omega) ?_ | refine lt_tt hB (by omega) ?_ | refine lt_ff hB (by omega) ?_ | refine le_tt hB (by omega) ?_ | refine purs_step hB rfl ?_ | refine lt_tt hB (by decide) ?_ | refine lt_ff hB (by decide) ?_ | refine le_tt hB (by decide) ?_ | refine le_ff hB (by decide) ?_ | refine eq_tt hB (by decide) ?_ | refine eq_ff hB (by decide) ?_ | refine fint_wrp hB (by omega) (by omega) ?_ | refine fint_step hB ?_ | refine fbool_tt hB ?_ | refine fbool_ff hB ?_ | refine fbool_split hB (fun _ => ?_) (fun _ => ?_) | refine ftok_step hB ?_ | refine frows_step hB ?_ | refine fstr_step hB ?_ | refine len_map hB ?_ | refine len_step hB ?_ | refine lens_step hB ?_ | refine byte_step hB ?_ | refine drop_step hB rfl ?_ | refine fl_step hB rfl ?_ | refine add_one hB (by first | omega | decide) ?_ | refine opt_step hB rfl ?_ | refine fnat_step hB ?_ | refine ifk_step hB rfl ?_ | refine ifk_step hB (flat_or rfl) ?_ | refine opt2_step hB rfl ?_ | refine obj_raw hB ?_ | refine sob_raw hB ?_ | refine fst_raw hB ?_ | refine optl_raw hB ?_ | refine tok_step hB rfl ?_) <;> conv => lhs; whnf)
      have : digits (j + 1) m = digits j (m / 10) ++ [(48 + m % 10).toUInt8] := by rw [digits, if_neg h10]
      rw [this]
end Go.Ab.Cl

namespace Go.Ab.Cl
open Go.Ab

theorem a46_L1_step {G : Nat → List AV} {B : Bnd} (hB : B = Bk) {cl : CallK} {rd : RoundK} (n : Nat) (s : St) (k : Ex → Env → St → Ans) (r : Ans) :
    ∀ (j : Nat) (t : List UInt8), 6 < t.length + j → t.length ≤ 5 → 2 ≤ j →
    (k (.exit 0) [(3, .str (List.replicate (4 - t.length) 48 ++ t))] s = r) →
    B.loop (evCK B a46_L1) [3] n j cl rd G 0 1 [(3, .str t)] s k = r := by
  intro j
  induction j with
  | zero =>
    intro t h1 h2 h3
    omega
  | succ j ih =>
    intro t h1 h2 h3 k1
    refine loop_succ hB ?_
    conv => lhs; whnf
    refine lens_step hB ?_
    conv => lhs; whnf
    refine lt_split hB (fun h => ?_) (fun h => ?_) <;> conv => lhs; whnf
    · have h' : t.length < 4 := by simp only [Int.ofNat_eq_natCast] at h; omega
      have ha : binAV .add (.str [48]) (.str t) = some (.str (48 :: t)) := str_add (by simp; omega)
      repeat' ((first | refine opt_step hB ha ?_ | refine purs_step hB rfl ?_ | refine lt_tt hB (by decide) ?_ | refine lt_ff hB (by decide) ?_ | refine le_tt hB (by decide) ?_ | refine le_ff hB (by decide) ?_ | refine eq_tt hB (by decide) ?_ | refine eq_ff hB (by decide) ?_ | refine fint_wrp hB (by omega) (by omega) ?_ | refine fint_step hB ?_ | refine fbool_tt hB ?_ | refine fbool_ff hB ?_ | refine fbool_split hB (fun _ => ?_) (fun _ => ?_) | refine ftok_step hB ?_ | refine frows_step hB ?_ | refine fstr_step hB ?_ | refine len_map hB ?_ | refine len_step hB ?_ | refine lens_step hB ?_ | refine byte_step hB ?_ | refine drop_step hB rfl ?_ | refine fl_step hB rfl ?_ | refine add_one hB (by first | omega | decide) ?_ | refine opt_step hB rfl ?_ | refine fnat_step hB ?_ | refine ifk_step hB rfl ?_ | refine ifk_step hB (flat_or rfl) ?_ | refine opt2_step hB rfl ?_ | refine obj_raw hB ?_ | refine sob_raw hB ?_ | refine fst_raw hB ?_ | refine optl_raw hB ?_ | refine tok_step hB rfl ?_) <;> conv => lhs; whnf)
      refine ih (48 :: t) (by simp; omega) (by simp; omega) (by omega) ?_
      have e : List.replicate (4 - t.length) (48 : UInt8) ++ t = List.replicate (4 - (48 :: t).length) 48 ++ (48 :: t) := by
        have : 4 - t.length = (4 - (48 :: t).length) + 1 := by simp; omega
        rw [this, List.replicate_succ']
        simp
      rw [← e]
      (repeat' ((refine ifk_step hB rfl ?_) <;> conv => lhs; whnf))
      exact k1
    · have h' : 4 - t.length = 0 := by simp only [Int.ofNat_eq_natCast] at h; omega
      repeat' ((first | refine purs_step hB rfl ?_ | refine lt_tt hB (by decide) ?_ | refine lt_ff hB (by decide) ?_ | refine le_tt hB (by decide) ?_ | refine le_ff hB (by decide) ?_ | refine eq_tt hB (by decide) ?_ | refine eq_ff hB (by decide) ?_ | refine fint_wrp hB (by omega) (by omega) ?_ | refine fint_step hB ?_ | refine fbool_tt hB ?_ | refine fbool_ff hB ?_ | refine fbool_split hB (fun _ => ?_) (fun _ => ?_) | refine ftok_step hB ?_ | refine frows_step hB ?_ | refine fstr_step hB ?_ | refine len_map hB ?_ | refine len_step hB ?_ | refine lens_step hB ?_ | refine byte_step hB ?_ | refine drop_step hB rfl ?_ | refine fl_step hB rfl ?_ | refine add_one hB (by first | omega | decide) ?_ | refine opt_step hB rfl ?_ | refine fnat_step hB ?_ | refine ifk_step hB rfl ?_ | refine ifk_step hB (flat_or rfl) ?_ | refine opt2_step hB rfl ?_ | refine obj_raw hB ?_ | refine sob_raw hB ?_ | refine fst_raw hB ?_ | refine optl_raw hB ?_ | refine tok_step hB rfl ?_) <;> conv => lhs; whnf)
      rw [h'] at k1
      (repeat' ((refine ifk_step hB rfl ?_) <;> conv => lhs; whnf))
      exact k1

def d4 (m : Nat) : List UInt8 := [(48 + m / 1000 % 10).toUInt8, (48 + m / 100 % 10).toUInt8, (48 + m / 10 % 10).toUInt8, (48 + m % 10).toUInt8]

theorem seal_text {m : Nat} (h : m < 10000) : List.replicate (4 - (digits 5 m).length) 48 ++ digits 5 m = d4 m := by
  unfold d4
  by_cases h1 : m < 10
  · have e : digits 5 m = [(48 + m).toUInt8] := by simp [digits, h1]
    rw [e]
    have : m / 1000 % 10 = 0 ∧ m / 100 % 10 = 0 ∧ m / 10 % 10 = 0 ∧ m % 10 = m := by omega
    rw [this.1, this.2.1, this.2.2.1, this.2.2.2]; rfl
  · by_cases h2 : m < 100
    · have e : digits 5 m = [(48 + m / 10).toUInt8, (48 + m % 10).toUInt8] := by simp [digits, h1, show m / 10 < 10 by omega]
      rw [e]
      have : m / 1000 % 10 = 0 ∧ m / 100 % 10 = 0 ∧ m / 10 % 10 = m / 10 := by omega
      rw [this.1, this.2.1, this.2.2]; rfl
    · by_cases h3 : m < 1000
      · have e : digits 5 m = [(48 + m / 10 / 10).toUInt8, (48 + m / 10 % 10).toUInt8, (48 + m % 10).toUInt8] := by simp [digits, h1, show ¬ m / 10 < 10 by omega, show m / 10 / 10 < 10 by omega]
        rw [e]
        have : m / 1000 % 10 = 0 ∧ m / 100 % 10 = m / 10 / 10 := by omega
        rw [this.1, this.2]; rfl
      · have e : digits 5 m = [(48 + m / 10 / 10 / 10).toUInt8, (48 + m / 10 / 10 % 10).toUInt8, (48 + m / 10 % 10).toUInt8, (48 + m % 10).toUInt8] := by simp [digits, h1, show ¬ m / 10 < 10 by omega, show ¬ m / 10 / 10 < 10 by omega, show m / 10 / 10 / 10 < 10 by omega]
        rw [e]
        have : m / 1000 % 10 = m / 10 / 10 / 10 ∧ m / 100 % 10 = m / 10 / 10 % 10 := by omega
        rw [this.1, this.2]; rfl

theorem sealOf_ev {G : Nat → List AV} {n : Nat} (hn : 10 ≤ n) (m : Nat) (h : m < 10000) {z : Int} (hz : z = (m : Int)) : (evKR Bk G fsT n).1 0 46 [.int .i64 z] [] ansK = some (.str (d4 m), []) := by
  refine call_open (show fsT.find 46 = some a46 from rfl) (by omega) fun n B cl rd hn' hB hcl hrd => ?_
  have H82 := Write_ev (G := G) 5 (n := n) m hz (by omega) (by omega) (by omega) (by omega)
  rw [← hcl] at H82
  have hl := digits_len 5 m
  conv => lhs; whnf
  repeat' ((first | refine pans_step hB H82 ?_ | refine a46_L1_step hB _ _ _ _ _ _ (by omega) (by omega) (by omega) ?_ | refine purs_step hB rfl ?_ | refine lt_tt hB (by decide) ?_ | refine lt_ff hB (by decide) ?_ | refine le_tt hB (by decide) ?_ | refine le_ff hB (by decide) ?_ | refine eq_tt hB (by decide) ?_ | refine eq_ff hB (by decide) ?_ | refine fint_wrp hB (by omega) (by omega) ?_ | refine fint_step hB ?_ | refine fbool_tt hB ?_ | refine fbool_ff hB ?_ | refine fbool_split hB (fun _ => ?_) (fun _ => ?_) | refine ftok_step hB ?_ | refine frows_step hB ?_ | refine fstr_step hB ?_ | refine len_map hB ?_ | refine len_step hB ?_ | refine lens_step hB ?_ | refine byte_step hB ?_ | refine drop_step hB rfl ?_ | refine fl_step hB rfl ?_ | refine add_one hB (by first | omega | decide) ?_ | refine opt_step hB rfl ?_ | refine fnat_step hB ?_ | refine ifk_step hB rfl ?_ | refine ifk_step hB (flat_or rfl) ?_ | refine opt2_step hB rfl ?_ | refine obj_raw hB ?_ | refine sob_raw hB ?_ | refine fst_raw hB ?_ | refine optl_raw hB ?_ | refine tok_step hB rfl ?_) <;> conv => lhs; whnf)
  rw [seal_text h]
end Go.Ab.Cl
