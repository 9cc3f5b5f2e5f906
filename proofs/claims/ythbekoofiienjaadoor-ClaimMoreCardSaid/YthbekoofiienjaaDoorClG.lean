/-
  The claims, plain: truths; what the best value of the boxes says of them.
-/
import Derived.Test.YthbekoofiienjaaDoorClP
import Derived.Test.YthbekoofiienjaaDoorClZ
namespace Go.Ab.Cl
open Go.Ab

def fit0 (d : Desk) (i k : Nat) : Bool := match d.bs[i]?, d.ps[k]? with
  | some b, some p => couldB d b p
  | _, _ => false
theorem fits_fit {d : Desk} {i t k : Nat} : fitsB d i t k = (!t.testBit k && fit0 d i k) := by
  unfold fitsB fit0
  cases d.bs[i]? <;> cases d.ps[k]? <;> simp
theorem fit_lt {d : Desk} {i k : Nat} (h : fit0 d i k = true) : i < d.bs.length ∧ k < d.ps.length := by
  unfold fit0 at h
  split at h
  · rename_i b p hb hp
    exact ⟨(List.getElem?_eq_some_iff.1 hb).1, (List.getElem?_eq_some_iff.1 hp).1⟩
  · cases h
theorem optsFrom_iff {d : Desk} {i t : Nat} {z : Int} : z ∈ optsFrom d i t 0 ↔ ∃ k : Nat, z = (k : Int) ∧ fitsB d i t k = true := by
  unfold optsFrom
  simp only [List.mem_map, List.mem_filter, List.mem_range']
  constructor
  · rintro ⟨k, ⟨_, h3⟩, rfl⟩; exact ⟨k, rfl, h3⟩
  · rintro ⟨k, rfl, h⟩
    have h2 := h
    rw [fits_fit, Bool.and_eq_true] at h2
    exact ⟨k, ⟨⟨k, by have := (fit_lt h2.2).2; omega, by omega⟩, h⟩, rfl⟩
theorem opts_iff {d : Desk} {i t : Nat} {z : Int} : z ∈ opts d i t ↔ (z = -1 ∧ oddB d i = true) ∨ ∃ k : Nat, z = (k : Int) ∧ fitsB d i t k = true := by
  unfold opts
  split
  · rename_i h
    rw [List.mem_cons, optsFrom_iff]
    simp [h]
  · rename_i h
    rw [optsFrom_iff]
    simp [h]

/-- What parcels are worth. -/
def val (d : Desk) : List Int → Int
  | [] => 0
  | k :: l => (if k = -1 then 0 else valueOf d k.toNat) + val d l

/-- The last m boxes, chosen one after the other. -/
def Ch (d : Desk) (g : Nat → Option Int) (i t : Nat) (st : Int) (rest : Nat → Int → List Int → Prop) (k : Int) (l : List Int) : Prop :=
  clash g i k = false ∧ if k = -1 then st + 1 ≤ d.strange ∧ rest t (st + 1) l else rest (t ||| 1 <<< k.toNat) st l
def Suf (d : Desk) (g : Nat → Option Int) : Nat → Nat → Int → List Int → Prop
  | 0, _, _, l => l = []
  | m + 1, t, st, l => ∃ k l', l = k :: l' ∧ k ∈ opts d (d.bs.length - (m + 1)) t ∧ Ch d g (d.bs.length - (m + 1)) t st (Suf d g m) k l'

/-- What it means to be the best of some values. -/
structure Better (by_ : Int → Int → Int) (R : Int → Int → Prop) : Prop where
  or : ∀ a b, by_ a b = a ∨ by_ a b = b
  l : ∀ a b, R (by_ a b) a
  r : ∀ a b, R (by_ a b) b
  refl : ∀ a, R a a
  trans : ∀ a b c, R a b → R b c → R a c
  add : ∀ a b v, R a b → R (v + a) (v + b)

def IsBest (R : Int → Int → Prop) (out : Int) (S : Int → Prop) : Prop := (out = -1 ∧ ∀ v, ¬ S v) ∨ (0 ≤ out ∧ S out ∧ ∀ v, S v → R out v)

theorem step_best {d : Desk} {by_ : Int → Int → Int} {R : Int → Int → Prop} (hb : Better by_ R) (hc : d.check = true) (g : Nat → Option Int) (i t : Nat) (st : Int) {rw_ : Nat → Int → Int} {rs : Nat → Int → List Int → Prop}
    (hr : ∀ t st, IsBest R (rw_ t st) (fun v => ∃ l, rs t st l ∧ v = val d l)) {out : Int} {S : Int → Prop} (ho : IsBest R out S) (k : Int) :
    IsBest R (stepW d by_ g i t st rw_ out k) (fun v => S v ∨ ∃ l, Ch d g i t st rs k l ∧ v = val d (k :: l)) := by
  have key : ∀ (w vk : Int) (T : Int → Prop), 0 ≤ vk → IsBest R w T → (∀ v, (∃ l, Ch d g i t st rs k l ∧ v = val d (k :: l)) ↔ ∃ u, T u ∧ v = vk + u) → IsBest R (comb by_ out w vk) (fun v => S v ∨ ∃ l, Ch d g i t st rs k l ∧ v = val d (k :: l)) := by
    intro w vk T hvk hw hT
    unfold comb
    rcases hw with ⟨hw1, hw2⟩ | ⟨hw1, hw2, hw3⟩
    · rw [if_pos hw1]
      have hno : ∀ v, ¬ ∃ l, Ch d g i t st rs k l ∧ v = val d (k :: l) := fun v h => by
        obtain ⟨u, hu, _⟩ := (hT v).1 h
        exact hw2 u hu
      rcases ho with ⟨h1, h2⟩ | ⟨h1, h2, h3⟩
      · exact .inl ⟨h1, fun v hv => hv.elim (h2 v) (hno v)⟩
      · exact .inr ⟨h1, .inl h2, fun v hv => hv.elim (h3 v) (fun h => absurd h (hno v))⟩
    · rw [if_neg (by omega)]
      have hin : ∃ l, Ch d g i t st rs k l ∧ vk + w = val d (k :: l) := (hT _).2 ⟨w, hw2, rfl⟩
      have hbd : ∀ v, (∃ l, Ch d g i t st rs k l ∧ v = val d (k :: l)) → R (vk + w) v := fun v h => by
        obtain ⟨u, hu, rfl⟩ := (hT v).1 h
        exact hb.add _ _ _ (hw3 u hu)
      rw [show w + vk = vk + w by omega]
      rcases ho with ⟨h1, h2⟩ | ⟨h1, h2, h3⟩
      · rw [if_pos h1]
        have e : by_ (vk + w) (vk + w) = vk + w := by rcases hb.or (vk + w) (vk + w) with h | h <;> exact h
        rw [e]
        exact .inr ⟨by omega, .inr hin, fun v hv => hv.elim (fun h => absurd h (h2 v)) (hbd v)⟩
      · rw [if_neg (by omega)]
        refine .inr ⟨?_, ?_, fun v hv => ?_⟩
        · rcases hb.or out (vk + w) with h | h <;> rw [h] <;> omega
        · rcases hb.or out (vk + w) with h | h <;> rw [h]
          · exact .inl h2
          · exact .inr hin
        · rcases hv with hv | hv
          · exact hb.trans _ _ _ (hb.l _ _) (h3 v hv)
          · exact hb.trans _ _ _ (hb.r _ _) (hbd v hv)
  have skip : (∀ l, ¬ Ch d g i t st rs k l) → IsBest R out (fun v => S v ∨ ∃ l, Ch d g i t st rs k l ∧ v = val d (k :: l)) := by
    intro hn
    rcases ho with ⟨h1, h2⟩ | ⟨h1, h2, h3⟩
    · exact .inl ⟨h1, fun v hv => hv.elim (h2 v) (fun ⟨l, h, _⟩ => hn l h)⟩
    · exact .inr ⟨h1, .inl h2, fun v hv => hv.elim (h3 v) (fun ⟨l, h, _⟩ => absurd h (hn l))⟩
  unfold stepW
  by_cases hcl : clash g i k = true
  · rw [if_pos hcl]
    exact skip fun l h => by rw [h.1] at hcl; cases hcl
  · have hcl' : clash g i k = false := by simpa using hcl
    rw [if_neg hcl]
    by_cases hk : k = -1
    · rw [if_pos hk]
      by_cases hs : d.strange < st + 1
      · rw [if_pos hs]
        exact skip fun l h => by have := h.2; rw [if_pos hk] at this; omega
      · rw [if_neg hs]
        refine key _ 0 _ (by omega) (hr t (st + 1)) fun v => ?_
        constructor
        · rintro ⟨l, h, rfl⟩
          have h2 := h.2
          rw [if_pos hk] at h2
          exact ⟨_, ⟨l, h2.2, rfl⟩, by simp [val, hk]⟩
        · rintro ⟨u, ⟨l, h, rfl⟩, rfl⟩
          exact ⟨l, ⟨hcl', by rw [if_pos hk]; exact ⟨by omega, h⟩⟩, by simp [val, hk]⟩
    · rw [if_neg hk]
      refine key _ (valueOf d k.toNat) _ (value_in hc _).1 (hr _ st) fun v => ?_
      constructor
      · rintro ⟨l, h, rfl⟩
        have h2 := h.2
        rw [if_neg hk] at h2
        exact ⟨_, ⟨l, h2, rfl⟩, by simp [val, hk]⟩
      · rintro ⟨u, ⟨l, h, rfl⟩, rfl⟩
        exact ⟨l, ⟨hcl', by rw [if_neg hk]; exact h⟩, by simp [val, hk]⟩

theorem best_congr {R : Int → Int → Prop} {out : Int} {S T : Int → Prop} (h : IsBest R out S) (e : ∀ v, S v ↔ T v) : IsBest R out T := by
  have : S = T := funext fun v => propext (e v)
  rw [← this]; exact h

theorem fold_best {d : Desk} {by_ : Int → Int → Int} {R : Int → Int → Prop} (hb : Better by_ R) (hc : d.check = true) (g : Nat → Option Int) (i t : Nat) (st : Int) {rw_ : Nat → Int → Int} {rs : Nat → Int → List Int → Prop}
    (hr : ∀ t st, IsBest R (rw_ t st) (fun v => ∃ l, rs t st l ∧ v = val d l)) : ∀ (ks : List Int) {out : Int} {S : Int → Prop}, IsBest R out S →
    IsBest R (ks.foldl (stepW d by_ g i t st rw_) out) (fun v => S v ∨ ∃ k l, k ∈ ks ∧ Ch d g i t st rs k l ∧ v = val d (k :: l))
  | [], out, S, ho => best_congr ho fun v => by simp
  | k :: ks, out, S, ho => by
    refine best_congr (fold_best hb hc g i t st hr ks (step_best hb hc g i t st hr ho k)) fun v => ?_
    constructor
    · rintro ((h | ⟨l, h, rfl⟩) | ⟨k', l, h1, h2, rfl⟩)
      · exact .inl h
      · exact .inr ⟨k, l, List.mem_cons_self .., h, rfl⟩
      · exact .inr ⟨k', l, List.mem_cons_of_mem _ h1, h2, rfl⟩
    · rintro (h | ⟨k', l, h1, h2, rfl⟩)
      · exact .inl (.inl h)
      · rcases List.mem_cons.1 h1 with rfl | h1
        · exact .inl (.inr ⟨l, h2, rfl⟩)
        · exact .inr ⟨k', l, h1, h2, rfl⟩

theorem W_best {d : Desk} {by_ : Int → Int → Int} {R : Int → Int → Prop} (hb : Better by_ R) (hc : d.check = true) (g : Nat → Option Int) : ∀ (m t : Nat) (st : Int), IsBest R (W d by_ g m t st) (fun v => ∃ l, Suf d g m t st l ∧ v = val d l)
  | 0, t, st => .inr ⟨by simp [W], ⟨[], rfl, rfl⟩, fun v ⟨l, h, hv⟩ => by
      have h : l = [] := h
      subst h; subst hv; exact hb.refl _⟩
  | m + 1, t, st => by
    have h := fold_best hb hc g (d.bs.length - (m + 1)) t st (fun t st => W_best hb hc g m t st) (opts d (d.bs.length - (m + 1)) t) (out := -1) (S := fun _ => False) (.inl ⟨rfl, fun _ h => h⟩)
    refine best_congr h fun v => ?_
    constructor
    · rintro (h | ⟨k, l, h1, h2, rfl⟩)
      · cases h
      · exact ⟨k :: l, ⟨k, l, rfl, h1, h2⟩, rfl⟩
    · rintro ⟨_, ⟨k, l, rfl, h1, h2⟩, rfl⟩
      exact .inr ⟨k, l, h1, h2, rfl⟩

/-! ### truths, said all at once -/
structure SufD (d : Desk) (g : Nat → Option Int) (i0 t : Nat) (st : Int) (l : List Int) : Prop where
  ok : ∀ (i : Nat) (k : Int), l[i]? = some k → (k = -1 ∧ oddB d (i0 + i) = true) ∨ ∃ n : Nat, k = (n : Int) ∧ fit0 d (i0 + i) n = true ∧ t.testBit n = false
  inj : ∀ (i j n : Nat), l[i]? = some (n : Int) → l[j]? = some (n : Int) → i = j
  few : st + (l.count (-1) : Nat) ≤ d.strange
  free : ∀ (i : Nat) (k : Int), l[i]? = some k → clash g (i0 + i) k = false

theorem bit_or (t n k : Nat) : (t ||| 1 <<< n).testBit k = (t.testBit k || decide (k = n)) := by
  rw [Nat.testBit_or, Nat.testBit_shiftLeft]
  congr 1
  by_cases h : k = n
  · subst h; simp
  · by_cases h2 : k ≥ n
    · have : k - n ≠ 0 := by omega
      obtain ⟨m, hm⟩ := Nat.exists_eq_succ_of_ne_zero this
      simp [h, h2, hm, Nat.testBit_succ]
    · simp [h, h2]

theorem Suf_iff {d : Desk} {g : Nat → Option Int} : ∀ (m t : Nat) (st : Int) (l : List Int), m ≤ d.bs.length → st ≤ d.strange → (Suf d g m t st l ↔ l.length = m ∧ SufD d g (d.bs.length - m) t st l)
  | 0, t, st, l, hm, hst => by
    constructor
    · intro h
      have h : l = [] := h
      subst h
      exact ⟨rfl, fun i k h => by simp at h, fun i j n h => by simp at h, by simpa using hst, fun i k h => by simp at h⟩
    · rintro ⟨h, _⟩
      exact List.length_eq_zero_iff.1 h
  | m + 1, t, st, l, hm, hst => by
    have hadd : ∀ i, d.bs.length - (m + 1) + (i + 1) = d.bs.length - m + i := fun i => by omega
    constructor
    · rintro ⟨k, l', rfl, hk, hcl, hch⟩
      rcases opts_iff.1 hk with ⟨rfl, ho⟩ | ⟨n, rfl, hf⟩
      · rw [if_pos rfl] at hch
        obtain ⟨hs, hr⟩ := hch
        obtain ⟨hl, hd⟩ := (Suf_iff m t (st + 1) l' (by omega) (by omega)).1 hr
        refine ⟨by simp [hl], fun i k h => ?_, fun i j n h1 h2 => ?_, ?_, fun i k h => ?_⟩
        · cases i with
          | zero => simp at h; subst h; exact .inl ⟨rfl, ho⟩
          | succ i => rw [hadd]; exact hd.ok i k (by simpa using h)
        · cases i with
          | zero => simp at h1 <;> omega
          | succ i => cases j with
            | zero => simp at h2 <;> omega
            | succ j => rw [hd.inj i j n (by simpa using h1) (by simpa using h2)]
        · have := hd.few; simp; omega
        · cases i with
          | zero => simp at h; subst h; exact hcl
          | succ i => rw [hadd]; exact hd.free i k (by simpa using h)
      · have hn1 : ¬ ((n : Int) = -1) := by omega
        rw [if_neg hn1] at hch
        rw [fits_fit, Bool.and_eq_true] at hf
        obtain ⟨hf1, hf2⟩ := hf
        obtain ⟨hl, hd⟩ := (Suf_iff m _ st l' (by omega) hst).1 hch
        refine ⟨by simp [hl], fun i k h => ?_, fun i j n' h1 h2 => ?_, ?_, fun i k h => ?_⟩
        · cases i with
          | zero => simp at h; subst h; exact .inr ⟨n, rfl, hf2, by simpa using hf1⟩
          | succ i =>
            rw [hadd]
            rcases hd.ok i k (by simpa using h) with h1 | ⟨n', h1, h2, h3⟩
            · exact .inl h1
            · refine .inr ⟨n', h1, h2, ?_⟩
              simp only [Int.toNat_natCast] at h3
              rw [bit_or, Bool.or_eq_false_iff] at h3
              exact h3.1
        · have hne : ∀ i : Nat, l'[i]? = some (n : Int) → False := fun i h => by
            rcases hd.ok i _ h with h1 | ⟨n'', h1, h2, h3⟩
            · exact hn1 h1.1
            · simp only [Int.toNat_natCast] at h3
              rw [bit_or, Bool.or_eq_false_iff] at h3
              have : n'' = n := by omega
              simp [this] at h3
          cases i with
          | zero =>
            simp at h1
            have : n' = n := by omega
            subst this
            cases j with
            | zero => rfl
            | succ j => exact absurd (by simpa using h2) (fun h => hne j h)
          | succ i => cases j with
            | zero =>
              simp at h2
              have : n' = n := by omega
              subst this
              exact absurd (by simpa using h1) (fun h => hne i h)
            | succ j => rw [hd.inj i j n' (by simpa using h1) (by simpa using h2)]
        · have := hd.few
          rw [List.count_cons_of_ne (by simp)]; exact this
        · cases i with
          | zero => simp at h; subst h; exact hcl
          | succ i => rw [hadd]; exact hd.free i k (by simpa using h)
    · rintro ⟨hl, hd⟩
      cases l with
      | nil => simp at hl
      | cons k l' =>
        have hl' : l'.length = m := by simpa using hl
        have h0 := hd.ok 0 k rfl
        have hf0 := hd.free 0 k rfl
        simp only [Nat.add_zero] at h0 hf0
        refine ⟨k, l', rfl, ?_, hf0, ?_⟩
        · rcases h0 with ⟨h1, h2⟩ | ⟨n, h1, h2, h3⟩
          · exact opts_iff.2 (.inl ⟨h1, h2⟩)
          · exact opts_iff.2 (.inr ⟨n, h1, by rw [fits_fit, h3, h2]; rfl⟩)
        · rcases h0 with ⟨h1, h2⟩ | ⟨n, h1, h2, h3⟩
          · subst h1
            rw [if_pos rfl]
            have hfew := hd.few
            rw [List.count_cons_self] at hfew
            refine ⟨by omega, (Suf_iff m t (st + 1) l' (by omega) (by omega)).2 ⟨hl', fun i k h => ?_, fun i j n h1 h2 => ?_, by omega, fun i k h => ?_⟩⟩
            · rw [← hadd]; exact hd.ok (i + 1) k (by simpa using h)
            · have := hd.inj (i + 1) (j + 1) n (by simpa using h1) (by simpa using h2); omega
            · rw [← hadd]; exact hd.free (i + 1) k (by simpa using h)
          · subst h1
            have hn1 : ¬ ((n : Int) = -1) := by omega
            rw [if_neg hn1]
            refine (Suf_iff m _ st l' (by omega) hst).2 ⟨hl', fun i k h => ?_, fun i j n' h1 h2 => ?_, ?_, fun i k h => ?_⟩
            · rw [← hadd]
              rcases hd.ok (i + 1) k (by simpa using h) with h1 | ⟨n', h1, h4, h5⟩
              · exact .inl h1
              · refine .inr ⟨n', h1, h4, ?_⟩
                simp only [Int.toNat_natCast]
                rw [bit_or, h5]
                simp only [Bool.false_or, decide_eq_false_iff_not]
                rintro rfl
                have := hd.inj 0 (i + 1) n' (by simp) (by rw [h1] at h; simpa using h)
                omega
            · have := hd.inj (i + 1) (j + 1) n' (by simpa using h1) (by simpa using h2); omega
            · have := hd.few
              rw [List.count_cons_of_ne (by simp)] at this; exact this
            · rw [← hadd]; exact hd.free (i + 1) k (by simpa using h)

/-- A truth. -/
structure Tr (d : Desk) (l : List Int) : Prop where
  len : l.length = d.bs.length
  ok : ∀ (i : Nat) (k : Int), l[i]? = some k → (k = -1 ∧ oddB d i = true) ∨ ∃ n : Nat, k = (n : Int) ∧ fit0 d i n = true
  inj : ∀ (i j n : Nat), l[i]? = some (n : Int) → l[j]? = some (n : Int) → i = j
  few : ((l.count (-1) : Nat) : Int) ≤ d.strange
theorem Suf_all {d : Desk} {g : Nat → Option Int} (h0 : 0 ≤ d.strange) {l : List Int} : Suf d g d.bs.length 0 0 l ↔ Tr d l ∧ ∀ (i : Nat) (k : Int), l[i]? = some k → clash g i k = false := by
  rw [Suf_iff _ _ _ _ (Nat.le_refl _) h0, Nat.sub_self]
  constructor
  · rintro ⟨h1, h2⟩
    refine ⟨⟨h1, fun i k h => ?_, h2.inj, by have := h2.few; omega⟩, fun i k h => by have := h2.free i k h; simpa using this⟩
    rcases h2.ok i k h with h3 | ⟨n, h3, h4, _⟩
    · exact .inl (by simpa using h3)
    · exact .inr ⟨n, h3, by simpa using h4⟩
  · rintro ⟨h1, h2⟩
    refine ⟨h1.len, fun i k h => ?_, h1.inj, by have := h1.few; omega, fun i k h => by simpa using h2 i k h⟩
    rcases h1.ok i k h with h3 | ⟨n, h3, h4⟩
    · exact .inl (by simpa using h3)
    · exact .inr ⟨n, h3, by simpa using h4, by simp⟩
end Go.Ab.Cl

namespace Go.Ab.Cl
open Go.Ab

theorem hi_better : Better hiI (fun x y => y ≤ x) where
  or := hi_or
  l a b := by unfold hiI; split <;> omega
  r a b := by unfold hiI; split <;> omega
  refl a := Int.le_refl a
  trans a b c h1 h2 := by omega
  add a b v h := by omega
theorem lo_better : Better loI (fun x y => x ≤ y) where
  or := lo_or
  l a b := by unfold loI; split <;> omega
  r a b := by unfold loI; split <;> omega
  refl a := Int.le_refl a
  trans a b c h1 h2 := by omega
  add a b v h := by omega

theorem best_spec {d : Desk} {by_ : Int → Int → Int} {R : Int → Int → Prop} (hb : Better by_ R) (hc : d.check = true) (ge : List (Int × Int)) :
    IsBest R (best d by_ ge) (fun v => ∃ l, (Tr d l ∧ ∀ (i : Nat) (k : Int), l[i]? = some k → clash (fun i => look ge i) i k = false) ∧ v = val d l) := by
  have hs := check_strange hc
  refine best_congr (W_best hb hc (fun i => look ge i) d.bs.length 0 0) fun v => ?_
  simp only [Suf_all hs.1]
theorem best_never {d : Desk} {by_ : Int → Int → Int} {R : Int → Int → Prop} (hb : Better by_ R) (hc : d.check = true) (ge : List (Int × Int)) : best d by_ ge ≠ -1 ↔ ∃ l, Tr d l ∧ ∀ (i : Nat) (k : Int), l[i]? = some k → clash (fun i => look ge i) i k = false := by
  rcases best_spec hb hc ge with ⟨h1, h2⟩ | ⟨h1, ⟨l, h2, h3⟩, h4⟩
  · rw [h1]
    constructor
    · intro h; exact absurd rfl h
    · rintro ⟨l, hl⟩; exact absurd ⟨l, hl, rfl⟩ (h2 (val d l))
  · exact ⟨fun _ => ⟨l, h2⟩, fun _ => by omega⟩
theorem clash_none {i : Nat} {k : Int} : clash (fun i => look [] i) i k = false := rfl
theorem true_iff {d : Desk} (hc : d.check = true) : trueB d = true ↔ ∃ l, Tr d l := by
  unfold trueB
  rw [decide_eq_true_eq, best_never hi_better hc]
  exact ⟨fun ⟨l, h, _⟩ => ⟨l, h⟩, fun ⟨l, h⟩ => ⟨l, h, fun _ _ _ => clash_none⟩⟩
theorem can_iff {d : Desk} (hc : d.check = true) {b : Nat} (hb : b < d.bs.length) {p : Int} : canB d (b : Int) p = true ↔ ∃ l, Tr d l ∧ l[b]? = some p := by
  unfold canB
  rw [decide_eq_true_eq, best_never hi_better hc]
  have hlook : ∀ (i : Nat) (k : Int), clash (fun i => look [((b : Int), p)] i) i k = false ↔ (b = i → p = k) := by
    intro i k
    unfold clash look
    by_cases h : b = i
    · subst h; simp
    · have h2 : ((b : Int) == (i : Int)) = false := by simp; omega
      simp [List.find?, h2, h]
  constructor
  · rintro ⟨l, h, h2⟩
    refine ⟨l, h, ?_⟩
    have hlt : b < l.length := by rw [h.len]; exact hb
    have := (hlook b l[b]).1 (h2 b l[b] (by simp [hlt])) rfl
    rw [this]; simp [hlt]
  · rintro ⟨l, h, h2⟩
    refine ⟨l, h, fun i k hk => (hlook i k).2 fun hbi => ?_⟩
    subst hbi
    rw [h2] at hk; exact Option.some.inj hk
/-- What is told of a desk in which something is true: from what to what all is worth. -/
theorem worth_spec {d : Desk} (hc : d.check = true) (ht : trueB d = true) : (∃ l, Tr d l ∧ worthLo d = val d l) ∧ (∃ l, Tr d l ∧ worthHi d = val d l) ∧ (∀ l, Tr d l → worthLo d ≤ val d l ∧ val d l ≤ worthHi d) := by
  have he : askE d true = 0 := by simp [askE, hc, ht]
  rw [show worthLo d = best d loI [] from if_pos he, show worthHi d = best d hiI [] from if_pos he]
  obtain ⟨l0, h0⟩ := (true_iff hc).1 ht
  rcases best_spec lo_better hc [] with ⟨h1, h2⟩ | ⟨h1, ⟨l, h2, h3⟩, h4⟩
  · exact absurd ⟨l0, ⟨h0, fun _ _ _ => clash_none⟩, rfl⟩ (h2 (val d l0))
  rcases best_spec hi_better hc [] with ⟨k1, k2⟩ | ⟨k1, ⟨l', k2, k3⟩, k4⟩
  · exact absurd ⟨l0, ⟨h0, fun _ _ _ => clash_none⟩, rfl⟩ (k2 (val d l0))
  exact ⟨⟨l, h2.1, h3⟩, ⟨l', k2.1, k3⟩, fun l'' h => ⟨h4 _ ⟨l'', ⟨h, fun _ _ _ => clash_none⟩, rfl⟩, k4 _ ⟨l'', ⟨h, fun _ _ _ => clash_none⟩, rfl⟩⟩⟩
end Go.Ab.Cl

namespace Go.Ab.Cl
open Go.Ab

theorem Tween_ev {G : Nat → List AV} {n : Nat} (hn : 1 ≤ n) (a b c : Int) : (evKR Bk G fsT n).1 0 38 [.int .i64 a, .int .i64 b, .int .i64 c] [] ansK = some (.bool (within a b c), []) := by
  refine call_open (show fsT.find 38 = some a38 from rfl) (by omega) fun n B cl rd hn' hB hcl hrd => ?_
  conv => lhs; whnf
  repeat' ((first | refine le_split hB (fun _ => ?_) (fun _ => ?_) | refine Q0 hB rfl ?_ | refine Q1 hB (by decide) ?_ | refine Q2 hB (by decide) ?_ | refine Q3 hB (by decide) ?_ | refine Q4 hB (by decide) ?_ | refine Q5 hB (by decide) ?_ | refine Q6 hB (by decide) ?_ | refine Q7 hB (by omega) (by omega) ?_ | refine Q8 hB ?_ | refine Q9 hB ?_ | refine Qa hB ?_ | refine Qb hB (fun _ => ?_) (fun _ => ?_) | refine Qc hB ?_ | refine Qd hB ?_ | refine Qe hB ?_ | refine Qf hB ?_ | refine Qg hB ?_ | refine Qh hB ?_ | refine Qi hB ?_ | refine Qj hB rfl ?_ | refine Qk hB rfl ?_ | refine Ql hB (by first | omega | decide) ?_ | refine Qm hB rfl ?_ | refine Qn hB ?_ | refine Qo hB rfl ?_ | refine Qo hB (Qp rfl) ?_ | refine Qq hB rfl ?_ | refine Qr hB ?_ | refine Qs hB ?_ | refine Qt hB ?_ | refine Qu hB ?_ | refine Qv hB rfl ?_) <;> conv => lhs; whnf)
  all_goals simp_all [within] <;> omega
theorem Proper_ev {G : Nat → List AV} {n : Nat} (hn : 1 ≤ n) (a b c d : Int) : (evKR Bk G fsT n).1 0 60 [.agg [.int .i64 a, .int .i64 b], .int .i64 c, .int .i64 d] [] ansK = some (.bool (isSpan a b c d), []) := by
  refine call_open (show fsT.find 60 = some a60 from rfl) (by omega) fun n B cl rd hn' hB hcl hrd => ?_
  conv => lhs; whnf
  repeat' ((first | refine le_split hB (fun _ => ?_) (fun _ => ?_) | refine Q0 hB rfl ?_ | refine Q1 hB (by decide) ?_ | refine Q2 hB (by decide) ?_ | refine Q3 hB (by decide) ?_ | refine Q4 hB (by decide) ?_ | refine Q5 hB (by decide) ?_ | refine Q6 hB (by decide) ?_ | refine Q7 hB (by omega) (by omega) ?_ | refine Q8 hB ?_ | refine Q9 hB ?_ | refine Qa hB ?_ | refine Qb hB (fun _ => ?_) (fun _ => ?_) | refine Qc hB ?_ | refine Qd hB ?_ | refine Qe hB ?_ | refine Qf hB ?_ | refine Qg hB ?_ | refine Qh hB ?_ | refine Qi hB ?_ | refine Qj hB rfl ?_ | refine Qk hB rfl ?_ | refine Ql hB (by first | omega | decide) ?_ | refine Qm hB rfl ?_ | refine Qn hB ?_ | refine Qo hB rfl ?_ | refine Qo hB (Qp rfl) ?_ | refine Qq hB rfl ?_ | refine Qr hB ?_ | refine Qs hB ?_ | refine Qt hB ?_ | refine Qu hB ?_ | refine Qv hB rfl ?_) <;> conv => lhs; whnf)
  all_goals simp_all [isSpan] <;> omega

theorem a35_L1_step {G : Nat → List AV} {B : Bnd} (hB : B = Bk) {cl : CallK} {rd : RoundK} (H38 : ∀ a b c : Int, cl 0 38 [.int .i64 a, .int .i64 b, .int .i64 c] [] ansK = some (.bool (within a b c), [])) (d : Desk) (hd : d.ok) (hp : ∀ p ∈ d.ps, okParcel p = true) (n : Nat) (k : Ex → Env → St → Ans) (r : Ans) :
    ∀ (j i : Nat), d.ps.length < i + j → i ≤ d.ps.length →
    (k (.exit 0) [(1, .ptr 0 0 0), (3, .bool true), (4, .int .i64 (.ofNat d.ps.length))] [⟨[.cells d.c], []⟩] = r) →
    B.loop (evCK B a35_L1) [1, 3, 4] n j cl rd G 0 1 [(1, .ptr 0 0 0), (3, .bool true), (4, .int .i64 (.ofNat i))] [⟨[.cells d.c], []⟩] k = r := by
  intro j
  induction j with
  | zero => intro i h1 h2; omega
  | succ j ih =>
    intro i h1 h2 k1
    have h3 := hd.ps
    refine loop_succ hB ?_
    conv => lhs; whnf
    repeat' ((first | refine Q0 hB rfl ?_ | refine Q1 hB (by decide) ?_ | refine Q2 hB (by decide) ?_ | refine Q3 hB (by decide) ?_ | refine Q4 hB (by decide) ?_ | refine Q5 hB (by decide) ?_ | refine Q6 hB (by decide) ?_ | refine Q7 hB (by omega) (by omega) ?_ | refine Q8 hB ?_ | refine Q9 hB ?_ | refine Qa hB ?_ | refine Qb hB (fun _ => ?_) (fun _ => ?_) | refine Qc hB ?_ | refine Qd hB ?_ | refine Qe hB ?_ | refine Qf hB ?_ | refine Qg hB ?_ | refine Qh hB ?_ | refine Qi hB ?_ | refine Qj hB rfl ?_ | refine Qk hB rfl ?_ | refine Ql hB (by first | omega | decide) ?_ | refine Qm hB rfl ?_ | refine Qn hB ?_ | refine Qo hB rfl ?_ | refine Qo hB (Qp rfl) ?_ | refine Qq hB rfl ?_ | refine Qr hB ?_ | refine Qs hB ?_ | refine Qt hB ?_ | refine Qu hB ?_ | refine Qv hB rfl ?_) <;> conv => lhs; whnf)
    refine lt_nat hB (fun h => ?_) (fun h => ?_) <;> conv => lhs; whnf
    · have hx : (d.ps.map Parcel.c)[i]? = some (Parcel.c d.ps[i]) := by simp [h]
      have hq := hp d.ps[i] (List.getElem_mem h)
      generalize d.ps[i] = p at hx hq
      simp only [okParcel, Bool.and_eq_true] at hq
      obtain ⟨⟨⟨q1, q2⟩, q3⟩, q4⟩ := hq
      have H1 := H38 p.day 0 4000
      have H2 := H38 p.weight 0 50000
      have H3 := H38 p.mark 0 9999
      have H4 := H38 p.value 0 100000
      rw [q1] at H1
      rw [q2] at H2
      rw [q3] at H3
      rw [q4] at H4
      repeat' ((first | refine Qx hB H1 ?_ | refine Qx hB H2 ?_ | refine Qx hB H3 ?_ | refine Qx hB H4 ?_ | refine QC hB (m := i) rfl ?_ | refine QB hB hx ?_ | refine Q0 hB rfl ?_ | refine Q1 hB (by decide) ?_ | refine Q2 hB (by decide) ?_ | refine Q3 hB (by decide) ?_ | refine Q4 hB (by decide) ?_ | refine Q5 hB (by decide) ?_ | refine Q6 hB (by decide) ?_ | refine Q7 hB (by omega) (by omega) ?_ | refine Q8 hB ?_ | refine Q9 hB ?_ | refine Qa hB ?_ | refine Qb hB (fun _ => ?_) (fun _ => ?_) | refine Qc hB ?_ | refine Qd hB ?_ | refine Qe hB ?_ | refine Qf hB ?_ | refine Qg hB ?_ | refine Qh hB ?_ | refine Qi hB ?_ | refine Qj hB rfl ?_ | refine Qk hB rfl ?_ | refine Ql hB (by first | omega | decide) ?_ | refine Qm hB rfl ?_ | refine Qn hB ?_ | refine Qo hB rfl ?_ | refine Qo hB (Qp rfl) ?_ | refine Qq hB rfl ?_ | refine Qr hB ?_ | refine Qs hB ?_ | refine Qt hB ?_ | refine Qu hB ?_ | refine Qv hB rfl ?_) <;> conv => lhs; whnf)
      (repeat' ((refine Qo hB rfl ?_) <;> conv => lhs; whnf))
      exact ih (i + 1) (by omega) (by omega) k1
    · have : i = d.ps.length := by omega
      subst this
      (repeat' ((refine Qo hB rfl ?_) <;> conv => lhs; whnf))
      exact k1

theorem a35_L2_step {G : Nat → List AV} {B : Bnd} (hB : B = Bk) {cl : CallK} {rd : RoundK} (H38 : ∀ a b c : Int, cl 0 38 [.int .i64 a, .int .i64 b, .int .i64 c] [] ansK = some (.bool (within a b c), []))
    (H60 : ∀ a b c d : Int, cl 0 60 [.agg [.int .i64 a, .int .i64 b], .int .i64 c, .int .i64 d] [] ansK = some (.bool (isSpan a b c d), [])) (d : Desk) (hd : d.ok) (hp : ∀ b ∈ d.bs, okBox b = true) (n : Nat) (k : Ex → Env → St → Ans) (r : Ans) :
    ∀ (j i : Nat), d.bs.length < i + j → i ≤ d.bs.length →
    (k (.exit 2) [(1, .ptr 0 0 0), (3, .bool true), (6, .int .i64 (.ofNat d.bs.length))] [⟨[.cells d.c], []⟩] = r) →
    B.loop (evCK B a35_L2) [1, 3, 6] n j cl rd G 0 1 [(1, .ptr 0 0 0), (3, .bool true), (6, .int .i64 (.ofNat i))] [⟨[.cells d.c], []⟩] k = r := by
  intro j
  induction j with
  | zero => intro i h1 h2; omega
  | succ j ih =>
    intro i h1 h2 k1
    have h3 := hd.bs
    refine loop_succ hB ?_
    conv => lhs; whnf
    repeat' ((first | refine Q0 hB rfl ?_ | refine Q1 hB (by decide) ?_ | refine Q2 hB (by decide) ?_ | refine Q3 hB (by decide) ?_ | refine Q4 hB (by decide) ?_ | refine Q5 hB (by decide) ?_ | refine Q6 hB (by decide) ?_ | refine Q7 hB (by omega) (by omega) ?_ | refine Q8 hB ?_ | refine Q9 hB ?_ | refine Qa hB ?_ | refine Qb hB (fun _ => ?_) (fun _ => ?_) | refine Qc hB ?_ | refine Qd hB ?_ | refine Qe hB ?_ | refine Qf hB ?_ | refine Qg hB ?_ | refine Qh hB ?_ | refine Qi hB ?_ | refine Qj hB rfl ?_ | refine Qk hB rfl ?_ | refine Ql hB (by first | omega | decide) ?_ | refine Qm hB rfl ?_ | refine Qn hB ?_ | refine Qo hB rfl ?_ | refine Qo hB (Qp rfl) ?_ | refine Qq hB rfl ?_ | refine Qr hB ?_ | refine Qs hB ?_ | refine Qt hB ?_ | refine Qu hB ?_ | refine Qv hB rfl ?_) <;> conv => lhs; whnf)
    refine lt_nat hB (fun h => ?_) (fun h => ?_) <;> conv => lhs; whnf
    · have hx : (d.bs.map Box.c)[i]? = some (Box.c d.bs[i]) := by simp [h]
      have hq := hp d.bs[i] (List.getElem_mem h)
      generalize d.bs[i] = b at hx hq
      simp only [okBox, Bool.and_eq_true] at hq
      obtain ⟨⟨q1, q2⟩, q3⟩ := hq
      have H1 := H38 b.day 0 4000
      have H2 := H60 b.low b.high 0 50000
      rw [q1] at H1
      rw [q2] at H2
      have q4 : b.mark.length = 0 ∨ b.mark.length = 4 := by
        simp only [okSeal, Bool.and_eq_true, Bool.or_eq_true, beq_iff_eq, List.isEmpty_iff] at q3
        rcases q3.1 with h | h
        · left; simp [h]
        · right; exact h
      repeat' ((first | refine Qx hB H1 ?_ | refine Qx hB H2 ?_ | refine QC hB (m := i) rfl ?_ | refine QB hB hx ?_ | refine eq_split hB (fun _ => ?_) (fun _ => ?_) | refine Q0 hB rfl ?_ | refine Q1 hB (by decide) ?_ | refine Q2 hB (by decide) ?_ | refine Q3 hB (by decide) ?_ | refine Q4 hB (by decide) ?_ | refine Q5 hB (by decide) ?_ | refine Q6 hB (by decide) ?_ | refine Q7 hB (by omega) (by omega) ?_ | refine Q8 hB ?_ | refine Q9 hB ?_ | refine Qa hB ?_ | refine Qb hB (fun _ => ?_) (fun _ => ?_) | refine Qc hB ?_ | refine Qd hB ?_ | refine Qe hB ?_ | refine Qf hB ?_ | refine Qg hB ?_ | refine Qh hB ?_ | refine Qi hB ?_ | refine Qj hB rfl ?_ | refine Qk hB rfl ?_ | refine Ql hB (by first | omega | decide) ?_ | refine Qm hB rfl ?_ | refine Qn hB ?_ | refine Qo hB rfl ?_ | refine Qo hB (Qp rfl) ?_ | refine Qq hB rfl ?_ | refine Qr hB ?_ | refine Qs hB ?_ | refine Qt hB ?_ | refine Qu hB ?_ | refine Qv hB rfl ?_) <;> conv => lhs; whnf)
      · (repeat' ((refine Qo hB rfl ?_) <;> conv => lhs; whnf))
        exact ih (i + 1) (by omega) (by omega) k1
      · (repeat' ((refine Qo hB rfl ?_) <;> conv => lhs; whnf))
        exact ih (i + 1) (by omega) (by omega) k1
      · simp only [Int.ofNat_eq_natCast] at *
        omega
    · have : i = d.bs.length := by omega
      subst this
      (repeat' ((refine Qo hB rfl ?_) <;> conv => lhs; whnf))
      exact k1

theorem sound_ev {G : Nat → List AV} {n : Nat} (d : Desk) (hd : d.ok) (hn : 1000000000000006 ≤ n) : (evKR Bk G fsT n).1 0 35 [d.v] [] ansK = some (.bool d.check, []) := by
  refine call_open (show fsT.find 35 = some a35 from rfl) (by omega) fun n B cl rd hn' hB hcl hrd => ?_
  have HC := Check_ev (G := G) (n := n) d hd (by omega)
  have H38 := fun a b c => Tween_ev (G := G) (n := n) (by omega) a b c
  have H60 := fun a b c e => Proper_ev (G := G) (n := n) (by omega) a b c e
  rw [← hcl] at HC H38 H60
  cases hck : d.check with
  | false =>
    rw [hck] at HC
    conv => lhs; whnf
    repeat' ((first | refine Qv hB hd.tp ?_ | refine Qv hB hd.tb ?_ | refine Q0 hB (by simp [purs, pur, hd.tp, hd.tb]) ?_ | refine Qx hB HC ?_ | refine loop_step hB (by omega) ?_ | refine Q0 hB rfl ?_ | refine Q1 hB (by decide) ?_ | refine Q2 hB (by decide) ?_ | refine Q3 hB (by decide) ?_ | refine Q4 hB (by decide) ?_ | refine Q5 hB (by decide) ?_ | refine Q6 hB (by decide) ?_ | refine Q7 hB (by omega) (by omega) ?_ | refine Q8 hB ?_ | refine Q9 hB ?_ | refine Qa hB ?_ | refine Qb hB (fun _ => ?_) (fun _ => ?_) | refine Qc hB ?_ | refine Qd hB ?_ | refine Qe hB ?_ | refine Qf hB ?_ | refine Qg hB ?_ | refine Qh hB ?_ | refine Qi hB ?_ | refine Qj hB rfl ?_ | refine Qk hB rfl ?_ | refine Ql hB (by first | omega | decide) ?_ | refine Qm hB rfl ?_ | refine Qn hB ?_ | refine Qo hB rfl ?_ | refine Qo hB (Qp rfl) ?_ | refine Qq hB rfl ?_ | refine Qr hB ?_ | refine Qs hB ?_ | refine Qt hB ?_ | refine Qu hB ?_ | refine Qv hB rfl ?_) <;> conv => lhs; whnf)
  | true =>
    rw [hck] at HC
    have hf := hck
    simp only [Desk.check, Bool.and_eq_true, decide_eq_true_eq, List.all_eq_true] at hf
    obtain ⟨⟨⟨⟨⟨⟨g1, g2⟩, g3⟩, g4⟩, g5⟩, g6⟩, g7⟩ := hf
    have H1 := H60 d.lo d.hi 0 400
    have H2 := H38 d.wear 0 5000
    have H3 := H38 d.strange 0 6
    rw [g1] at H1
    rw [g2] at H2
    rw [g3] at H3
    conv => lhs; whnf
    repeat' ((first | refine Qv hB hd.tp ?_ | refine Qv hB hd.tb ?_ | refine Q0 hB (by simp [purs, pur, hd.tp, hd.tb]) ?_ | refine Qx hB HC ?_ | refine Qx hB H1 ?_ | refine Qx hB H2 ?_ | refine Qx hB H3 ?_ | refine Q3 hB (by simp only [Int.ofNat_eq_natCast]; omega) ?_ | refine a35_L1_step hB H38 d hd g6 _ _ _ _ 0 (by omega) (by omega) ?_ | refine a35_L2_step hB H38 H60 d hd g7 _ _ _ _ 0 (by omega) (by omega) ?_ | refine Q0 hB rfl ?_ | refine Q1 hB (by decide) ?_ | refine Q2 hB (by decide) ?_ | refine Q3 hB (by decide) ?_ | refine Q4 hB (by decide) ?_ | refine Q5 hB (by decide) ?_ | refine Q6 hB (by decide) ?_ | refine Q7 hB (by omega) (by omega) ?_ | refine Q8 hB ?_ | refine Q9 hB ?_ | refine Qa hB ?_ | refine Qb hB (fun _ => ?_) (fun _ => ?_) | refine Qc hB ?_ | refine Qd hB ?_ | refine Qe hB ?_ | refine Qf hB ?_ | refine Qg hB ?_ | refine Qh hB ?_ | refine Qi hB ?_ | refine Qj hB rfl ?_ | refine Qk hB rfl ?_ | refine Ql hB (by first | omega | decide) ?_ | refine Qm hB rfl ?_ | refine Qn hB ?_ | refine Qo hB rfl ?_ | refine Qo hB (Qp rfl) ?_ | refine Qq hB rfl ?_ | refine Qr hB ?_ | refine Qs hB ?_ | refine Qt hB ?_ | refine Qu hB ?_ | refine Qv hB rfl ?_) <;> conv => lhs; whnf)
end Go.Ab.Cl

namespace Go.Ab.Cl
open Go.Ab

theorem rem_i64 {a b : Int} (h : b ≠ 0) : binAV .rem (.int .i64 a) (.int .i64 b) = some (.int .i64 (a.tmod b)) := by simp [binAV, intBin, h]
theorem quo_i64 {a b : Int} (h : b ≠ 0) (h1 : -9223372036854775808 ≤ a.tdiv b) (h2 : a.tdiv b ≤ 9223372036854775807) : binAV .quo (.int .i64 a) (.int .i64 b) = some (.int .i64 (a.tdiv b)) := by simp [binAV, intBin, h, wrp_i64 h1 h2]

def spin (n many : Int) : Int := if many < 1 then 0 else if n.tmod many < 0 then n.tmod many + many else n.tmod many
theorem tmod_lt {n many : Int} (h : 1 ≤ many) : -many < n.tmod many ∧ n.tmod many < many := by
  constructor
  · have := Int.lt_tmod_of_pos n (show 0 < many by omega); omega
  · exact Int.tmod_lt_of_pos n (by omega)
theorem spin_in {n many : Int} (h : 1 ≤ many) : 0 ≤ spin n many ∧ spin n many < many := by
  have := tmod_lt (n := n) h
  unfold spin
  rw [if_neg (by omega)]
  split <;> omega

theorem Spin_ev {G : Nat → List AV} {n : Nat} (hn : 1 ≤ n) (a b : Int) (hb : b ≤ 9000000000000000000) : (evKR Bk G fsT n).1 0 42 [.int .i64 a, .int .i64 b] [] ansK = some (.int .i64 (spin a b), []) := by
  refine call_open (show fsT.find 42 = some a42 from rfl) (by omega) fun n B cl rd hn' hB hcl hrd => ?_
  conv => lhs; whnf
  refine lt_split hB (fun h => ?_) (fun h => ?_) <;> conv => lhs; whnf
  · have : spin a b = 0 := by unfold spin; rw [if_pos h]
    rw [this]
  · have ht := tmod_lt (n := a) (many := b) (by omega)
    repeat' ((first | refine Qm hB (rem_i64 (by omega)) ?_ | refine lt_split hB (fun h => ?_) (fun h => ?_) | refine add_step hB (by omega) (by omega) ?_ | refine Q0 hB rfl ?_ | refine Q1 hB (by decide) ?_ | refine Q2 hB (by decide) ?_ | refine Q3 hB (by decide) ?_ | refine Q4 hB (by decide) ?_ | refine Q5 hB (by decide) ?_ | refine Q6 hB (by decide) ?_ | refine Q7 hB (by omega) (by omega) ?_ | refine Q8 hB ?_ | refine Q9 hB ?_ | refine Qa hB ?_ | refine Qb hB (fun _ => ?_) (fun _ => ?_) | refine Qc hB ?_ | refine Qd hB ?_ | refine Qe hB ?_ | refine Qf hB ?_ | refine Qg hB ?_ | refine Qh hB ?_ | refine Qi hB ?_ | refine Qj hB rfl ?_ | refine Qk hB rfl ?_ | refine Ql hB (by first | omega | decide) ?_ | refine Qm hB rfl ?_ | refine Qn hB ?_ | refine Qo hB rfl ?_ | refine Qo hB (Qp rfl) ?_ | refine Qq hB rfl ?_ | refine Qr hB ?_ | refine Qs hB ?_ | refine Qt hB ?_ | refine Qu hB ?_ | refine Qv hB rfl ?_) <;> conv => lhs; whnf)
    all_goals
      refine congrArg some (congrArg (·, []) (congrArg (AV.int .i64) ?_))
      unfold spin
      rw [if_neg (by omega)]
      simp_all
    all_goals (intros; omega)

theorem Bare_ev {G : Nat → List AV} {n : Nat} (hn : 1 ≤ n) (a : Int) (ha : 0 ≤ a) : (evKR Bk G fsT n).1 0 89 [.int .i64 a] [] ansK = some (.int .i64 a, []) := by
  refine call_open (show fsT.find 89 = some a89 from rfl) (by omega) fun n B cl rd hn' hB hcl hrd => ?_
  conv => lhs; whnf
  repeat' ((first | refine Q2 hB (by omega) ?_ | refine Q0 hB rfl ?_ | refine Q1 hB (by decide) ?_ | refine Q2 hB (by decide) ?_ | refine Q3 hB (by decide) ?_ | refine Q4 hB (by decide) ?_ | refine Q5 hB (by decide) ?_ | refine Q6 hB (by decide) ?_ | refine Q7 hB (by omega) (by omega) ?_ | refine Q8 hB ?_ | refine Q9 hB ?_ | refine Qa hB ?_ | refine Qb hB (fun _ => ?_) (fun _ => ?_) | refine Qc hB ?_ | refine Qd hB ?_ | refine Qe hB ?_ | refine Qf hB ?_ | refine Qg hB ?_ | refine Qh hB ?_ | refine Qi hB ?_ | refine Qj hB rfl ?_ | refine Qk hB rfl ?_ | refine Ql hB (by first | omega | decide) ?_ | refine Qm hB rfl ?_ | refine Qn hB ?_ | refine Qo hB rfl ?_ | refine Qo hB (Qp rfl) ?_ | refine Qq hB rfl ?_ | refine Qr hB ?_ | refine Qs hB ?_ | refine Qt hB ?_ | refine Qu hB ?_ | refine Qv hB rfl ?_) <;> conv => lhs; whnf)

/-- A number's digits, j of them at most. -/
def digits : Nat → Nat → List UInt8
  | 0, _ => []
  | j + 1, n => if n < 10 then [(48 + n).toUInt8] else digits j (n / 10) ++ [(48 + n % 10).toUInt8]

theorem digits_len : ∀ (j n : Nat), (digits j n).length ≤ j
  | 0, _ => by simp [digits]
  | j + 1, n => by
    unfold digits
    split
    · simp
    · have := digits_len j (n / 10); simp; omega
theorem str_add {a b : List UInt8} (h : a.length + b.length ≤ 9223372036854775807) : binAV .add (.str a) (.str b) = some (.str (a ++ b)) := by simp [binAV, strBin, h]

theorem rune_ok {r : Nat} (h : r < 10) : cvtAV .rune (.int .i32 (wrp .i32 (48 + (r : Int)))) = some (.str [(48 + r).toUInt8]) := by
  match r, h with
  | 0, _ => rfl
  | 1, _ => rfl
  | 2, _ => rfl
  | 3, _ => rfl
  | 4, _ => rfl
  | 5, _ => rfl
  | 6, _ => rfl
  | 7, _ => rfl
  | 8, _ => rfl
  | 9, _ => rfl

theorem Write_ev {G : Nat → List AV} : ∀ (j : Nat) {n : Nat} (m : Nat) {z : Int}, z = (m : Int) → 0 < j → m < 10 ^ j → j ≤ 18 → j + 2 ≤ n → (evKR Bk G fsT n).1 0 82 [.int .i64 z] [] ansK = some (.str (digits j m), []) := by
  intro j
  induction j with
  | zero => intro n m z hz h; omega
  | succ j ih =>
    intro n m z hz _ hm hj hn
    have hm2 : m < 10 ^ 18 := Nat.lt_of_lt_of_le hm (Nat.pow_le_pow_right (by omega) hj)
    refine call_open (show fsT.find 82 = some a82 from rfl) (by omega) fun n B cl rd hn' hB hcl hrd => ?_
    have ht : z.tmod 10 = ((m % 10 : Nat) : Int) := by subst hz; rfl
    have HB := Bare_ev (G := G) (n := n) (by omega) (z.tmod 10) (by rw [ht]; omega)
    rw [← hcl] at HB
    have hr : cvtAV .rune (.int .i32 (wrp .i32 (48 + z.tmod 10))) = some (.str [(48 + m % 10).toUInt8]) := by rw [ht]; exact rune_ok (by omega)
    have hrem : binAV .rem (.int .i64 z) (.int .i64 10) = some (.int .i64 (z.tmod 10)) := rem_i64 (by decide)
    have hq : z.tdiv 10 = ((m / 10 : Nat) : Int) := by subst hz; rfl
    have hquo : binAV .quo (.int .i64 z) (.int .i64 10) = some (.int .i64 (z.tdiv 10)) := quo_i64 (by decide) (by rw [hq]; omega) (by rw [hq]; omega)
    have hb0 : 0 ≤ z.tmod 10 := by rw [ht]; omega
    have hb9 : z.tmod 10 ≤ 9 := by rw [ht]; omega
    have hl := digits_len j (m / 10)
    by_cases h10 : m < 10
    · conv => lhs; whnf
      repeat' ((first | refine Qm hB hrem ?_ | refine Qm hB hr ?_ | refine Qx hB HB ?_ | refine add_step hB (by omega) (by omega) ?_ | refine Q1 hB (by omega) ?_ | refine Q2 hB (by omega) ?_ | refine Q3 hB (by omega) ?_ | refine Q0 hB rfl ?_ | refine Q1 hB (by decide) ?_ | refine Q2 hB (by decide) ?_ | refine Q3 hB (by decide) ?_ | refine Q4 hB (by decide) ?_ | refine Q5 hB (by decide) ?_ | refine Q6 hB (by decide) ?_ | refine Q7 hB (by omega) (by omega) ?_ | refine Q8 hB ?_ | refine Q9 hB ?_ | refine Qa hB ?_ | refine Qb hB (fun _ => ?_) (fun _ => ?_) | refine Qc hB ?_ | refine Qd hB ?_ | refine Qe hB ?_ | refine Qf hB ?_ | refine Qg hB ?_ | refine Qh hB ?_ | refine Qi hB ?_ | refine Qj hB rfl ?_ | refine Qk hB rfl ?_ | refine Ql hB (by first | omega | decide) ?_ | refine Qm hB rfl ?_ | refine Qn hB ?_ | refine Qo hB rfl ?_ | refine Qo hB (Qp rfl) ?_ | refine Qq hB rfl ?_ | refine Qr hB ?_ | refine Qs hB ?_ | refine Qt hB ?_ | refine Qu hB ?_ | refine Qv hB rfl ?_) <;> conv => lhs; whnf)
      have : digits (j + 1) m = [(48 + m % 10).toUInt8] := by unfold digits; rw [if_pos h10, Nat.mod_eq_of_lt h10]
      rw [this]
    · have hj0 : 0 < j := by
        rcases Nat.eq_zero_or_pos j with h | h
        · subst h; simp at hm; omega
        · exact h
      have hm10 : m / 10 < 10 ^ j := by rw [Nat.div_lt_iff_lt_mul (by omega)]; rw [Nat.pow_succ] at hm; omega
      have H82 := ih (n := n) (m / 10) hq hj0 hm10 (by omega) (by omega)
      rw [← hcl] at H82
      conv => lhs; whnf
      repeat' ((first | refine Qm hB hrem ?_ | refine Qm hB hr ?_ | refine Qm hB hquo ?_ | refine Qm hB (str_add (by simp; omega)) ?_ | refine Qx hB HB ?_ | refine Qx hB H82 ?_ | refine add_step hB (by omega) (by omega) ?_ | refine Q1 hB (by omega) ?_ | refine Q2 hB (by omega) ?_ | refine Q3 hB (by omega) ?_ | refine Q0 hB rfl ?_ | refine Q1 hB (by decide) ?_ | refine Q2 hB (by decide) ?_ | refine Q3 hB (by decide) ?_ | refine Q4 hB (by decide) ?_ | refine Q5 hB (by decide) ?_ | refine Q6 hB (by decide) ?_ | refine Q7 hB (by omega) (by omega) ?_ | refine Q8 hB ?_ | refine Q9 hB ?_ | refine Qa hB ?_ | refine Qb hB (fun _ => ?_) (fun _ => ?_) | refine Qc hB ?_ | refine Qd hB ?_ | refine Qe hB ?_ | refine Qf hB ?_ | refine Qg hB ?_ | refine Qh hB ?_ | refine Qi hB ?_ | refine Qj hB rfl ?_ | refine Qk hB rfl ?_ | refine Ql hB (by first | omega | decide) ?_ | refine Qm hB rfl ?_ | refine Qn hB ?_ | refine Qo hB rfl ?_ | refine Qo hB (Qp rfl) ?_ | refine Qq hB rfl ?_ | refine Qr hB ?_ | refine Qs hB ?_ | refine Qt hB ?_ | refine Qu hB ?_ | refine Qv hB rfl ?_) <;> conv => lhs; whnf)
      have : digits (j + 1) m = digits j (m / 10) ++ [(48 + m % 10).toUInt8] := by rw [digits, if_neg h10]
      rw [this]
end Go.Ab.Cl

namespace Go.Ab.Cl
open Go.Ab

theorem a46_L1_step {G : Nat → List AV} {B : Bnd} (hB : B = Bk) {cl : CallK} {rd : RoundK} (n : Nat) (s : St) (k : Ex → Env → St → Ans) (r : Ans) :
    ∀ (j : Nat) (t : List UInt8), 6 < t.length + j → t.length ≤ 5 → 2 ≤ j →
    (k (.exit 0) [(3, .str (List.replicate (4 - t.length) 48 ++ t))] s = r) →
    B.loop (evCK B a46_L1) [3] n j cl rd G 0 1 [(3, .str t)] s k = r := by
  intro j
  induction j with
  | zero =>
    intro t h1 h2 h3
    omega
  | succ j ih =>
    intro t h1 h2 h3 k1
    refine loop_succ hB ?_
    conv => lhs; whnf
    refine Qh hB ?_
    conv => lhs; whnf
    refine lt_split hB (fun h => ?_) (fun h => ?_) <;> conv => lhs; whnf
    · have h' : t.length < 4 := by simp only [Int.ofNat_eq_natCast] at h; omega
      have ha : binAV .add (.str [48]) (.str t) = some (.str (48 :: t)) := str_add (by simp; omega)
      repeat' ((first | refine Qm hB ha ?_ | refine Q0 hB rfl ?_ | refine Q1 hB (by decide) ?_ | refine Q2 hB (by decide) ?_ | refine Q3 hB (by decide) ?_ | refine Q4 hB (by decide) ?_ | refine Q5 hB (by decide) ?_ | refine Q6 hB (by decide) ?_ | refine Q7 hB (by omega) (by omega) ?_ | refine Q8 hB ?_ | refine Q9 hB ?_ | refine Qa hB ?_ | refine Qb hB (fun _ => ?_) (fun _ => ?_) | refine Qc hB ?_ | refine Qd hB ?_ | refine Qe hB ?_ | refine Qf hB ?_ | refine Qg hB ?_ | refine Qh hB ?_ | refine Qi hB ?_ | refine Qj hB rfl ?_ | refine Qk hB rfl ?_ | refine Ql hB (by first | omega | decide) ?_ | refine Qm hB rfl ?_ | refine Qn hB ?_ | refine Qo hB rfl ?_ | refine Qo hB (Qp rfl) ?_ | refine Qq hB rfl ?_ | refine Qr hB ?_ | refine Qs hB ?_ | refine Qt hB ?_ | refine Qu hB ?_ | refine Qv hB rfl ?_) <;> conv => lhs; whnf)
      refine ih (48 :: t) (by simp; omega) (by simp; omega) (by omega) ?_
      have e : List.replicate (4 - t.length) (48 : UInt8) ++ t = List.replicate (4 - (48 :: t).length) 48 ++ (48 :: t) := by
        have : 4 - t.length = (4 - (48 :: t).length) + 1 := by simp; omega
        rw [this, List.replicate_succ']
        simp
      rw [← e]
      (repeat' ((refine Qo hB rfl ?_) <;> conv => lhs; whnf))
      exact k1
    · have h' : 4 - t.length = 0 := by simp only [Int.ofNat_eq_natCast] at h; omega
      repeat' ((first | refine Q0 hB rfl ?_ | refine Q1 hB (by decide) ?_ | refine Q2 hB (by decide) ?_ | refine Q3 hB (by decide) ?_ | refine Q4 hB (by decide) ?_ | refine Q5 hB (by decide) ?_ | refine Q6 hB (by decide) ?_ | refine Q7 hB (by omega) (by omega) ?_ | refine Q8 hB ?_ | refine Q9 hB ?_ | refine Qa hB ?_ | refine Qb hB (fun _ => ?_) (fun _ => ?_) | refine Qc hB ?_ | refine Qd hB ?_ | refine Qe hB ?_ | refine Qf hB ?_ | refine Qg hB ?_ | refine Qh hB ?_ | refine Qi hB ?_ | refine Qj hB rfl ?_ | refine Qk hB rfl ?_ | refine Ql hB (by first | omega | decide) ?_ | refine Qm hB rfl ?_ | refine Qn hB ?_ | refine Qo hB rfl ?_ | refine Qo hB (Qp rfl) ?_ | refine Qq hB rfl ?_ | refine Qr hB ?_ | refine Qs hB ?_ | refine Qt hB ?_ | refine Qu hB ?_ | refine Qv hB rfl ?_) <;> conv => lhs; whnf)
      rw [h'] at k1
      (repeat' ((refine Qo hB rfl ?_) <;> conv => lhs; whnf))
      exact k1

def d4 (m : Nat) : List UInt8 := [(48 + m / 1000 % 10).toUInt8, (48 + m / 100 % 10).toUInt8, (48 + m / 10 % 10).toUInt8, (48 + m % 10).toUInt8]

theorem seal_text {m : Nat} (h : m < 10000) : List.replicate (4 - (digits 5 m).length) 48 ++ digits 5 m = d4 m := by
  unfold d4
  by_cases h1 : m < 10
  · have e : digits 5 m = [(48 + m).toUInt8] := by simp [digits, h1]
    rw [e]
    have : m / 1000 % 10 = 0 ∧ m / 100 % 10 = 0 ∧ m / 10 % 10 = 0 ∧ m % 10 = m := by omega
    rw [this.1, this.2.1, this.2.2.1, this.2.2.2]; rfl
  · by_cases h2 : m < 100
    · have e : digits 5 m = [(48 + m / 10).toUInt8, (48 + m % 10).toUInt8] := by simp [digits, h1, show m / 10 < 10 by omega]
      rw [e]
      have : m / 1000 % 10 = 0 ∧ m / 100 % 10 = 0 ∧ m / 10 % 10 = m / 10 := by omega
      rw [this.1, this.2.1, this.2.2]; rfl
    · by_cases h3 : m < 1000
      · have e : digits 5 m = [(48 + m / 10 / 10).toUInt8, (48 + m / 10 % 10).toUInt8, (48 + m % 10).toUInt8] := by simp [digits, h1, show ¬ m / 10 < 10 by omega, show m / 10 / 10 < 10 by omega]
        rw [e]
        have : m / 1000 % 10 = 0 ∧ m / 100 % 10 = m / 10 / 10 := by omega
        rw [this.1, this.2]; rfl
      · have e : digits 5 m = [(48 + m / 10 / 10 / 10).toUInt8, (48 + m / 10 / 10 % 10).toUInt8, (48 + m / 10 % 10).toUInt8, (48 + m % 10).toUInt8] := by simp [digits, h1, show ¬ m / 10 < 10 by omega, show ¬ m / 10 / 10 < 10 by omega, show m / 10 / 10 / 10 < 10 by omega]
        rw [e]
        have : m / 1000 % 10 = m / 10 / 10 / 10 ∧ m / 100 % 10 = m / 10 / 10 % 10 := by omega
        rw [this.1, this.2]; rfl

theorem sealOf_ev {G : Nat → List AV} {n : Nat} (hn : 10 ≤ n) (m : Nat) (h : m < 10000) {z : Int} (hz : z = (m : Int)) : (evKR Bk G fsT n).1 0 46 [.int .i64 z] [] ansK = some (.str (d4 m), []) := by
  refine call_open (show fsT.find 46 = some a46 from rfl) (by omega) fun n B cl rd hn' hB hcl hrd => ?_
  have H82 := Write_ev (G := G) 5 (n := n) m hz (by omega) (by omega) (by omega) (by omega)
  rw [← hcl] at H82
  have hl := digits_len 5 m
  conv => lhs; whnf
  repeat' ((first | refine Qx hB H82 ?_ | refine a46_L1_step hB _ _ _ _ _ _ (by omega) (by omega) (by omega) ?_ | refine Q0 hB rfl ?_ | refine Q1 hB (by decide) ?_ | refine Q2 hB (by decide) ?_ | refine Q3 hB (by decide) ?_ | refine Q4 hB (by decide) ?_ | refine Q5 hB (by decide) ?_ | refine Q6 hB (by decide) ?_ | refine Q7 hB (by omega) (by omega) ?_ | refine Q8 hB ?_ | refine Q9 hB ?_ | refine Qa hB ?_ | refine Qb hB (fun _ => ?_) (fun _ => ?_) | refine Qc hB ?_ | refine Qd hB ?_ | refine Qe hB ?_ | refine Qf hB ?_ | refine Qg hB ?_ | refine Qh hB ?_ | refine Qi hB ?_ | refine Qj hB rfl ?_ | refine Qk hB rfl ?_ | refine Ql hB (by first | omega | decide) ?_ | refine Qm hB rfl ?_ | refine Qn hB ?_ | refine Qo hB rfl ?_ | refine Qo hB (Qp rfl) ?_ | refine Qq hB rfl ?_ | refine Qr hB ?_ | refine Qs hB ?_ | refine Qt hB ?_ | refine Qu hB ?_ | refine Qv hB rfl ?_) <;> conv => lhs; whnf)
  rw [seal_text h]
end Go.Ab.Cl

namespace Go.Ab
/-- Cells cut into rows. -/
theorem rowsOf_flat {e : Nat} : ∀ (rows : List (List AV)), (∀ r ∈ rows, r.length = e) → rowsOf e rows.length rows.flatten = rows
  | [], _ => rfl
  | r :: rows, h => by
    have hr := h r (by simp)
    simp only [List.length_cons, rowsOf, List.flatten_cons]
    rw [List.take_append_of_le_length (by omega), ← hr, List.take_length, List.drop_append_of_le_length (by omega), List.drop_length, List.nil_append]
    rw [hr, rowsOf_flat rows fun q hq => h q (by simp [hq])]
theorem flat_len5 {e : Nat} : ∀ (rows : List (List AV)), (∀ r ∈ rows, r.length = e) → rows.flatten.length = rows.length * e
  | [], _ => by simp
  | r :: rows, h => by
    have hr := h r (by simp)
    have := flat_len5 rows fun q hq => h q (by simp [hq])
    simp only [List.flatten_cons, List.length_append, List.length_cons, this, hr, Nat.succ_mul]
    omega
theorem purs_flatten : ∀ (rows : List (List AV)), (∀ r ∈ rows, purs r = true) → purs rows.flatten = true := fun rows h =>
  pures_of fun v hv => by
    obtain ⟨r, hr, hv⟩ := List.mem_flatten.1 hv
    exact pures_mem (h r hr) v hv
theorem hand_os_ok {s : St} {l i e n : Nat} {rows : List (List AV)} (hn : n = rows.length) (hg : getObj s l i = some (.cells rows.flatten)) (he : 0 < e) (hr : ∀ r ∈ rows, r.length = e ∧ purs r = true) :
    hand s (.os l i 0 n e) = some (.sl rows .any) := by
  subst hn
  have h1 := flat_len5 rows (fun r (h : r ∈ rows) => (hr r h).1)
  have h2 := purs_flatten rows (fun r (h : r ∈ rows) => (hr r h).2)
  simp only [hand, hg, List.drop_zero, Nat.zero_add]
  rw [← h1, List.take_length, h2, rowsOf_flat rows (fun r (h : r ∈ rows) => (hr r h).1)]
  simp [he]
theorem appo_ok {s : St} {f : Fr} {rows : List (List AV)} {t : Tok} {e bytes : Nat} (hne : rows ≠ []) (hr : ∀ r ∈ rows, r.length = e) (he : 0 < e) (hb : rows.length * bytes ≤ 140737488355328) :
    appoAt (f :: s) e bytes (.sl [] .full) (.sl rows t) = some (.os s.length f.objs.length 0 rows.length e, ⟨f.objs ++ [.cells rows.flatten], f.toks⟩ :: s) := by
  obtain ⟨os, tk⟩ := f
  have hh : headFit e rows = true := by
    cases rows with
    | nil => rfl
    | cons r rows => simp [headFit, hr r (by simp)]
  simp [appoAt, rowsAt, he, hb, newObj, show headFit e [] = true from rfl, hne, hh]
theorem put_flat {e : Nat} {o : Nat} (ho : o < e) (v : AV) : ∀ (rows : List (List AV)) (i : Nat) (row : List AV), (∀ r ∈ rows, r.length = e) → rows[i]? = some row → putAt rows.flatten (i * e + o) [v] = (rows.set i (row.set o v)).flatten
  | [], i, row, _, h => by simp at h
  | r :: rows, 0, row, hr, h => by
    simp at h
    subst h
    have h1 := hr r (by simp)
    simp only [Nat.zero_mul, Nat.zero_add, List.flatten_cons, List.set_cons_zero, putAt, List.length_singleton]
    rw [List.take_append_of_le_length (by omega), List.drop_append_of_le_length (by omega), List.set_eq_take_append_cons_drop, if_pos (by omega)]
    simp
  | r :: rows, i + 1, row, hr, h => by
    have h1 := hr r (by simp)
    have ih := put_flat ho v rows i row (fun q hq => hr q (by simp [hq])) (by simpa using h)
    simp only [putAt, List.length_singleton, List.flatten_cons, List.set_cons_succ] at *
    rw [← ih]
    have e1 : (i + 1) * e + o = r.length + (i * e + o) := by rw [h1, Nat.succ_mul]; omega
    rw [e1, List.take_append, List.take_of_length_le (by omega), show r.length + (i * e + o) - r.length = i * e + o by omega, show r.length + (i * e + o) + 1 = r.length + (i * e + o + 1) by omega, List.drop_append, List.drop_of_length_le (by omega), show r.length + (i * e + o + 1) - r.length = i * e + o + 1 by omega]
    simp
end Go.Ab
namespace Go.Ab.Cl
open Go.Ab

def agree : List UInt8 → List UInt8 → Bool
  | [], _ => true
  | _ :: _, [] => false
  | c :: r, o :: q => (decide ((c.toNat : Int) = 63) || decide ((c.toNat : Int) = o.toNat)) && agree r q

theorem d4_get {m : Nat} : ((d4 m)[0]!.toNat : Int) = 48 + (m / 1000 % 10 : Nat) ∧ ((d4 m)[1]!.toNat : Int) = 48 + (m / 100 % 10 : Nat) ∧ ((d4 m)[2]!.toNat : Int) = 48 + (m / 10 % 10 : Nat) ∧ ((d4 m)[3]!.toNat : Int) = 48 + (m % 10 : Nat) := by
  have hn : ∀ x : Nat, x < 10 → (((48 + x).toUInt8).toNat : Int) = 48 + (x : Int) := by
    intro x hx
    simp [Nat.toUInt8, UInt8.toNat_ofNat']
    omega
  exact ⟨hn _ (by omega), hn _ (by omega), hn _ (by omega), hn _ (by omega)⟩

/-- What the program reads of a seal is what the digits say. -/
theorem sealB_agree {b : Box} {p : Parcel} {m : Nat} (hs : okSeal b.mark = true) (hm : p.mark = (m : Int)) : sealB b p = agree b.mark (d4 m) := by
  have hl : b.mark = [] ∨ b.mark.length = 4 := by
    simp only [okSeal, Bool.and_eq_true, Bool.or_eq_true, beq_iff_eq, List.isEmpty_iff] at hs
    exact hs.1
  rcases hl with h | h
  · simp [sealB, h, sealGo, agree]
  · match hmk : b.mark, h with
    | [c0, c1, c2, c3], _ =>
      have t1 : (m : Int).tdiv 10 = ((m / 10 : Nat) : Int) := rfl
      have t2 : ((m / 10 : Nat) : Int).tdiv 10 = ((m / 100 : Nat) : Int) := by show ((m / 10 / 10 : Nat) : Int) = _; rw [Nat.div_div_eq_div_mul]
      have t3 : ((m / 100 : Nat) : Int).tdiv 10 = ((m / 1000 : Nat) : Int) := by show ((m / 100 / 10 : Nat) : Int) = _; rw [Nat.div_div_eq_div_mul]
      have r0 : (m : Int).tmod 10 = ((m % 10 : Nat) : Int) := rfl
      have r1 : ((m / 10 : Nat) : Int).tmod 10 = ((m / 10 % 10 : Nat) : Int) := rfl
      have r2 : ((m / 100 : Nat) : Int).tmod 10 = ((m / 100 % 10 : Nat) : Int) := rfl
      have r3 : ((m / 1000 : Nat) : Int).tmod 10 = ((m / 1000 % 10 : Nat) : Int) := rfl
      obtain ⟨g0, g1, g2, g3⟩ := d4_get (m := m)
      have e0 : (d4 m)[0]! = (48 + m / 1000 % 10).toUInt8 := rfl
      have e1 : (d4 m)[1]! = (48 + m / 100 % 10).toUInt8 := rfl
      have e2 : (d4 m)[2]! = (48 + m / 10 % 10).toUInt8 := rfl
      have e3 : (d4 m)[3]! = (48 + m % 10).toUInt8 := rfl
      rw [e0] at g0
      rw [e1] at g1
      rw [e2] at g2
      rw [e3] at g3
      unfold sealB
      rw [hmk, hm]
      simp only [List.reverse_cons, List.reverse_nil, List.nil_append, List.cons_append, sealGo, agree, d4, t1, t2, t3, r0, r1, r2, r3, g0, g1, g2, g3, Bool.and_true]
      have k : ∀ (x y : Int), decide (x - 48 = y) = decide (x = 48 + y) := fun x y => by
        rw [decide_eq_decide]; omega
      simp only [k]
      generalize (decide ((c0.toNat : Int) = 63) || decide ((c0.toNat : Int) = 48 + ((m / 1000 % 10 : Nat) : Int))) = x0
      generalize (decide ((c1.toNat : Int) = 63) || decide ((c1.toNat : Int) = 48 + ((m / 100 % 10 : Nat) : Int))) = x1
      generalize (decide ((c2.toNat : Int) = 63) || decide ((c2.toNat : Int) = 48 + ((m / 10 % 10 : Nat) : Int))) = x2
      generalize (decide ((c3.toNat : Int) = 63) || decide ((c3.toNat : Int) = 48 + ((m % 10 : Nat) : Int))) = x3
      cases x0 <;> cases x1 <;> cases x2 <;> cases x3 <;> rfl

theorem box_len {bs : List Box} : ∀ r ∈ bs.map Box.c, r.length = 5 := by
  intro r hr
  obtain ⟨b, _, rfl⟩ := List.mem_map.1 hr
  rfl
theorem box_pur {bs : List Box} : ∀ r ∈ bs.map Box.c, r.length = 5 ∧ purs r = true := by
  intro r hr
  obtain ⟨b, _, rfl⟩ := List.mem_map.1 hr
  exact ⟨rfl, rfl⟩
theorem box_put {bs : List Box} {i : Nat} {b : Box} (hb : bs[i]? = some b) (m : List UInt8) : putAt (bs.map Box.c).flatten (i * 5 + 3) [.str m] = ((bs.set i { b with mark := m }).map Box.c).flatten := by
  rw [put_flat (by omega) _ _ i b.c box_len (by simp [hb])]
  congr 1
  rw [List.map_set]
  rfl
theorem slstr_hi {s : List UInt8} {m : Nat} {z : Int} (hz : z = (m : Int)) (h : m ≤ s.length) : slstrAV (.str s) none (some (.int .i64 z)) = some (.str (s.take m)) := by
  subst hz
  simp [slstrAV, optBound, bound, h]
theorem slstr_lo {s : List UInt8} {m : Nat} {z : Int} (hz : z = (m : Int)) (h : m ≤ s.length) : slstrAV (.str s) (some (.int .i64 z)) none = some (.str (s.drop m)) := by
  subst hz
  simp [slstrAV, optBound, bound, h]

/-- A digit less. -/
theorem agree_less : ∀ (s o : List UInt8) (m : Nat), m < s.length → agree s o = true → agree (s.take m ++ 63 :: s.drop (m + 1)) o = true
  | [], _, _, h, _ => by simp at h
  | c :: r, [], _, _, h => by simp [agree] at h
  | c :: r, o :: q, 0, _, h => by
    simp only [agree, Bool.and_eq_true] at h
    simp [agree, h.2]
  | c :: r, o :: q, m + 1, hm, h => by
    simp only [agree, Bool.and_eq_true] at h
    have := agree_less r q m (by simpa using hm) h.2
    simp only [List.take_succ_cons, List.drop_succ_cons, List.cons_append, agree, Bool.and_eq_true]
    exact ⟨h.1, this⟩
theorem okSeal_less {s : List UInt8} {m : Nat} (hm : m < s.length) (h : okSeal s = true) : okSeal (s.take m ++ 63 :: s.drop (m + 1)) = true := by
  have h4 : s.length = 4 := by
    simp only [okSeal, Bool.and_eq_true, Bool.or_eq_true, beq_iff_eq, List.isEmpty_iff] at h
    rcases h.1 with h | h
    · subst h; simp at hm
    · exact h
  simp only [okSeal, Bool.and_eq_true] at h ⊢
  refine ⟨by simp; omega, ?_⟩
  rw [List.all_eq_true] at *
  intro x hx
  rcases List.mem_append.1 hx with hx | hx
  · exact h.2 x (List.mem_of_mem_take hx)
  · rcases List.mem_cons.1 hx with rfl | hx
    · rfl
    · exact h.2 x (List.mem_of_mem_drop hx)

/-- A desk with another seal on a box. -/
def Desk.put (d : Desk) (i : Nat) (b : Box) (m : List UInt8) : Desk := { d with bs := d.bs.set i { b with mark := m }, tb := .any }
theorem put_check {d : Desk} {i : Nat} {b : Box} {m : List UInt8} (hc : d.check = true) (hb : d.bs[i]? = some b) (hm : okSeal m = true) : (d.put i b m).check = true := by
  have e : (d.put i b m).check = (isSpan d.lo d.hi 0 400 && within d.wear 0 5000 && within d.strange 0 6 && decide (d.ps.length ≤ 8) && decide ((d.bs.set i { b with mark := m }).length ≤ 6) && d.ps.all okParcel && (d.bs.set i { b with mark := m }).all okBox) := rfl
  rw [e]
  simp only [Desk.check, Bool.and_eq_true, decide_eq_true_eq, List.length_set, List.all_eq_true] at *
  refine ⟨hc.1, fun x hx => ?_⟩
  rcases List.mem_or_eq_of_mem_set hx with hx | rfl
  · exact hc.2 x hx
  · have := hc.2 b (List.mem_of_getElem? hb)
    simp only [okBox, Bool.and_eq_true] at *
    exact ⟨this.1, hm⟩
theorem put_ok {d : Desk} {i : Nat} {b : Box} {m : List UInt8} (hd : d.ok) (hm : m.length ≤ 4) : (d.put i b m).ok where
  tp := hd.tp
  tb := rfl
  ps := hd.ps
  bs := by simpa [Desk.put] using hd.bs
  str x hx := by
    rcases List.mem_or_eq_of_mem_set hx with hx | rfl
    · exact hd.str x hx
    · show m.length ≤ _; omega
theorem couldR_in {d : Desk} {i k : Nat} {b : Box} {p : Parcel} {zi zk : Int} (hc : d.check = true) (hb : d.bs[i]? = some b) (hp : d.ps[k]? = some p) (hzi : zi = (i : Int)) (hzk : zk = (k : Int)) : couldR d zi zk = (couldB d b p, 0) := by
  have hi : i < d.bs.length := by
    rcases Nat.lt_or_ge i d.bs.length with h | h
    · exact h
    · rw [List.getElem?_eq_none h] at hb; cases hb
  have hk : k < d.ps.length := by
    rcases Nat.lt_or_ge k d.ps.length with h | h
    · exact h
    · rw [List.getElem?_eq_none h] at hp; cases hp
  unfold couldR
  rw [if_pos hc, if_pos ⟨by simp [within]; omega, by simp [within]; omega⟩, hzi, hzk]
  simp [hb, hp]
end Go.Ab.Cl
