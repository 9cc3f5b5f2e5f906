/-
  The claims, plain: truths; what the best value of the boxes says of them.
-/
import Derived.Test.YthbekoofiienjaaDoorClP
namespace Go.Ab.Cl
open Go.Ab

def fit0 (d : Desk) (i k : Nat) : Bool := match d.bs[i]?, d.ps[k]? with
  | some b, some p => couldB d b p
  | _, _ => false
theorem fits_fit {d : Desk} {i t k : Nat} : fitsB d i t k = (!t.testBit k && fit0 d i k) := by
  unfold fitsB fit0
  cases d.bs[i]? <;> cases d.ps[k]? <;> simp
theorem fit_lt {d : Desk} {i k : Nat} (h : fit0 d i k = true) : i < d.bs.length ∧ k < d.ps.length := by
  unfold fit0 at h
  split at h
  · rename_i b p hb hp
    exact ⟨(List.getElem?_eq_some_iff.1 hb).1, (List.getElem?_eq_some_iff.1 hp).1⟩
  · cases h
theorem optsFrom_iff {d : Desk} {i t : Nat} {z : Int} : z ∈ optsFrom d i t 0 ↔ ∃ k : Nat, z = (k : Int) ∧ fitsB d i t k = true := by
  unfold optsFrom
  simp only [List.mem_map, List.mem_filter, List.mem_range']
  constructor
  · rintro ⟨k, ⟨_, h3⟩, rfl⟩; exact ⟨k, rfl, h3⟩
  · rintro ⟨k, rfl, h⟩
    have h2 := h
    rw [fits_fit, Bool.and_eq_true] at h2
    exact ⟨k, ⟨⟨k, by have := (fit_lt h2.2).2; omega, by omega⟩, h⟩, rfl⟩
theorem opts_iff {d : Desk} {i t : Nat} {z : Int} : z ∈ opts d i t ↔ (z = -1 ∧ oddB d i = true) ∨ ∃ k : Nat, z = (k : Int) ∧ fitsB d i t k = true := by
  unfold opts
  split
  · rename_i h
    rw [List.mem_cons, optsFrom_iff]
    simp [h]
  · rename_i h
    rw [optsFrom_iff]
    simp [h]

/-- What parcels are worth. -/
def val (d : Desk) : List Int → Int
  | [] => 0
  | k :: l => (if k = -1 then 0 else valueOf d k.toNat) + val d l

/-- The last m boxes, chosen one after the other. -/
def Ch (d : Desk) (g : Nat → Option Int) (i t : Nat) (st : Int) (rest : Nat → Int → List Int → Prop) (k : Int) (l : List Int) : Prop :=
  clash g i k = false ∧ if k = -1 then st + 1 ≤ d.strange ∧ rest t (st + 1) l else rest (t ||| 1 <<< k.toNat) st l
def Suf (d : Desk) (g : Nat → Option Int) : Nat → Nat → Int → List Int → Prop
  | 0, _, _, l => l = []
  | m + 1, t, st, l => ∃ k l', l = k :: l' ∧ k ∈ opts d (d.bs.length - (m + 1)) t ∧ Ch d g (d.bs.length - (m + 1)) t st (Suf d g m) k l'

/-- What it means to be the best of some values. -/
structure Better (by_ : Int → Int → Int) (R : Int → Int → Prop) : Prop where
  or : ∀ a b, by_ a b = a ∨ by_ a b = b
  l : ∀ a b, R (by_ a b) a
  r : ∀ a b, R (by_ a b) b
  refl : ∀ a, R a a
  trans : ∀ a b c, R a b → R b c → R a c
  add : ∀ a b v, R a b → R (v + a) (v + b)

def IsBest (R : Int → Int → Prop) (out : Int) (S : Int → Prop) : Prop := (out = -1 ∧ ∀ v, ¬ S v) ∨ (0 ≤ out ∧ S out ∧ ∀ v, S v → R out v)

theorem step_best {d : Desk} {by_ : Int → Int → Int} {R : Int → Int → Prop} (hb : Better by_ R) (hc : d.check = true) (g : Nat → Option Int) (i t : Nat) (st : Int) {rw_ : Nat → Int → Int} {rs : Nat → Int → List Int → Prop}
    (hr : ∀ t st, IsBest R (rw_ t st) (fun v => ∃ l, rs t st l ∧ v = val d l)) {out : Int} {S : Int → Prop} (ho : IsBest R out S) (k : Int) :
    IsBest R (stepW d by_ g i t st rw_ out k) (fun v => S v ∨ ∃ l, Ch d g i t st rs k l ∧ v = val d (k :: l)) := by
  have key : ∀ (w vk : Int) (T : Int → Prop), 0 ≤ vk → IsBest R w T → (∀ v, (∃ l, Ch d g i t st rs k l ∧ v = val d (k :: l)) ↔ ∃ u, T u ∧ v = vk + u) → IsBest R (comb by_ out w vk) (fun v => S v ∨ ∃ l, Ch d g i t st rs k l ∧ v = val d (k :: l)) := by
    intro w vk T hvk hw hT
    unfold comb
    rcases hw with ⟨hw1, hw2⟩ | ⟨hw1, hw2, hw3⟩
    · rw [if_pos hw1]
      have hno : ∀ v, ¬ ∃ l, Ch d g i t st rs k l ∧ v = val d (k :: l) := fun v h => by
        obtain ⟨u, hu, _⟩ := (hT v).1 h
        exact hw2 u hu
      rcases ho with ⟨h1, h2⟩ | ⟨h1, h2, h3⟩
      · exact .inl ⟨h1, fun v hv => hv.elim (h2 v) (hno v)⟩
      · exact .inr ⟨h1, .inl h2, fun v hv => hv.elim (h3 v) (fun h => absurd h (hno v))⟩
    · rw [if_neg (by omega)]
      have hin : ∃ l, Ch d g i t st rs k l ∧ vk + w = val d (k :: l) := (hT _).2 ⟨w, hw2, rfl⟩
      have hbd : ∀ v, (∃ l, Ch d g i t st rs k l ∧ v = val d (k :: l)) → R (vk + w) v := fun v h => by
        obtain ⟨u, hu, rfl⟩ := (hT v).1 h
        exact hb.add _ _ _ (hw3 u hu)
      rw [show w + vk = vk + w by omega]
      rcases ho with ⟨h1, h2⟩ | ⟨h1, h2, h3⟩
      · rw [if_pos h1]
        have e : by_ (vk + w) (vk + w) = vk + w := by rcases hb.or (vk + w) (vk + w) with h | h <;> exact h
        rw [e]
        exact .inr ⟨by omega, .inr hin, fun v hv => hv.elim (fun h => absurd h (h2 v)) (hbd v)⟩
      · rw [if_neg (by omega)]
        refine .inr ⟨?_, ?_, fun v hv => ?_⟩
        · rcases hb.or out (vk + w) with h | h <;> rw [h] <;> omega
        · rcases hb.or out (vk + w) with h | h <;> rw [h]
          · exact .inl h2
          · exact .inr hin
        · rcases hv with hv | hv
          · exact hb.trans _ _ _ (hb.l _ _) (h3 v hv)
          · exact hb.trans _ _ _ (hb.r _ _) (hbd v hv)
  have skip : (∀ l, ¬ Ch d g i t st rs k l) → IsBest R out (fun v => S v ∨ ∃ l, Ch d g i t st rs k l ∧ v = val d (k :: l)) := by
    intro hn
    rcases ho with ⟨h1, h2⟩ | ⟨h1, h2, h3⟩
    · exact .inl ⟨h1, fun v hv => hv.elim (h2 v) (fun ⟨l, h, _⟩ => hn l h)⟩
    · exact .inr ⟨h1, .inl h2, fun v hv => hv.elim (h3 v) (fun ⟨l, h, _⟩ => absurd h (hn l))⟩
  unfold stepW
  by_cases hcl : clash g i k = true
  · rw [if_pos hcl]
    exact skip fun l h => by rw [h.1] at hcl; cases hcl
  · have hcl' : clash g i k = false := by simpa using hcl
    rw [if_neg hcl]
    by_cases hk : k = -1
    · rw [if_pos hk]
      by_cases hs : d.strange < st + 1
      · rw [if_pos hs]
        exact skip fun l h => by have := h.2; rw [if_pos hk] at this; omega
      · rw [if_neg hs]
        refine key _ 0 _ (by omega) (hr t (st + 1)) fun v => ?_
        constructor
        · rintro ⟨l, h, rfl⟩
          have h2 := h.2
          rw [if_pos hk] at h2
          exact ⟨_, ⟨l, h2.2, rfl⟩, by simp [val, hk]⟩
        · rintro ⟨u, ⟨l, h, rfl⟩, rfl⟩
          exact ⟨l, ⟨hcl', by rw [if_pos hk]; exact ⟨by omega, h⟩⟩, by simp [val, hk]⟩
    · rw [if_neg hk]
      refine key _ (valueOf d k.toNat) _ (value_in hc _).1 (hr _ st) fun v => ?_
      constructor
      · rintro ⟨l, h, rfl⟩
        have h2 := h.2
        rw [if_neg hk] at h2
        exact ⟨_, ⟨l, h2, rfl⟩, by simp [val, hk]⟩
      · rintro ⟨u, ⟨l, h, rfl⟩, rfl⟩
        exact ⟨l, ⟨hcl', by rw [if_neg hk]; exact h⟩, by simp [val, hk]⟩

theorem best_congr {R : Int → Int → Prop} {out : Int} {S T : Int → Prop} (h : IsBest R out S) (e : ∀ v, S v ↔ T v) : IsBest R out T := by
  have : S = T := funext fun v => propext (e v)
  rw [← this]; exact h

theorem fold_best {d : Desk} {by_ : Int → Int → Int} {R : Int → Int → Prop} (hb : Better by_ R) (hc : d.check = true) (g : Nat → Option Int) (i t : Nat) (st : Int) {rw_ : Nat → Int → Int} {rs : Nat → Int → List Int → Prop}
    (hr : ∀ t st, IsBest R (rw_ t st) (fun v => ∃ l, rs t st l ∧ v = val d l)) : ∀ (ks : List Int) {out : Int} {S : Int → Prop}, IsBest R out S →
    IsBest R (ks.foldl (stepW d by_ g i t st rw_) out) (fun v => S v ∨ ∃ k l, k ∈ ks ∧ Ch d g i t st rs k l ∧ v = val d (k :: l))
  | [], out, S, ho => best_congr ho fun v => by simp
  | k :: ks, out, S, ho => by
    refine best_congr (fold_best hb hc g i t st hr ks (step_best hb hc g i t st hr ho k)) fun v => ?_
    constructor
    · rintro ((h | ⟨l, h, rfl⟩) | ⟨k', l, h1, h2, rfl⟩)
      · exact .inl h
      · exact .inr ⟨k, l, List.mem_cons_self .., h, rfl⟩
      · exact .inr ⟨k', l, List.mem_cons_of_mem _ h1, h2, rfl⟩
    · rintro (h | ⟨k', l, h1, h2, rfl⟩)
      · exact .inl (.inl h)
      · rcases List.mem_cons.1 h1 with rfl | h1
        · exact .inl (.inr ⟨l, h2, rfl⟩)
        · exact .inr ⟨k', l, h1, h2, rfl⟩

theorem W_best {d : Desk} {by_ : Int → Int → Int} {R : Int → Int → Prop} (hb : Better by_ R) (hc : d.check = true) (g : Nat → Option Int) : ∀ (m t : Nat) (st : Int), IsBest R (W d by_ g m t st) (fun v => ∃ l, Suf d g m t st l ∧ v = val d l)
  | 0, t, st => .inr ⟨by simp [W], ⟨[], rfl, rfl⟩, fun v ⟨l, h, hv⟩ => by
      have h : l = [] := h
      subst h; subst hv; exact hb.refl _⟩
  | m + 1, t, st => by
    have h := fold_best hb hc g (d.bs.length - (m + 1)) t st (fun t st => W_best hb hc g m t st) (opts d (d.bs.length - (m + 1)) t) (out := -1) (S := fun _ => False) (.inl ⟨rfl, fun _ h => h⟩)
    refine best_congr h fun v => ?_
    constructor
    · rintro (h | ⟨k, l, h1, h2, rfl⟩)
      · cases h
      · exact ⟨k :: l, ⟨k, l, rfl, h1, h2⟩, rfl⟩
    · rintro ⟨_, ⟨k, l, rfl, h1, h2⟩, rfl⟩
      exact .inr ⟨k, l, h1, h2, rfl⟩

/-! ### truths, said all at once -/
structure SufD (d : Desk) (g : Nat → Option Int) (i0 t : Nat) (st : Int) (l : List Int) : Prop where
  ok : ∀ (i : Nat) (k : Int), l[i]? = some k → (k = -1 ∧ oddB d (i0 + i) = true) ∨ ∃ n : Nat, k = (n : Int) ∧ fit0 d (i0 + i) n = true ∧ t.testBit n = false
  inj : ∀ (i j n : Nat), l[i]? = some (n : Int) → l[j]? = some (n : Int) → i = j
  few : st + (l.count (-1) : Nat) ≤ d.strange
  free : ∀ (i : Nat) (k : Int), l[i]? = some k → clash g (i0 + i) k = false

theorem bit_or (t n k : Nat) : (t ||| 1 <<< n).testBit k = (t.testBit k || decide (k = n)) := by
  rw [Nat.testBit_or, Nat.testBit_shiftLeft]
  congr 1
  by_cases h : k = n
  · subst h; simp
  · by_cases h2 : k ≥ n
    · have : k - n ≠ 0 := by omega
      obtain ⟨m, hm⟩ := Nat.exists_eq_succ_of_ne_zero this
      simp [h, h2, hm, Nat.testBit_succ]
    · simp [h, h2]

theorem Suf_iff {d : Desk} {g : Nat → Option Int} : ∀ (m t : Nat) (st : Int) (l : List Int), m ≤ d.bs.length → st ≤ d.strange → (Suf d g m t st l ↔ l.length = m ∧ SufD d g (d.bs.length - m) t st l)
  | 0, t, st, l, hm, hst => by
    constructor
    · intro h
      have h : l = [] := h
      subst h
      exact ⟨rfl, fun i k h => by simp at h, fun i j n h => by simp at h, by simpa using hst, fun i k h => by simp at h⟩
    · rintro ⟨h, _⟩
      exact List.length_eq_zero_iff.1 h
  | m + 1, t, st, l, hm, hst => by
    have hadd : ∀ i, d.bs.length - (m + 1) + (i + 1) = d.bs.length - m + i := fun i => by omega
    constructor
    · rintro ⟨k, l', rfl, hk, hcl, hch⟩
      rcases opts_iff.1 hk with ⟨rfl, ho⟩ | ⟨n, rfl, hf⟩
      · rw [if_pos rfl] at hch
        obtain ⟨hs, hr⟩ := hch
        obtain ⟨hl, hd⟩ := (Suf_iff m t (st + 1) l' (by omega) (by omega)).1 hr
        refine ⟨by simp [hl], fun i k h => ?_, fun i j n h1 h2 => ?_, ?_, fun i k h => ?_⟩
        · cases i with
          | zero => simp at h; subst h; exact .inl ⟨rfl, ho⟩
          | succ i => rw [hadd]; exact hd.ok i k (by simpa using h)
        · cases i with
          | zero => simp at h1 <;> omega
          | succ i => cases j with
            | zero => simp at h2 <;> omega
            | succ j => rw [hd.inj i j n (by simpa using h1) (by simpa using h2)]
        · have := hd.few; simp; omega
        · cases i with
          | zero => simp at h; subst h; exact hcl
          | succ i => rw [hadd]; exact hd.free i k (by simpa using h)
      · have hn1 : ¬ ((n : Int) = -1) := by omega
        rw [if_neg hn1] at hch
        rw [fits_fit, Bool.and_eq_true] at hf
        obtain ⟨hf1, hf2⟩ := hf
        obtain ⟨hl, hd⟩ := (Suf_iff m _ st l' (by omega) hst).1 hch
        refine ⟨by simp [hl], fun i k h => ?_, fun i j n' h1 h2 => ?_, ?_, fun i k h => ?_⟩
        · cases i with
          | zero => simp at h; subst h; exact .inr ⟨n, rfl, hf2, by simpa using hf1⟩
          | succ i =>
            rw [hadd]
            rcases hd.ok i k (by simpa using h) with h1 | ⟨n', h1, h2, h3⟩
            · exact .inl h1
            · refine .inr ⟨n', h1, h2, ?_⟩
              simp only [Int.toNat_natCast] at h3
              rw [bit_or, Bool.or_eq_false_iff] at h3
              exact h3.1
        · have hne : ∀ i : Nat, l'[i]? = some (n : Int) → False := fun i h => by
            rcases hd.ok i _ h with h1 | ⟨n'', h1, h2, h3⟩
            · exact hn1 h1.1
            · simp only [Int.toNat_natCast] at h3
              rw [bit_or, Bool.or_eq_false_iff] at h3
              have : n'' = n := by omega
              simp [this] at h3
          cases i with
          | zero =>
            simp at h1
            have : n' = n := by omega
            subst this
            cases j with
            | zero => rfl
            | succ j => exact absurd (by simpa using h2) (fun h => hne j h)
          | succ i => cases j with
            | zero =>
              simp at h2
              have : n' = n := by omega
              subst this
              exact absurd (by simpa using h1) (fun h => hne i h)
            | succ j => rw [hd.inj i j n' (by simpa using h1) (by simpa using h2)]
        · have := hd.few
          rw [List.count_cons_of_ne (by simp)]; exact this
        · cases i with
          | zero => simp at h; subst h; exact hcl
          | succ i => rw [hadd]; exact hd.free i k (by simpa using h)
    · rintro ⟨hl, hd⟩
      cases l with
      | nil => simp at hl
      | cons k l' =>
        have hl' : l'.length = m := by simpa using hl
        have h0 := hd.ok 0 k rfl
        have hf0 := hd.free 0 k rfl
        simp only [Nat.add_zero] at h0 hf0
        refine ⟨k, l', rfl, ?_, hf0, ?_⟩
        · rcases h0 with ⟨h1, h2⟩ | ⟨n, h1, h2, h3⟩
          · exact opts_iff.2 (.inl ⟨h1, h2⟩)
          · exact opts_iff.2 (.inr ⟨n, h1, by rw [fits_fit, h3, h2]; rfl⟩)
        · rcases h0 with ⟨h1, h2⟩ | ⟨n, h1, h2, h3⟩
          · subst h1
            rw [if_pos rfl]
            have hfew := hd.few
            rw [List.count_cons_self] at hfew
            refine ⟨by omega, (Suf_iff m t (st + 1) l' (by omega) (by omega)).2 ⟨hl', fun i k h => ?_, fun i j n h1 h2 => ?_, by omega, fun i k h => ?_⟩⟩
            · rw [← hadd]; exact hd.ok (i + 1) k (by simpa using h)
            · have := hd.inj (i + 1) (j + 1) n (by simpa using h1) (by simpa using h2); omega
            · rw [← hadd]; exact hd.free (i + 1) k (by simpa using h)
          · subst h1
            have hn1 : ¬ ((n : Int) = -1) := by omega
            rw [if_neg hn1]
            refine (Suf_iff m _ st l' (by omega) hst).2 ⟨hl', fun i k h => ?_, fun i j n' h1 h2 => ?_, ?_, fun i k h => ?_⟩
            · rw [← hadd]
              rcases hd.ok (i + 1) k (by simpa using h) with h1 | ⟨n', h1, h4, h5⟩
              · exact .inl h1
              · refine .inr ⟨n', h1, h4, ?_⟩
                simp only [Int.toNat_natCast]
                rw [bit_or, h5]
                simp only [Bool.false_or, decide_eq_false_iff_not]
                rintro rfl
                have := hd.inj 0 (i + 1) n' (by simp) (by rw [h1] at h; simpa using h)
                omega
            · have := hd.inj (i + 1) (j + 1) n' (by simpa using h1) (by simpa using h2); omega
            · have := hd.few
              rw [List.count_cons_of_ne (by simp)] at this; exact this
            · rw [← hadd]; exact hd.free (i + 1) k (by simpa using h)

/-- A truth. -/
structure Tr (d : Desk) (l : List Int) : Prop where
  len : l.length = d.bs.length
  ok : ∀ (i : Nat) (k : Int), l[i]? = some k → (k = -1 ∧ oddB d i = true) ∨ ∃ n : Nat, k = (n : Int) ∧ fit0 d i n = true
  inj : ∀ (i j n : Nat), l[i]? = some (n : Int) → l[j]? = some (n : Int) → i = j
  few : ((l.count (-1) : Nat) : Int) ≤ d.strange
theorem Suf_all {d : Desk} {g : Nat → Option Int} (h0 : 0 ≤ d.strange) {l : List Int} : Suf d g d.bs.length 0 0 l ↔ Tr d l ∧ ∀ (i : Nat) (k : Int), l[i]? = some k → clash g i k = false := by
  rw [Suf_iff _ _ _ _ (Nat.le_refl _) h0, Nat.sub_self]
  constructor
  · rintro ⟨h1, h2⟩
    refine ⟨⟨h1, fun i k h => ?_, h2.inj, by have := h2.few; omega⟩, fun i k h => by have := h2.free i k h; simpa using this⟩
    rcases h2.ok i k h with h3 | ⟨n, h3, h4, _⟩
    · exact .inl (by simpa using h3)
    · exact .inr ⟨n, h3, by simpa using h4⟩
  · rintro ⟨h1, h2⟩
    refine ⟨h1.len, fun i k h => ?_, h1.inj, by have := h1.few; omega, fun i k h => by simpa using h2 i k h⟩
    rcases h1.ok i k h with h3 | ⟨n, h3, h4⟩
    · exact .inl (by simpa using h3)
    · exact .inr ⟨n, h3, by simpa using h4, by simp⟩
end Go.Ab.Cl
