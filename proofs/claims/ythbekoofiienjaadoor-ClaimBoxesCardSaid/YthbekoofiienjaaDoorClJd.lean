/-
  The claims, plain: what the specification's walk through all truths tells.
-/
import Derived.Test.YthbekoofiienjaaDoorClG
import Derived.Test.YthbekoofiienjaaDoorClJa
namespace Go.Ab.Cl
open Go.Ab

/-- What truths have told so far. -/
structure Sn where
  many : Int
  is : List Nat
  all : Nat
  some : Nat
  lo : Int
  hi : Int

/-- The bit of what a box is. -/
def keyOf (P : Nat) (z : Int) : Nat := if z < 0 then P else z.toNat
def markIs (P : Nat) (is : List Nat) (l : List Int) : List Nat := List.zipWith (fun x z => x ||| 1 <<< keyOf P z) is l
def tell (d : Desk) (s : Sn) (l : List Int) (t : Nat) : Sn :=
  if s.many = 0 then ⟨1, markIs d.ps.length s.is l, t, t, val d l, val d l⟩
  else ⟨s.many + 1, markIs d.ps.length s.is l, s.all &&& t, s.some ||| t, loI s.lo (val d l), hiI s.hi (val d l)⟩
def stepS (d : Desk) (rest : List Int → Nat → Int → Sn → Sn) (pre : List Int) (t : Nat) (st : Int) (s : Sn) (k : Int) : Sn :=
  if k = -1 then (if st < d.strange then rest (pre ++ [-1]) t (st + 1) s else s) else rest (pre ++ [k]) (t ||| 1 <<< k.toNat) st s
def walkV (d : Desk) : Nat → List Int → Nat → Int → Sn → Sn
  | 0, pre, t, _, s => tell d s pre t
  | m + 1, pre, t, st, s => (opts d (d.bs.length - (m + 1)) t).foldl (stepS d (walkV d m) pre t st) s

/-- All that truths of a kind tell. -/
structure Tells (d : Desk) (s : Sn) (S : List Int → Prop) (B : Int) : Prop where
  len : s.is.length = d.bs.length
  pos : 0 ≤ s.many
  bnd : s.many ≤ B
  non : s.many = 0 → ∀ l, ¬ S l
  one : s.many ≠ 0 → ∃ l, S l
  is : ∀ b n, b < d.bs.length → ((s.is[b]?.getD 0).testBit n = true ↔ ∃ l z, S l ∧ l[b]? = some z ∧ keyOf d.ps.length z = n)
  all : s.many ≠ 0 → ∀ n, (s.all.testBit n = true ↔ ∀ l, S l → (n : Int) ∈ l)
  some : s.many ≠ 0 → ∀ n, (s.some.testBit n = true ↔ ∃ l, S l ∧ (n : Int) ∈ l)
  lo : s.many ≠ 0 → (∃ l, S l ∧ s.lo = val d l) ∧ ∀ l, S l → s.lo ≤ val d l
  hi : s.many ≠ 0 → (∃ l, S l ∧ s.hi = val d l) ∧ ∀ l, S l → val d l ≤ s.hi
  lt : s.all < 256 ∧ s.some < 256 ∧ ∀ x ∈ s.is, x < 512

theorem one_bit (k n : Nat) : (1 <<< k : Nat).testBit n = decide (n = k) := by
  have := bit_or 0 k n
  simpa using this
theorem shl_lt {k : Nat} (hk : k < 9) : (1 <<< k : Nat) < 512 := by
  have : ∀ k : Fin 9, (1 <<< k.val : Nat) < 512 := by decide
  exact this ⟨k, hk⟩
theorem or_lt9 {a b : Nat} (ha : a < 512) (hb : b < 512) : a ||| b < 512 := Nat.or_lt_two_pow (n := 9) ha hb
theorem or_lt8 {a b : Nat} (ha : a < 256) (hb : b < 256) : a ||| b < 256 := Nat.or_lt_two_pow (n := 8) ha hb
theorem and_lt8 {a b : Nat} (hb : b < 256) : a &&& b < 256 := Nat.and_lt_two_pow (n := 8) a hb
theorem key_lt {P : Nat} {z : Int} (hP : P ≤ 8) (hz : z < P) : keyOf P z < 9 := by
  unfold keyOf; split <;> omega

theorem markIs_get {P : Nat} {is : List Nat} {l : List Int} {b : Nat} {z : Int} (hl : is.length = l.length) (hz : l[b]? = some z) : (markIs P is l)[b]?.getD 0 = (is[b]?.getD 0) ||| 1 <<< keyOf P z := by
  have hb : b < l.length := (List.getElem?_eq_some_iff.1 hz).1
  obtain ⟨_, hz2⟩ := List.getElem?_eq_some_iff.1 hz
  unfold markIs
  rw [List.getElem?_zipWith]
  rw [hz, List.getElem?_eq_getElem (by omega)]
  simp
theorem tells_congr {d : Desk} {s : Sn} {S T : List Int → Prop} {B : Int} (h : Tells d s S B) (e : ∀ l, S l ↔ T l) : Tells d s T B := by
  have : S = T := funext fun l => propext (e l)
  rw [← this]; exact h
theorem tells_le {d : Desk} {s : Sn} {S : List Int → Prop} {B C : Int} (h : Tells d s S B) (e : B ≤ C) : Tells d s S C := ⟨h.len, h.pos, by have := h.bnd; omega, h.non, h.one, h.is, h.all, h.some, h.lo, h.hi, h.lt⟩

theorem tell_tells {d : Desk} (hP : d.ps.length ≤ 8) {s : Sn} {S : List Int → Prop} {B : Int} (h : Tells d s S B) {l : List Int} {t : Nat} (hl : l.length = d.bs.length) (hz : ∀ z ∈ l, z < d.ps.length) (ht : t < 256) (htl : ∀ n, t.testBit n = true ↔ (n : Int) ∈ l) :
    Tells d (tell d s l t) (fun x => S x ∨ x = l) (B + 1) := by
  have h0 := h.pos
  have hB := h.bnd
  have his : ∀ b n, b < d.bs.length → (((markIs d.ps.length s.is l)[b]?.getD 0).testBit n = true ↔ ∃ x z, (S x ∨ x = l) ∧ x[b]? = some z ∧ keyOf d.ps.length z = n) := by
    intro b n hb
    obtain ⟨z, hzb⟩ : ∃ z, l[b]? = some z := ⟨l[b], by simp [hl, hb]⟩
    rw [markIs_get (by rw [h.len, hl]) hzb, Nat.testBit_or, one_bit, Bool.or_eq_true, decide_eq_true_eq, h.is b n hb]
    constructor
    · rintro (⟨x, z, h1, h2, h3⟩ | h1)
      · exact ⟨x, z, .inl h1, h2, h3⟩
      · exact ⟨l, z, .inr rfl, hzb, h1.symm⟩
    · rintro ⟨x, z', h1 | rfl, h2, h3⟩
      · exact .inl ⟨x, z', h1, h2, h3⟩
      · rw [hzb] at h2; cases h2; exact .inr h3.symm
  have hlen : (markIs d.ps.length s.is l).length = d.bs.length := by
    unfold markIs
    rw [List.length_zipWith, h.len, hl, Nat.min_self]
  have hlt : ∀ x ∈ markIs d.ps.length s.is l, x < 512 := by
    intro x hx
    obtain ⟨i, hi, rfl⟩ := List.mem_iff_getElem.1 hx
    have hi2 : i < d.bs.length := by omega
    obtain ⟨z, hzb⟩ : ∃ z, l[i]? = some z := ⟨l[i], by simp [hl, hi2]⟩
    have := markIs_get (P := d.ps.length) (is := s.is) (by rw [h.len, hl]) hzb
    rw [List.getElem?_eq_getElem hi] at this
    simp only [Option.getD_some] at this
    rw [this]
    refine or_lt9 ?_ (shl_lt (key_lt hP (hz z (List.mem_of_getElem? hzb))))
    have hi3 : i < s.is.length := by rw [h.len]; omega
    rw [List.getElem?_eq_getElem hi3, Option.getD_some]
    exact h.lt.2.2 _ (List.getElem_mem _)
  unfold tell
  split
  · rename_i hm
    have hn := h.non hm
    refine ⟨hlen, by show (0 : Int) ≤ 1; omega, by show (1 : Int) ≤ B + 1; omega, fun h => ?_, fun _ => ⟨l, .inr rfl⟩, his, fun _ n => ?_, fun _ n => ?_, fun _ => ?_, fun _ => ?_, ht, ht, hlt⟩
    · have h : (1 : Int) = 0 := h
      omega
    · show t.testBit n = true ↔ _
      rw [htl]
      exact ⟨fun h x hx => hx.elim (fun h => absurd h (hn x)) (fun e => e ▸ h), fun h => h l (.inr rfl)⟩
    · show t.testBit n = true ↔ _
      rw [htl]
      exact ⟨fun h => ⟨l, .inr rfl, h⟩, fun ⟨x, hx, h⟩ => hx.elim (fun h => absurd h (hn x)) (fun e => e ▸ h)⟩
    · exact ⟨⟨l, .inr rfl, rfl⟩, fun x hx => hx.elim (fun h => absurd h (hn x)) (fun e => e ▸ Int.le_refl _)⟩
    · exact ⟨⟨l, .inr rfl, rfl⟩, fun x hx => hx.elim (fun h => absurd h (hn x)) (fun e => e ▸ Int.le_refl _)⟩
  · rename_i hm
    refine ⟨hlen, by show (0 : Int) ≤ s.many + 1; omega, by show s.many + 1 ≤ B + 1; omega, fun h => ?_, fun _ => ⟨l, .inr rfl⟩, his, fun _ n => ?_, fun _ n => ?_, fun _ => ?_, fun _ => ?_, and_lt8 ht, or_lt8 h.lt.2.1 ht, hlt⟩
    · have h : s.many + 1 = 0 := h
      omega
    · show (s.all &&& t).testBit n = true ↔ _
      rw [Nat.testBit_and, Bool.and_eq_true, htl, h.all hm]
      exact ⟨fun ⟨h1, h2⟩ x hx => hx.elim (h1 x) (fun e => e ▸ h2), fun h => ⟨fun x hx => h x (.inl hx), h l (.inr rfl)⟩⟩
    · show (s.some ||| t).testBit n = true ↔ _
      rw [Nat.testBit_or, Bool.or_eq_true, htl, h.some hm]
      constructor
      · rintro (⟨x, h1, h2⟩ | h1)
        · exact ⟨x, .inl h1, h2⟩
        · exact ⟨l, .inr rfl, h1⟩
      · rintro ⟨x, h1 | rfl, h2⟩
        · exact .inl ⟨x, h1, h2⟩
        · exact .inr h2
    · obtain ⟨⟨x, h1, h2⟩, h3⟩ := h.lo hm
      show (∃ y, (S y ∨ y = l) ∧ loI s.lo (val d l) = val d y) ∧ ∀ y, S y ∨ y = l → loI s.lo (val d l) ≤ val d y
      refine ⟨?_, fun y hy => ?_⟩
      · rcases lo_or s.lo (val d l) with h | h <;> rw [h]
        · exact ⟨x, .inl h1, h2⟩
        · exact ⟨l, .inr rfl, rfl⟩
      · rcases hy with hy | rfl
        · have := lo_better.l s.lo (val d l)
          have := h3 y hy
          omega
        · exact lo_better.r s.lo (val d y)
    · obtain ⟨⟨x, h1, h2⟩, h3⟩ := h.hi hm
      show (∃ y, (S y ∨ y = l) ∧ hiI s.hi (val d l) = val d y) ∧ ∀ y, S y ∨ y = l → val d y ≤ hiI s.hi (val d l)
      refine ⟨?_, fun y hy => ?_⟩
      · rcases hi_or s.hi (val d l) with h | h <;> rw [h]
        · exact ⟨x, .inl h1, h2⟩
        · exact ⟨l, .inr rfl, rfl⟩
      · rcases hy with hy | rfl
        · have := hi_better.l s.hi (val d l)
          have := h3 y hy
          omega
        · exact hi_better.r s.hi (val d y)

/-- How many truths there can be. -/
def cnt : Nat → Int
  | 0 => 1
  | m + 1 => 9 * cnt m
theorem cnt_pos : ∀ m, 0 ≤ cnt m
  | 0 => by decide
  | m + 1 => by have := cnt_pos m; simp only [cnt]; omega

/-- What a walk begins with. -/
structure Pre (d : Desk) (m : Nat) (pre : List Int) (t : Nat) : Prop where
  len : pre.length + m = d.bs.length
  lt : ∀ z ∈ pre, z < d.ps.length
  ge : ∀ z ∈ pre, -1 ≤ z
  small : t < 256
  bits : ∀ n, t.testBit n = true ↔ (n : Int) ∈ pre
theorem Pre.odd {d : Desk} {m : Nat} {pre : List Int} {t : Nat} (h : Pre d (m + 1) pre t) : Pre d m (pre ++ [-1]) t where
  len := by have := h.len; simp; omega
  lt z hz := by
    rcases List.mem_append.1 hz with hz | hz
    · exact h.lt z hz
    · simp at hz; omega
  ge z hz := by
    rcases List.mem_append.1 hz with hz | hz
    · exact h.ge z hz
    · simp at hz; omega
  small := h.small
  bits n := by
    rw [h.bits, List.mem_append]
    constructor
    · exact .inl
    · rintro (h | h)
      · exact h
      · simp at h <;> omega
theorem Pre.par {d : Desk} {m : Nat} {pre : List Int} {t k : Nat} (h : Pre d (m + 1) pre t) (hk : k < d.ps.length) (hP : d.ps.length ≤ 8) : Pre d m (pre ++ [(k : Int)]) (t ||| 1 <<< k) where
  len := by have := h.len; simp; omega
  lt z hz := by
    rcases List.mem_append.1 hz with hz | hz
    · exact h.lt z hz
    · simp at hz; omega
  ge z hz := by
    rcases List.mem_append.1 hz with hz | hz
    · exact h.ge z hz
    · simp at hz; omega
  small := bits_lt h.small (by omega)
  bits n := by
    rw [bit_or, Bool.or_eq_true, h.bits, List.mem_append, decide_eq_true_eq, List.mem_singleton]
    constructor
    · rintro (h | h)
      · exact .inl h
      · exact .inr (by omega)
    · rintro (h | h)
      · exact .inl h
      · exact .inr (by omega)

theorem fold_tells {d : Desk} (hP : d.ps.length ≤ 8) {m : Nat} {pre : List Int} {t : Nat} {st : Int} (hp : Pre d (m + 1) pre t)
    (ih : ∀ {pre : List Int} {t : Nat} {st : Int} {s : Sn} {S : List Int → Prop} {B : Int}, Pre d m pre t → Tells d s S B → Tells d (walkV d m pre t st s) (fun x => S x ∨ ∃ l, Suf d (fun _ => none) m t st l ∧ x = pre ++ l) (B + cnt m)) : ∀ (ks : List Int), (∀ k ∈ ks, k ∈ opts d (d.bs.length - (m + 1)) t) → ∀ {s : Sn} {S : List Int → Prop} {B : Int}, Tells d s S B →
    Tells d (ks.foldl (stepS d (walkV d m) pre t st) s) (fun x => S x ∨ ∃ k l, k ∈ ks ∧ Ch d (fun _ => none) (d.bs.length - (m + 1)) t st (Suf d (fun _ => none) m) k l ∧ x = pre ++ k :: l) (B + (ks.length : Nat) * cnt m)
  | [], _, s, S, B, h => by
    refine tells_le (tells_congr h fun l => ?_) (by simp)
    simp
  | k :: ks, hk, s, S, B, h => by
    have hc := cnt_pos m
    have h1 : Tells d (stepS d (walkV d m) pre t st s k) (fun x => S x ∨ ∃ l, Ch d (fun _ => none) (d.bs.length - (m + 1)) t st (Suf d (fun _ => none) m) k l ∧ x = pre ++ k :: l) (B + cnt m) := by
      unfold stepS
      rcases opts_iff.1 (hk k (List.mem_cons_self ..)) with ⟨rfl, ho⟩ | ⟨n, rfl, hf⟩
      · rw [if_pos rfl]
        split
        · rename_i hst
          refine tells_congr (ih (st := st + 1) hp.odd h) fun x => ?_
          constructor
          · rintro (h | ⟨l, h1, rfl⟩)
            · exact .inl h
            · exact .inr ⟨l, ⟨rfl, by rw [if_pos rfl]; exact ⟨by omega, h1⟩⟩, by simp⟩
          · rintro (h | ⟨l, ⟨_, h1⟩, rfl⟩)
            · exact .inl h
            · rw [if_pos rfl] at h1
              exact .inr ⟨l, h1.2, by simp⟩
        · rename_i hst
          refine tells_le (tells_congr h fun x => ?_) (by omega)
          constructor
          · exact .inl
          · rintro (h | ⟨l, ⟨_, h1⟩, rfl⟩)
            · exact h
            · rw [if_pos rfl] at h1
              exact absurd h1.1 (by omega)
      · have hn : ¬ ((n : Int) = -1) := by omega
        rw [if_neg hn, Int.toNat_natCast]
        rw [fits_fit, Bool.and_eq_true] at hf
        refine tells_congr (ih (st := st) (hp.par (fit_lt hf.2).2 hP) h) fun x => ?_
        constructor
        · rintro (h | ⟨l, h1, rfl⟩)
          · exact .inl h
          · exact .inr ⟨l, ⟨rfl, by rw [if_neg hn, Int.toNat_natCast]; exact h1⟩, by simp⟩
        · rintro (h | ⟨l, ⟨_, h1⟩, rfl⟩)
          · exact .inl h
          · rw [if_neg hn, Int.toNat_natCast] at h1
            exact .inr ⟨l, h1, by simp⟩
    have hh := fold_tells hP (st := st) hp ih ks (fun k hk' => hk k (List.mem_cons_of_mem _ hk')) h1
    refine tells_le (tells_congr hh fun x => ?_) ?_
    · constructor
      · rintro ((h | ⟨l, h1, rfl⟩) | ⟨k', l, h1, h2, rfl⟩)
        · exact .inl h
        · exact .inr ⟨k, l, List.mem_cons_self .., h1, rfl⟩
        · exact .inr ⟨k', l, List.mem_cons_of_mem _ h1, h2, rfl⟩
      · rintro (h | ⟨k', l, h1, h2, rfl⟩)
        · exact .inl (.inl h)
        · rcases List.mem_cons.1 h1 with rfl | h1
          · exact .inl (.inr ⟨l, h2, rfl⟩)
          · exact .inr ⟨k', l, h1, h2, rfl⟩
    · simp only [List.length_cons, Int.natCast_add, Int.add_mul]
      omega

theorem opts_len {d : Desk} {i t : Nat} (hP : d.ps.length ≤ 8) : (opts d i t).length ≤ 9 := by
  have : (optsFrom d i t 0).length ≤ d.ps.length := by
    unfold optsFrom
    rw [List.length_map]
    refine Nat.le_trans (List.length_filter_le _ _) ?_
    simp
  unfold opts; split <;> simp <;> omega

theorem walk_tells {d : Desk} (hP : d.ps.length ≤ 8) : ∀ (m : Nat) {pre : List Int} {t : Nat} {st : Int} {s : Sn} {S : List Int → Prop} {B : Int}, Pre d m pre t → Tells d s S B →
    Tells d (walkV d m pre t st s) (fun x => S x ∨ ∃ l, Suf d (fun _ => none) m t st l ∧ x = pre ++ l) (B + cnt m)
  | 0, pre, t, st, s, S, B, hp, h => by
    refine tells_congr (tell_tells hP h (by have := hp.len; omega) hp.lt hp.small hp.bits) fun x => ?_
    constructor
    · rintro (h | rfl)
      · exact .inl h
      · exact .inr ⟨[], rfl, by simp⟩
    · rintro (h | ⟨l, h1, rfl⟩)
      · exact .inl h
      · have h1 : l = [] := h1
        subst h1
        exact .inr (by simp)
  | m + 1, pre, t, st, s, S, B, hp, h => by
    have h1 := fold_tells hP (st := st) hp (fun hp h => walk_tells hP m hp h) (opts d (d.bs.length - (m + 1)) t) (fun _ h => h) h
    have h9 : (opts d (d.bs.length - (m + 1)) t).length ≤ 9 := opts_len hP
    refine tells_le (tells_congr h1 fun x => ?_) ?_
    · constructor
      · rintro (h | ⟨k, l, h1, h2, rfl⟩)
        · exact .inl h
        · exact .inr ⟨k :: l, ⟨k, l, rfl, h1, h2⟩, rfl⟩
      · rintro (h | ⟨_, ⟨k, l, rfl, h1, h2⟩, rfl⟩)
        · exact .inl h
        · exact .inr ⟨k, l, h1, h2, rfl⟩
    · have : ((opts d (d.bs.length - (m + 1)) t).length : Int) * cnt m ≤ 9 * cnt m := Int.mul_le_mul_of_nonneg_right (by omega) (cnt_pos m)
      simp only [cnt]
      omega

/-- What all truths tell. -/
def seenV (d : Desk) : Sn := walkV d d.bs.length [] 0 0 ⟨0, List.replicate d.bs.length 0, 0, 0, 0, 0⟩
theorem tells_none (d : Desk) : Tells d ⟨0, List.replicate d.bs.length 0, 0, 0, 0, 0⟩ (fun _ => False) 0 where
  len := by simp
  pos := by simp
  bnd := by simp
  non _ l h := h
  one h := absurd rfl h
  is b n hb := by simp [hb]
  all h := absurd rfl h
  some h := absurd rfl h
  lo h := absurd rfl h
  hi h := absurd rfl h
  lt := ⟨by show (0 : Nat) < 256; omega, by show (0 : Nat) < 256; omega, fun x hx => by have := List.eq_of_mem_replicate hx; omega⟩
theorem seen_tells {d : Desk} (hc : d.check = true) : Tells d (seenV d) (Tr d) (cnt d.bs.length) := by
  have hs := check_strange hc
  have h := walk_tells (check_fine hc).np d.bs.length (pre := []) (t := 0) (st := 0) ⟨by simp, by simp, by simp, by decide, by simp⟩ (tells_none d)
  refine tells_le (tells_congr h fun x => ?_) (by omega)
  simp only [false_or, List.nil_append, Suf_all hs.1]
  constructor
  · rintro ⟨l, ⟨h, _⟩, rfl⟩; exact h
  · intro h; exact ⟨x, ⟨h, fun _ _ _ => rfl⟩, rfl⟩
end Go.Ab.Cl

namespace Go.Ab.Cl
open Go.Ab

def cellsI (l : List Nat) : List AV := l.map fun x : Nat => .int .i64 (x : Int)
def nats (l : List Nat) : List Int := l.map fun x : Nat => (x : Int)
def Sn.c (s : Sn) (v : AV) : List AV := [.int .i64 s.many, v, .int .i64 (s.all : Int), .int .i64 (s.some : Int), .int .i64 s.lo, .int .i64 s.hi]
/-- A value that stands for numbers, seen from below a frame. -/
def IsV (s : St) (v : AV) (is : List Nat) : Prop := (∃ t, purTok t = true ∧ v = .sl (rowsI (nats is)) t) ∨ ∃ l i, v = .os l i 0 is.length 1 ∧ l < s.length ∧ getObj s l i = some (.cells (cellsI is))
def wt : List Nat → Tok
  | [] => .full
  | _ :: _ => .any
theorem wt_pur (l : List Nat) : purTok (wt l) = true := by cases l <;> rfl
theorem wt_ne {l : List Nat} (h : l ≠ []) : wt l = .any := by cases l <;> first | rfl | exact absurd rfl h
def IsR (v : AV) (is : List Nat) (v' : AV) (is' : List Nat) : Prop := v' = .sl (rowsI (nats is')) (wt is') ∨ (v' = v ∧ is' = is ∧ is ≠ [])
theorem IsR.refl (v : AV) {is : List Nat} (h : is ≠ []) : IsR v is v is := .inr ⟨rfl, rfl, h⟩
theorem IsR.trans {v v' v'' : AV} {is is' is'' : List Nat} (h : IsR v is v' is') (h' : IsR v' is' v'' is'') : IsR v is v'' is'' := by
  rcases h' with h' | ⟨rfl, rfl, _⟩
  · exact .inl h'
  · exact h
theorem IsR.isV {s : St} {v v' : AV} {is is' : List Nat} (h : IsR v is v' is') (hv : IsV s v is) : IsV s v' is' := by
  rcases h with rfl | ⟨rfl, rfl, _⟩
  · exact .inl ⟨_, wt_pur _, rfl⟩
  · exact hv
theorem IsV.up {s : St} {v : AV} {is : List Nat} (h : IsV s v is) (f : Fr) : IsV (f :: s) v is := by
  rcases h with h | ⟨l, i, h1, h2, h3⟩
  · exact .inl h
  · exact .inr ⟨l, i, h1, by simp; omega, (getObj_sub h2).trans h3⟩

theorem clamps_sn {s : St} {D : Nat} (hD : D = s.length) {v : AV} {is : List Nat} (sn : Sn) (hv : IsV s v is) : clamps D (sn.c v) = some (sn.c v) := by
  rcases hv with ⟨t, ht, rfl⟩ | ⟨l, i, rfl, h1, _⟩
  · simp [clamps, clamp, Sn.c, clampTok_pur ht]
  · have : l ≤ D := by omega
    simp [clamps, clamp, Sn.c, this]
theorem a87_L2_step {B : Bnd} (hB : B = Bk) {cl : CallK} {rd : RoundK} (d : Desk) (hd : d.ok) (hc : d.check = true) (i t : Nat) (ht : t < 256) (b : Box) (hb : d.bs[i]? = some b) (st : Int) {zi zt : Int} (hzi : zi = (i : Int)) (hzt : zt = (t : Int))
    (pre : List Int) {tp : Tok} (htp : purTok tp = true) (s : St) {D : Nat} (hD : D = s.length) (z6 : List AV) (rest : List Int → Nat → Int → Sn → Sn)
    (H40 : ∀ k : Nat, k < 9 → cl 0 40 [.int .i64 zt, .int .i64 (k : Int)] [] ansK = some (.bool (t.testBit k), []))
    (H56 : ∀ (k : Nat) (p : Parcel), d.ps[k]? = some p → cl 0 56 [d.v, .int .i64 zi, .int .i64 (k : Int)] [] ansK = some (.bool (couldB d b p), []))
    (H90 : ∀ k : Nat, cl 0 90 [.sl (rowsI pre) tp, .int .i64 (k : Int)] [] ansK = some (.sl (rowsI (pre ++ [(k : Int)])) .any, []))
    (Q : Nat → Sn → Prop)
    (H87 : ∀ (k : Nat) (sn : Sn) (v : AV) (f f' : Fr) (kont : AV → St → Ans) (r : Ans), k < d.ps.length → fitsB d i t k = true → Q k sn → IsV s v sn.is → (∀ v', IsR v sn.is v' (rest (pre ++ [(k : Int)]) (t ||| 1 <<< k) st sn).is → kont (.agg ((rest (pre ++ [(k : Int)]) (t ||| 1 <<< k) st sn).c v')) (f :: f' :: s) = r) →
      cl (D + 1 + 1) 87 [d.v, .sl (rowsI (pre ++ [(k : Int)])) .any, .int .i64 ((t ||| 1 <<< k : Nat) : Int), .int .i64 st, .agg (sn.c v)] (f :: f' :: s) kont = r)
    (hQ : ∀ k sn, k < d.ps.length → fitsB d i t k = true → Q k sn → Q (k + 1) (rest (pre ++ [(k : Int)]) (t ||| 1 <<< k) st sn)) (hQn : ∀ k sn, Q k sn → Q (k + 1) sn) (hQe : ∀ k sn, Q k sn → sn.is ≠ [])
    (n : Nat) (k : Ex → Env → St → Ans) (r : Ans) :
    ∀ (j i0 : Nat) (sn : Sn) (v : AV), d.ps.length < i0 + j → i0 ≤ d.ps.length → Q i0 sn → IsV s v sn.is →
    (∀ v' x, IsR v sn.is v' ((optsFrom d i t i0).foldl (stepS d rest pre t st) sn).is → k (.exit 2) [(1, .sl (rowsI pre) tp), (2, .int .i64 zt), (3, .int .i64 st), (5, .ptr D 0 0), (9, .ptr D 1 0), (10, .ptr D 2 0), (14, .int .i64 zi), (15, .int .i64 x)] (⟨[.cells d.c, .cells (((optsFrom d i t i0).foldl (stepS d rest pre t st) sn).c v'), .cells z6], []⟩ :: s) = r) →
    B.loop (evCK B a87_L2) [1, 2, 3, 5, 9, 10, 14, 15] n j cl rd Gx D (D + 1) [(1, .sl (rowsI pre) tp), (2, .int .i64 zt), (3, .int .i64 st), (5, .ptr D 0 0), (9, .ptr D 1 0), (10, .ptr D 2 0), (14, .int .i64 zi), (15, .int .i64 (.ofNat i0))] (⟨[.cells d.c, .cells (sn.c v), .cells z6], []⟩ :: s) k = r := by
  intro j
  induction j with
  | zero => intro i0 sn v h1 h2; omega
  | succ j ih =>
    intro i0 sn v h1 h2 h3 hv k1
    have hnp := (check_fine hc).np
    have hi := (List.getElem?_eq_some_iff.1 hb).1
    have hnb := (check_fine hc).nb
    have hl2 : ∀ (g g' : Fr), D + 1 + 1 = (g :: g' :: s : St).length := fun _ _ => by simp [hD]
    have hl0 : ∀ (g : Fr), D < (g :: s : St).length := fun _ => by simp [hD]
    refine loop_succ hB ?_
    conv => lhs; whnf
    repeat' ((first
      | refine fnat_pred hB ?_
      | refine obj_step hB (hl2 _ _) ((getObj_sub (hl0 _)).trans ((getObj_top hD).trans rfl)) ?_
      | refine sob_step hB (hl2 _ _) ((setObj_sub (hl0 _)).trans (congrArg (_ :: ·) (setTop1 hD))) ?_
      | refine lt_nat hB (fun h => ?_) (fun h => ?_)
      | refine purs_step hB rfl ?_
      | refine lt_tt hB (by decide) ?_
      | refine lt_ff hB (by decide) ?_
      | refine le_tt hB (by decide) ?_
      | refine le_ff hB (by decide) ?_
      | refine eq_tt hB (by decide) ?_
      | refine eq_ff hB (by decide) ?_
      | refine fint_wrp hB (by omega) (by omega) ?_
      | refine fint_step hB ?_
      | refine fbool_tt hB ?_
      | refine fbool_ff hB ?_
      | refine fbool_split hB (fun _ => ?_) (fun _ => ?_)
      | refine ftok_step hB ?_
      | refine frows_step hB ?_
      | refine fstr_step hB ?_
      | refine len_map hB ?_
      | refine len_step hB ?_
      | refine lens_step hB ?_
      | refine byte_step hB ?_
      | refine drop_step hB rfl ?_
      | refine fl_step hB rfl ?_
      | refine add_one hB (by first | omega | decide) ?_
      | refine opt_step hB rfl ?_
      | refine fnat_step hB ?_
      | refine ifk_step hB rfl ?_
      | refine ifk_step hB (flat_or rfl) ?_
      | refine opt2_step hB rfl ?_
      | refine obj_raw hB ?_
      | refine sob_raw hB ?_
      | refine fst_raw hB ?_
      | refine optl_raw hB ?_
      | refine tok_step hB rfl ?_
      ) <;> conv => lhs; whnf)
    · obtain ⟨p, hp⟩ := meantRow d h
      have hfit : fitsB d i t i0 = (!t.testBit i0 && couldB d b p) := by simp [fitsB, hb, hp]
      have HIn := H40 i0 (by omega)
      have HC := H56 i0 p hp
      have HW := H90 i0
      have hv0 := hv
      rcases hv with ⟨tv, htv, rfl⟩ | ⟨lv, iv, rfl, hlv, hgv⟩
      · conv => lhs; whnf
        repeat' ((first
          | refine fnat_pred hB ?_
          | refine tok_step hB hd.tp ?_
          | refine tok_step hB hd.tb ?_
          | refine tok_step hB htp ?_
          | refine tok_step hB htv ?_
          | refine purs_step hB (by simp [purs, pur, hd.tp, hd.tb, htp]) ?_
          | refine obj_step hB (hl2 _ _) ((getObj_sub (hl0 _)).trans ((getObj_top hD).trans rfl)) ?_
          | refine sob_step hB (hl2 _ _) ((setObj_sub (hl0 _)).trans (congrArg (_ :: ·) (setTop1 hD))) ?_
          | refine pans_bool hB HIn (fun a1 => ?_) (fun a1 => ?_)
          | refine pans_bool hB HC (fun a2 => ?_) (fun a2 => ?_)
          | refine pans_step hB HW ?_
          | refine opt_step hB (shl_ok rfl (by omega)) ?_
          | refine opt_step hB (or_ok hzt ht (by omega)) ?_
          | refine fbool_same hB (by omega) ?_
          | refine fbool_other hB (by omega) ?_
          | refine ifk_step hB (Nat.ble_eq_true_of_le (by omega)) ?_
          | refine optl_step hB (clamps_sn hD _ (hv'.isV hv0)) ?_
          | refine H87 i0 sn _ _ _ _ _ h (by rw [hfit, a1, a2]; rfl) h3 hv0 (fun v' hv' => ?_)
          | refine purs_step hB rfl ?_
          | refine lt_tt hB (by decide) ?_
          | refine lt_ff hB (by decide) ?_
          | refine le_tt hB (by decide) ?_
          | refine le_ff hB (by decide) ?_
          | refine eq_tt hB (by decide) ?_
          | refine eq_ff hB (by decide) ?_
          | refine fint_wrp hB (by omega) (by omega) ?_
          | refine fint_step hB ?_
          | refine fbool_tt hB ?_
          | refine fbool_ff hB ?_
          | refine fbool_split hB (fun _ => ?_) (fun _ => ?_)
          | refine ftok_step hB ?_
          | refine frows_step hB ?_
          | refine fstr_step hB ?_
          | refine len_map hB ?_
          | refine len_step hB ?_
          | refine lens_step hB ?_
          | refine byte_step hB ?_
          | refine drop_step hB rfl ?_
          | refine fl_step hB rfl ?_
          | refine add_one hB (by first | omega | decide) ?_
          | refine opt_step hB rfl ?_
          | refine fnat_step hB ?_
          | refine ifk_step hB rfl ?_
          | refine ifk_step hB (flat_or rfl) ?_
          | refine opt2_step hB rfl ?_
          | refine obj_raw hB ?_
          | refine sob_raw hB ?_
          | refine fst_raw hB ?_
          | refine optl_raw hB ?_
          | refine tok_step hB rfl ?_
          ) <;> conv => lhs; whnf)
        · rw [optsFrom_no h (by rw [hfit, a1]; rfl)] at k1
          rw [clampTok_pur htp]
          exact ih (i0 + 1) sn _ (by omega) (by omega) (hQn _ _ h3) hv0 k1
        · have hf : fitsB d i t i0 = true := by rw [hfit, a1, a2]; rfl
          have hne : ¬ ((i0 : Int) = -1) := by omega
          have hstep : stepS d rest pre t st sn (i0 : Int) = rest (pre ++ [(i0 : Int)]) (t ||| 1 <<< i0) st sn := by
            unfold stepS
            rw [if_neg hne, Int.toNat_natCast]
          rw [optsFrom_yes h hf, List.foldl_cons, hstep] at k1
          rw [clampTok_pur htp]
          exact ih (i0 + 1) _ _ (by omega) (by omega) (hQ i0 sn h hf h3) (hv'.isV hv0) fun v'' x hr => k1 v'' x (hv'.trans hr)
        · rw [optsFrom_no h (by rw [hfit, a1, a2]; rfl)] at k1
          rw [clampTok_pur htp]
          exact ih (i0 + 1) sn _ (by omega) (by omega) (hQn _ _ h3) hv0 k1
      · conv => lhs; whnf
        repeat' ((first
          | refine fnat_pred hB ?_
          | refine tok_step hB hd.tp ?_
          | refine tok_step hB hd.tb ?_
          | refine tok_step hB htp ?_
          | refine fnat_step hB ?_
          | refine purs_step hB (by simp [purs, pur, hd.tp, hd.tb, htp]) ?_
          | refine obj_step hB (hl2 _ _) ((getObj_sub (hl0 _)).trans ((getObj_top hD).trans rfl)) ?_
          | refine sob_step hB (hl2 _ _) ((setObj_sub (hl0 _)).trans (congrArg (_ :: ·) (setTop1 hD))) ?_
          | refine pans_bool hB HIn (fun a1 => ?_) (fun a1 => ?_)
          | refine pans_bool hB HC (fun a2 => ?_) (fun a2 => ?_)
          | refine pans_step hB HW ?_
          | refine opt_step hB (shl_ok rfl (by omega)) ?_
          | refine opt_step hB (or_ok hzt ht (by omega)) ?_
          | refine fbool_same hB (by omega) ?_
          | refine fbool_other hB (by omega) ?_
          | refine ifk_step hB (Nat.ble_eq_true_of_le (by omega)) ?_
          | refine optl_step hB (clamps_sn hD _ (hv'.isV hv0)) ?_
          | refine H87 i0 sn _ _ _ _ _ h (by rw [hfit, a1, a2]; rfl) h3 hv0 (fun v' hv' => ?_)
          | refine purs_step hB rfl ?_
          | refine lt_tt hB (by decide) ?_
          | refine lt_ff hB (by decide) ?_
          | refine le_tt hB (by decide) ?_
          | refine le_ff hB (by decide) ?_
          | refine eq_tt hB (by decide) ?_
          | refine eq_ff hB (by decide) ?_
          | refine fint_wrp hB (by omega) (by omega) ?_
          | refine fint_step hB ?_
          | refine fbool_tt hB ?_
          | refine fbool_ff hB ?_
          | refine fbool_split hB (fun _ => ?_) (fun _ => ?_)
          | refine ftok_step hB ?_
          | refine frows_step hB ?_
          | refine fstr_step hB ?_
          | refine len_map hB ?_
          | refine len_step hB ?_
          | refine lens_step hB ?_
          | refine byte_step hB ?_
          | refine drop_step hB rfl ?_
          | refine fl_step hB rfl ?_
          | refine add_one hB (by first | omega | decide) ?_
          | refine opt_step hB rfl ?_
          | refine fnat_step hB ?_
          | refine ifk_step hB rfl ?_
          | refine ifk_step hB (flat_or rfl) ?_
          | refine opt2_step hB rfl ?_
          | refine obj_raw hB ?_
          | refine sob_raw hB ?_
          | refine fst_raw hB ?_
          | refine optl_raw hB ?_
          | refine tok_step hB rfl ?_
          ) <;> conv => lhs; whnf)
        · rw [optsFrom_no h (by rw [hfit, a1]; rfl)] at k1
          rw [clampTok_pur htp]
          exact ih (i0 + 1) sn _ (by omega) (by omega) (hQn _ _ h3) hv0 k1
        · have hf : fitsB d i t i0 = true := by rw [hfit, a1, a2]; rfl
          have hne : ¬ ((i0 : Int) = -1) := by omega
          have hstep : stepS d rest pre t st sn (i0 : Int) = rest (pre ++ [(i0 : Int)]) (t ||| 1 <<< i0) st sn := by
            unfold stepS
            rw [if_neg hne, Int.toNat_natCast]
          rw [optsFrom_yes h hf, List.foldl_cons, hstep] at k1
          rw [clampTok_pur htp]
          exact ih (i0 + 1) _ _ (by omega) (by omega) (hQ i0 sn h hf h3) (hv'.isV hv0) fun v'' x hr => k1 v'' x (hv'.trans hr)
        · rw [optsFrom_no h (by rw [hfit, a1, a2]; rfl)] at k1
          rw [clampTok_pur htp]
          exact ih (i0 + 1) sn _ (by omega) (by omega) (hQn _ _ h3) hv0 k1
    · repeat' ((first
        | refine ifk_step hB (Nat.ble_eq_true_of_le (by omega)) ?_
        | refine tok_step hB htp ?_
        | refine purs_step hB rfl ?_
        | refine lt_tt hB (by decide) ?_
        | refine lt_ff hB (by decide) ?_
        | refine le_tt hB (by decide) ?_
        | refine le_ff hB (by decide) ?_
        | refine eq_tt hB (by decide) ?_
        | refine eq_ff hB (by decide) ?_
        | refine fint_wrp hB (by omega) (by omega) ?_
        | refine fint_step hB ?_
        | refine fbool_tt hB ?_
        | refine fbool_ff hB ?_
        | refine fbool_split hB (fun _ => ?_) (fun _ => ?_)
        | refine ftok_step hB ?_
        | refine frows_step hB ?_
        | refine fstr_step hB ?_
        | refine len_map hB ?_
        | refine len_step hB ?_
        | refine lens_step hB ?_
        | refine byte_step hB ?_
        | refine drop_step hB rfl ?_
        | refine fl_step hB rfl ?_
        | refine add_one hB (by first | omega | decide) ?_
        | refine opt_step hB rfl ?_
        | refine fnat_step hB ?_
        | refine ifk_step hB rfl ?_
        | refine ifk_step hB (flat_or rfl) ?_
        | refine opt2_step hB rfl ?_
        | refine obj_raw hB ?_
        | refine sob_raw hB ?_
        | refine fst_raw hB ?_
        | refine optl_raw hB ?_
        | refine tok_step hB rfl ?_
        ) <;> conv => lhs; whnf)
      have hi : i0 = d.ps.length := by omega
      subst hi
      rw [optsFrom_end (Nat.le_refl _)] at k1
      rw [clampTok_pur htp]
      exact k1 v _ (IsR.refl _ (hQe _ _ h3))
end Go.Ab.Cl

namespace Go.Ab.Cl
open Go.Ab

theorem cellsI_app (a b : List Nat) : cellsI (a ++ b) = cellsI a ++ cellsI b := by simp [cellsI]
theorem cellsI_len (a : List Nat) : (cellsI a).length = a.length := by simp [cellsI]
theorem cellsI_drop {done rest : List Nat} {x i : Nat} (hi : i = done.length) : (cellsI (done ++ x :: rest)).drop (Nat.add 0 (Nat.mul i 1)) = .int .i64 (x : Int) :: cellsI rest := by
  have : Nat.add 0 (Nat.mul i 1) = (cellsI done).length := by rw [cellsI_len, ← hi]; simp
  rw [this, cellsI_app, List.drop_left]
  rfl
theorem cellsI_put {done rest : List Nat} {x y i : Nat} (hi : i = done.length) : putAt (cellsI (done ++ x :: rest)) (Nat.add 0 (Nat.mul i 1)) [.int .i64 (y : Int)] = cellsI ((done ++ [y]) ++ rest) := by
  have h : Nat.add 0 (Nat.mul i 1) = (cellsI done).length := by rw [cellsI_len, ← hi]; simp
  rw [h, cellsI_app, cellsI_app, cellsI_app]
  simp [putAt, cellsI, List.drop_append]
theorem flat_int : ∀ (l : List Nat), (rowsI (nats l)).flatten = cellsI l
  | [] => rfl
  | x :: l => by
    have := flat_int l
    simp only [rowsI, nats, cellsI, List.map_cons, List.flatten_cons] at *
    rw [this]; rfl
theorem rows_int {l : List Nat} : rowsOf 1 l.length (cellsI l) = rowsI (nats l) := by
  rw [← flat_int]
  have := rowsOf_flat (e := 1) (rowsI (nats l)) (by simp [rowsI])
  simpa [rowsI, nats] using this
theorem cells_pur (l : List Nat) : purs (cellsI l) = true := pures_of fun v hv => by
  simp only [cellsI, List.mem_map] at hv
  obtain ⟨x, _, rfl⟩ := hv
  rfl
theorem rowsAt_v {s : St} {v : AV} {is : List Nat} (hv : IsV s v is) : rowsAt s 1 v = some (rowsI (nats is)) := by
  rcases hv with ⟨t, ht, rfl⟩ | ⟨l, i, rfl, h1, h2⟩
  · rfl
  · have h3 : is.length ≤ (cellsI is).length := by rw [cellsI_len]; omega
    have h4 : purs ((cellsI is).take is.length) = true := by rw [List.take_of_length_le (by rw [cellsI_len]; omega)]; exact cells_pur is
    simp [rowsAt, h2, h3, h4, rows_int]
theorem appo_v {s : St} {f : Fr} {v : AV} {is : List Nat} (hv : IsV (f :: s) v is) (hl : is.length ≤ 1000) : appoAt (f :: s) 1 8 (.sl [] .full) v = some (if is = [] then (.sl [] .full, f :: s) else (.os s.length f.objs.length 0 is.length 1, ⟨f.objs ++ [.cells (cellsI is)], f.toks⟩ :: s)) := by
  obtain ⟨os, tk⟩ := f
  cases is with
  | nil => simp [appoAt, rowsAt_v hv, rowsI, nats]
  | cons x is =>
    have h1 := flat_int (x :: is)
    simp only [rowsI, nats, List.map_cons] at h1
    have h2 : (is.length + 1) * 8 ≤ 140737488355328 := by simp at hl; omega
    simp [appoAt, rowsAt_v hv, newObj, rowsI, nats, headFit, h2, h1] <;> simpa using h1

theorem cells_room {done rest : List Nat} {x i : Nat} (hi : i = done.length) : Nat.ble (Nat.add (Nat.add 0 (Nat.mul i 1)) 1) (lenK (cellsI (done ++ x :: rest))) = true := by
  rw [lenK_eq, cellsI_len]
  refine Nat.ble_eq_true_of_le ?_
  show 0 + i * 1 + 1 ≤ _
  simp; omega
theorem val_cons (d : Desk) (z : Int) (l : List Int) : val d (z :: l) = (if z = -1 then 0 else valueOf d z.toNat) + val d l := rfl
theorem a87_L1_step {B : Bnd} (hB : B = Bk) {cl : CallK} {rd : RoundK} (d : Desk) (hd : d.ok) (hc : d.check = true) (l : List Int) (hl6 : l.length ≤ 6) {tp : Tok} (htp : purTok tp = true) {zt : Int} (s : St) {D : Nat} (hD : D = s.length) (z6 sc : List AV) (nn : Nat)
    (hge : ∀ z ∈ l, -1 ≤ z) (hlt : ∀ z ∈ l, z < d.ps.length) (n : Nat) (k : Ex → Env → St → Ans) (r : Ans) :
    ∀ (lr : List Int) (rest : List Nat) (j i0 : Nat) (done : List Nat) (ld : List Int) (w : Int), rest.length = lr.length → i0 = done.length → i0 = ld.length → l = ld ++ lr → nn = i0 + lr.length → (∀ x ∈ rest, x < 512) → lr.length < j → 0 ≤ w → w ≤ 100000 * (i0 : Int) →
    (∀ x, k (.exit 0) [(1, .sl (rowsI l) tp), (2, .int .i64 zt), (5, .ptr D 0 0), (9, .ptr D 1 0), (10, .ptr D 2 0), (11, .int .i64 (w + val d lr)), (12, .os D 3 0 nn 1), (13, .int .i64 x)] (⟨[.cells d.c, .cells sc, .cells z6, .cells (cellsI (done ++ markIs d.ps.length rest lr))], []⟩ :: s) = r) →
    B.loop (evCK B a87_L1) [1, 2, 5, 9, 10, 11, 12, 13] n j cl rd Gx D (D + 1) [(1, .sl (rowsI l) tp), (2, .int .i64 zt), (5, .ptr D 0 0), (9, .ptr D 1 0), (10, .ptr D 2 0), (11, .int .i64 w), (12, .os D 3 0 nn 1), (13, .int .i64 (.ofNat i0))] (⟨[.cells d.c, .cells sc, .cells z6, .cells (cellsI (done ++ rest))], []⟩ :: s) k = r := by
  intro lr
  induction lr with
  | nil =>
    intro rest j i0 done ld w h1 h2 h3 h4 h5 h6 h7 h8 h9 k1
    obtain ⟨j, rfl⟩ : ∃ j', j = j' + 1 := ⟨j - 1, by simp at h7; omega⟩
    refine loop_succ hB ?_
    have hl2 : ∀ (g g' : Fr), D + 1 + 1 = (g :: g' :: s : St).length := fun _ _ => by simp [hD]
    have hl0 : ∀ (g : Fr), D < (g :: s : St).length := fun _ => by simp [hD]
    have hn : ¬ i0 < l.length := by rw [h4]; simp; omega
    conv => lhs; whnf
    repeat' ((first
      | refine fnat_pred hB ?_
      | refine tok_step hB htp ?_
      | refine len_map hB ?_
      | refine lt_nat hB (fun h => absurd h hn) (fun h => ?_)
      | refine ifk_step hB (Nat.ble_eq_true_of_le (by omega)) ?_
      | refine purs_step hB rfl ?_
      | refine lt_tt hB (by decide) ?_
      | refine lt_ff hB (by decide) ?_
      | refine le_tt hB (by decide) ?_
      | refine le_ff hB (by decide) ?_
      | refine eq_tt hB (by decide) ?_
      | refine eq_ff hB (by decide) ?_
      | refine fint_wrp hB (by omega) (by omega) ?_
      | refine fint_step hB ?_
      | refine fbool_tt hB ?_
      | refine fbool_ff hB ?_
      | refine fbool_split hB (fun _ => ?_) (fun _ => ?_)
      | refine ftok_step hB ?_
      | refine frows_step hB ?_
      | refine fstr_step hB ?_
      | refine len_map hB ?_
      | refine len_step hB ?_
      | refine lens_step hB ?_
      | refine byte_step hB ?_
      | refine drop_step hB rfl ?_
      | refine fl_step hB rfl ?_
      | refine add_one hB (by first | omega | decide) ?_
      | refine opt_step hB rfl ?_
      | refine fnat_step hB ?_
      | refine ifk_step hB rfl ?_
      | refine ifk_step hB (flat_or rfl) ?_
      | refine opt2_step hB rfl ?_
      | refine obj_raw hB ?_
      | refine sob_raw hB ?_
      | refine fst_raw hB ?_
      | refine optl_raw hB ?_
      | refine tok_step hB rfl ?_
      ) <;> conv => lhs; whnf)
    rw [clampTok_pur htp]
    have e1 : markIs d.ps.length rest [] = rest := by
      have : rest = [] := List.length_eq_zero_iff.1 h1
      subst this; rfl
    have k1 := k1 (.ofNat i0)
    rw [e1, show w + val d [] = w from Int.add_zero w] at k1
    exact k1
  | cons z lr ih =>
    intro rest j i0 done ld w h1 h2 h3 h4 h5 h6 h7 h8 h9 k1
    obtain ⟨j, rfl⟩ : ∃ j', j = j' + 1 := ⟨j - 1, by simp at h7; omega⟩
    refine loop_succ hB ?_
    have hl2 : ∀ (g g' : Fr), D + 1 + 1 = (g :: g' :: s : St).length := fun _ _ => by simp [hD]
    have hl0 : ∀ (g : Fr), D < (g :: s : St).length := fun _ => by simp [hD]
    have hn : i0 < l.length := by rw [h4]; simp; omega
    have hz : (rowsI l)[i0]? = some [.int .i64 z] := by
      rw [h4, h3]; simp [rowsI]
    have hzm : z ∈ l := by rw [h4]; simp
    have hz1 := hge z hzm
    have h5' : nn = i0 + (lr.length + 1) := h5
    have hz2 := hlt z hzm
    have hnp := (check_fine hc).np
    match rest, h1 with
    | x :: rest, h1 =>
      have hx := h6 x (List.mem_cons_self ..)
      have h6' : ∀ y ∈ rest, y < 512 := fun y hy => h6 y (List.mem_cons_of_mem _ hy)
      have h1' : rest.length = lr.length := by simpa using h1
      have h7' : lr.length < j := by simp at h7; omega
      have hmk : markIs d.ps.length (x :: rest) (z :: lr) = (x ||| 1 <<< keyOf d.ps.length z) :: markIs d.ps.length rest lr := rfl
      rw [hmk, val_cons] at k1
      by_cases hneg : z < 0
      · have hm1 : z = -1 := by omega
        subst hm1
        have hk : keyOf d.ps.length (-1) = d.ps.length := rfl
        rw [hk, if_pos rfl] at k1
        conv => lhs; whnf
        repeat' ((first
          | refine fnat_pred hB ?_
          | refine tok_step hB htp ?_
          | refine tok_step hB hd.tp ?_
          | refine tok_step hB hd.tb ?_
          | refine len_map hB ?_
          | refine lt_nat hB (fun h => ?_) (fun h => absurd hn h)
          | refine natOf_step hB (m := i0) rfl ?_
          | refine nth_step hB hz ?_
          | refine lt_tt hB hneg ?_
          | refine opt_step hB (shl_gen (k := d.ps.length) rfl (by omega)) ?_
          | refine opt_step hB (or_gen hx (shl_lt (by omega))) ?_
          | refine obj_step hB (hl2 _ _) ((getObj_sub (hl0 _)).trans ((getObj_top hD).trans rfl)) ?_
          | refine sob_step hB (hl2 _ _) ((setObj_sub (hl0 _)).trans (congrArg (_ :: ·) (setTop3 hD))) ?_
          | refine drop_step hB (cellsI_drop h2) ?_
          | refine ifk_step hB (cells_room h2) ?_
          | refine optl_step hB rfl ?_
          | refine fl_step hB (cellsI_put h2) ?_
          | refine ifk_step hB (Nat.ble_eq_true_of_le (by omega)) ?_
          | refine fbool_same hB (by omega) ?_
          | refine fbool_other hB (by omega) ?_
          | refine purs_step hB rfl ?_
          | refine lt_tt hB (by decide) ?_
          | refine lt_ff hB (by decide) ?_
          | refine le_tt hB (by decide) ?_
          | refine le_ff hB (by decide) ?_
          | refine eq_tt hB (by decide) ?_
          | refine eq_ff hB (by decide) ?_
          | refine fint_wrp hB (by omega) (by omega) ?_
          | refine fint_step hB ?_
          | refine fbool_tt hB ?_
          | refine fbool_ff hB ?_
          | refine fbool_split hB (fun _ => ?_) (fun _ => ?_)
          | refine ftok_step hB ?_
          | refine frows_step hB ?_
          | refine fstr_step hB ?_
          | refine len_map hB ?_
          | refine len_step hB ?_
          | refine lens_step hB ?_
          | refine byte_step hB ?_
          | refine drop_step hB rfl ?_
          | refine fl_step hB rfl ?_
          | refine add_one hB (by first | omega | decide) ?_
          | refine opt_step hB rfl ?_
          | refine fnat_step hB ?_
          | refine ifk_step hB rfl ?_
          | refine ifk_step hB (flat_or rfl) ?_
          | refine opt2_step hB rfl ?_
          | refine obj_raw hB ?_
          | refine sob_raw hB ?_
          | refine fst_raw hB ?_
          | refine optl_raw hB ?_
          | refine tok_step hB rfl ?_
          ) <;> conv => lhs; whnf)
        rw [clampTok_pur htp]
        refine ih rest j (i0 + 1) (done ++ [x ||| 1 <<< d.ps.length]) (ld ++ [-1]) w h1' (by simp; omega) (by simp; omega) (by simp [h4]) (by omega) h6' h7' h8 (by omega) fun x' => ?_
        have k1 := k1 x'
        rw [Int.zero_add] at k1
        rw [List.append_assoc]
        exact k1
      · obtain ⟨m, rfl⟩ : ∃ m : Nat, z = (m : Int) := ⟨z.toNat, by omega⟩
        have hm : m < d.ps.length := by omega
        obtain ⟨p, hp⟩ := meantRow d hm
        have hpx : (d.ps.map Parcel.c)[m]? = some p.c := by simp [hp]
        have hk : keyOf d.ps.length (m : Int) = m := by unfold keyOf; rw [if_neg hneg, Int.toNat_natCast]
        have hv : valueOf d m = p.value := by unfold valueOf; rw [hp]
        have hvb := value_in hc m
        rw [hv] at hvb
        rw [hk, if_neg (by omega), Int.toNat_natCast, hv] at k1
        conv => lhs; whnf
        repeat' ((first
          | refine fnat_pred hB ?_
          | refine tok_step hB htp ?_
          | refine tok_step hB hd.tp ?_
          | refine tok_step hB hd.tb ?_
          | refine len_map hB ?_
          | refine lt_nat hB (fun h => ?_) (fun h => absurd hn h)
          | refine natOf_step hB (m := i0) rfl ?_
          | refine nth_step hB hz ?_
          | refine lt_ff hB hneg ?_
          | refine natOf_step hB (m := m) rfl ?_
          | refine nth_step hB hpx ?_
          | refine opt_step hB (shl_gen (k := m) rfl (by omega)) ?_
          | refine opt_step hB (or_gen hx (shl_lt (by omega))) ?_
          | refine add_step hB (by omega) (by omega) ?_
          | refine obj_step hB (hl2 _ _) ((getObj_sub (hl0 _)).trans ((getObj_top hD).trans rfl)) ?_
          | refine sob_step hB (hl2 _ _) ((setObj_sub (hl0 _)).trans (congrArg (_ :: ·) (setTop3 hD))) ?_
          | refine drop_step hB (cellsI_drop h2) ?_
          | refine ifk_step hB (cells_room h2) ?_
          | refine optl_step hB rfl ?_
          | refine fl_step hB (cellsI_put h2) ?_
          | refine ifk_step hB (Nat.ble_eq_true_of_le (by omega)) ?_
          | refine fbool_same hB (by omega) ?_
          | refine fbool_other hB (by omega) ?_
          | refine purs_step hB rfl ?_
          | refine lt_tt hB (by decide) ?_
          | refine lt_ff hB (by decide) ?_
          | refine le_tt hB (by decide) ?_
          | refine le_ff hB (by decide) ?_
          | refine eq_tt hB (by decide) ?_
          | refine eq_ff hB (by decide) ?_
          | refine fint_wrp hB (by omega) (by omega) ?_
          | refine fint_step hB ?_
          | refine fbool_tt hB ?_
          | refine fbool_ff hB ?_
          | refine fbool_split hB (fun _ => ?_) (fun _ => ?_)
          | refine ftok_step hB ?_
          | refine frows_step hB ?_
          | refine fstr_step hB ?_
          | refine len_map hB ?_
          | refine len_step hB ?_
          | refine lens_step hB ?_
          | refine byte_step hB ?_
          | refine drop_step hB rfl ?_
          | refine fl_step hB rfl ?_
          | refine add_one hB (by first | omega | decide) ?_
          | refine opt_step hB rfl ?_
          | refine fnat_step hB ?_
          | refine ifk_step hB rfl ?_
          | refine ifk_step hB (flat_or rfl) ?_
          | refine opt2_step hB rfl ?_
          | refine obj_raw hB ?_
          | refine sob_raw hB ?_
          | refine fst_raw hB ?_
          | refine optl_raw hB ?_
          | refine tok_step hB rfl ?_
          ) <;> conv => lhs; whnf)
        rw [clampTok_pur htp]
        refine ih rest j (i0 + 1) (done ++ [x ||| 1 <<< m]) (ld ++ [(m : Int)]) (w + p.value) h1' (by simp; omega) (by simp; omega) (by simp [h4]) (by omega) h6' h7' (by omega) (by omega) fun x' => ?_
        have k1 := k1 x'
        rw [List.append_assoc, Int.add_assoc]
        exact k1
end Go.Ab.Cl
