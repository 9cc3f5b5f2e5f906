/-
  A region whose operations run in an order that is drawn.
-/
import Derived.Test.YthbekoofiienjaaDoorAbRegion
namespace Go.Ab
open Go

/-- The places that surely stand ahead of an operation, one by one. -/
def bindsOf (o : Oper) : List Nat := (o.after.toList.filter (Region.binds .any)).map (·.on)

def pairsOK (x : List Nat) (q : Op) : List (Op × List Nat) → Bool
  | [] => true
  | (q', _) :: r => (x.contains r.length || pairOK q' q) && pairsOK x q r

/-- The last operation first: what stands ahead of each; none where two that are not ordered may not change places. -/
def ordT : List (Op × List Nat) → Option (List (List Nat))
  | [] => some []
  | (q, a) :: r => (ordT r).bind fun R => fLL R fun R => fL (a.flatMap fun k => k :: R.getD (R.length - 1 - k) []).eraseDups fun x =>
    if (a.all (fun k => decide (k < R.length)) && pairsOK x q r) = true then some (x :: R) else none

theorem pairsOK_ok {x : List Nat} {q : Op} : ∀ {r : List (Op × List Nat)}, pairsOK x q r = true → ∀ k q' a', r.reverse[k]? = some (q', a') → k ∈ x ∨ pairOK q' q = true
  | [], _, k, q', a', h => by simp at h
  | (q1, a1) :: r, hp, k, q', a', h => by
    simp only [pairsOK, Bool.and_eq_true, Bool.or_eq_true, List.contains_iff_mem] at hp
    rw [List.reverse_cons, List.getElem?_append] at h
    split at h
    · exact pairsOK_ok hp.2 k q' a' h
    · rename_i hk
      simp only [List.length_reverse] at h hk
      have : k - r.length = 0 := by
        rcases Nat.eq_zero_or_pos (k - r.length) with h0 | h0
        · exact h0
        · rw [List.getElem?_eq_none (by simp; omega)] at h; cases h
      rw [this] at h
      simp at h
      obtain ⟨rfl, rfl⟩ := h
      have : k = r.length := by omega
      subst this
      exact hp.1

/-- What the table says. -/
structure OrdOK (Z : List (Op × List Nat)) (R : List (List Nat)) : Prop where
  len : R.length = Z.length
  lt : ∀ (i : Nat) (q : Op) (a : List Nat), Z[i]? = some (q, a) → ∀ k ∈ a, k < i
  cl : ∀ (i : Nat) (q : Op) (a x : List Nat), Z[i]? = some (q, a) → R[i]? = some x → ∀ k ∈ x, k ∈ a ∨ ∃ m ∈ a, ∃ y, R[m]? = some y ∧ k ∈ y
  ok : ∀ (i : Nat) (q : Op) (a x : List Nat), Z[i]? = some (q, a) → R[i]? = some x → ∀ (k : Nat) (q' : Op) (a' : List Nat), k < i → Z[k]? = some (q', a') → k ∈ x ∨ pairOK q' q = true

theorem ordT_ok : ∀ {r : List (Op × List Nat)} {R : List (List Nat)}, ordT r = some R → OrdOK r.reverse R.reverse
  | [], R, h => by
    simp only [ordT, Option.some.injEq] at h
    subst h
    exact ⟨rfl, by simp, by simp, by simp⟩
  | (q, a) :: r, R, h => by
    simp only [ordT, Option.bind_eq_some_iff, fLL_eq, fL_eq, Option.ite_none_right_eq_some, Option.some.injEq, Bool.and_eq_true, List.all_eq_true, decide_eq_true_eq] at h
    obtain ⟨R', h1, ⟨h2, h3⟩, rfl⟩ := h
    have ih := ordT_ok h1
    have hl := ih.len
    simp only [List.length_reverse] at hl
    have hz : ∀ (i : Nat) q' a', ((q, a) :: r).reverse[i]? = some (q', a') → (i < r.length ∧ r.reverse[i]? = some (q', a')) ∨ (i = r.length ∧ q' = q ∧ a' = a) := by
      intro i q' a' h
      rw [List.reverse_cons, List.getElem?_append] at h
      simp only [List.length_reverse] at h
      split at h
      · rename_i hi; exact .inl ⟨hi, h⟩
      · rename_i hi
        have : i - r.length = 0 := by
          rcases Nat.eq_zero_or_pos (i - r.length) with h0 | h0
          · exact h0
          · rw [List.getElem?_eq_none (by simp; omega)] at h; cases h
        rw [this] at h
        simp at h
        exact .inr ⟨by omega, h.1.symm, h.2.symm⟩
    have hr : ∀ (i : Nat), i < r.length → ∀ x, (x :: R').reverse[i]? = R'.reverse[i]? := by
      intro i hi x
      rw [List.reverse_cons, List.getElem?_append, if_pos (by simp; omega)]
    have hr2 : ∀ x, (x :: R').reverse[r.length]? = some x := by
      intro x
      rw [List.reverse_cons, List.getElem?_append, if_neg (by simp; omega)]
      simp [hl]
    refine ⟨by simp [hl], fun i q' a' hi k hk => ?_, fun i q' a' x hi hx k hk => ?_, fun i q' a' x hi hx k q1 a1 hki hk => ?_⟩
    · rcases hz i q' a' hi with ⟨_, hi⟩ | ⟨rfl, rfl, rfl⟩
      · exact ih.lt i q' a' hi k hk
      · have := h2 k hk; omega
    · rcases hz i q' a' hi with ⟨hlt, hi⟩ | ⟨rfl, rfl, rfl⟩
      · rw [hr i hlt] at hx
        rcases ih.cl i q' a' x hi hx k hk with h | ⟨m, hm, y, hy, hky⟩
        · exact .inl h
        · have := ih.lt i q' a' hi m hm
          exact .inr ⟨m, hm, y, by rw [hr m (by omega)]; exact hy, hky⟩
      · rw [hr2] at hx
        cases hx
        rw [List.mem_eraseDups, List.mem_flatMap] at hk
        obtain ⟨m, hm, hk⟩ := hk
        rcases List.mem_cons.1 hk with rfl | hk
        · exact .inl hm
        · have hmlt := h2 m hm
          have hget : R'.reverse[m]? = some (R'.getD (R'.length - 1 - m) []) := by
            rw [List.getElem?_reverse hmlt, List.getD_eq_getElem?_getD, List.getElem?_eq_getElem (by omega)]
            simp
          exact .inr ⟨m, hm, _, by rw [hr m (by omega)]; exact hget, hk⟩
    · rcases hz i q' a' hi with ⟨hlt, hi⟩ | ⟨rfl, rfl, rfl⟩
      · rw [hr i hlt] at hx
        rcases hz k q1 a1 hk with ⟨_, hk⟩ | ⟨rfl, _, _⟩
        · exact ih.ok i q' a' x hi hx k q1 a1 hki hk
        · omega
      · rw [hr2] at hx
        cases hx
        rcases hz k q1 a1 hk with ⟨_, hk⟩ | ⟨rfl, _, _⟩
        · exact pairsOK_ok h3 k q1 a1 hk
        · omega

/-- What stands ahead of an operation all of whose direct forerunners are done is done. -/
theorem done_all {Z : List (Op × List Nat)} {R : List (List Nat)} (hO : OrdOK Z R) {D : Nat → Prop} (hD : ∀ j q a, Z[j]? = some (q, a) → D j → ∀ k ∈ a, D k) :
    ∀ (n i : Nat), i ≤ n → ∀ q a x, Z[i]? = some (q, a) → R[i]? = some x → (∀ k ∈ a, D k) → ∀ k ∈ x, D k := by
  intro n
  induction n with
  | zero =>
    intro i hi q a x hz hr ha k hk
    rcases hO.cl i q a x hz hr k hk with h | ⟨m, hm, y, hy, hky⟩
    · exact ha k h
    · have := hO.lt i q a hz m hm; omega
  | succ n ih =>
    intro i hi q a x hz hr ha k hk
    rcases hO.cl i q a x hz hr k hk with h | ⟨m, hm, y, hy, hky⟩
    · exact ha k h
    · have hlt := hO.lt i q a hz m hm
      have hil : i < Z.length := by
        rcases Nat.lt_or_ge i Z.length with h | h
        · exact h
        · rw [List.getElem?_eq_none h] at hz; cases hz
      have hzm : Z[m]? = some (Z[m].1, Z[m].2) := by rw [List.getElem?_eq_getElem (by omega)]
      exact ih m (by omega) _ _ y hzm hy (hD m _ _ hzm (ha m hm)) k hky

section
variable {K : Nat → C → Code → Prop} {P : Program} {T : Nat → Option TyI} {G : Nat → List AV} {gl : List Nat} {c : Cf} {s s' : St} {e e' : Env} {a : Act} {cl : Call} {rd : Round} {hh n N : Nat} {ro : Option Nat} {ops : Array Oper}

def remOf (m : Nat) (listed : Array Bool) : List Nat := (List.range m).filter fun i => listed.getD i true == false

theorem mem_rem {m i : Nat} {listed : Array Bool} : i ∈ remOf m listed ↔ i < m ∧ listed.getD i true = false := by
  unfold remOf
  rw [List.mem_filter, List.mem_range, beq_iff_eq]

theorem getD_two {listed : Array Bool} {i : Nat} (h : i < listed.size) (b : Bool) : listed.getD i b = listed.getD i false := by simp [h]

theorem rem_set {m i : Nat} {listed : Array Bool} (hm : listed.size = m) (hi : i < m) : remOf m (listed.setIfInBounds i true) = (remOf m listed).filter (fun k => k != i) := by
  unfold remOf
  rw [List.filter_filter]
  refine List.filter_congr fun k hk => ?_
  rw [List.mem_range] at hk
  by_cases h : i = k
  · subst h
    simp [hm, hi]
  · rw [getD_set_ne _ h]
    have : (k != i) = true := by simp; exact fun h' => h h'.symm
    rw [this]; simp

variable (hTab : TabOK P T) (hC : CallOK K P G gl cl) (hR : RoundOK K P G gl rd)
include hTab hC hR

theorem any_wp {Q : Exit → Act → World → Prop} {L : List Op} {R : List (List Nat)} (hm : L.length = ops.size)
    (hO : OrdOK (L.zip (ops.toList.map bindsOf)) R) (hq : ∀ (i : Nat) (q : Op) (o : Oper), L[i]? = some q → ops[i]? = some o → chkOp T gl (P.eqGuardType P.depth) N ops q o = true)
    (hlen : ∀ e s e1 s1 q, q ∈ L → stepOp cl rd G hh q e s = some (e1, s1) → s1.length = s.length) :
    ∀ (fuel : Nat) (listed : Array Bool) (c : Cf) (s : St) (e e' : Env) (a : Act), listed.size = ops.size → (remOf ops.size listed).length = fuel →
      (∀ j o, ops[j]? = some o → listed.getD j false = true → ∀ k ∈ bindsOf o, listed.getD k false = true) →
      evOps cl rd G hh ((remOf ops.size listed).map fun i => L.getD i default) e s = some (e', s') → Inv K c s → Ev c.vw G gl e a → a.tmps.size = N → hh < s.length →
      (∀ a' c' e2, Same e' e2 → Inv K c' s' → Ext c c' → Ev c'.vw G gl e2 a' → a'.tmps.size = N → a'.defers = a.defers → Q .normal a' c'.w) →
      wpAnyIn (Fw ro) n P .any ops Q fuel listed a c.w := by
  have hready : ∀ {listed : Array Bool} {j : Nat}, listed.size = ops.size → (j ∈ Region.ready .any ops listed ↔ j ∈ remOf ops.size listed ∧ ∃ o, ops[j]? = some o ∧ ∀ k ∈ bindsOf o, listed.getD k false = true) := by
    intro listed j hs
    rw [mem_ready, mem_rem]
    constructor
    · rintro ⟨h1, o, h2, h3⟩
      have := (Array.getElem?_eq_some_iff.1 h2).1
      refine ⟨⟨this, h1⟩, o, h2, fun k hk => ?_⟩
      simp only [bindsOf, List.mem_map, List.mem_filter] at hk
      obtain ⟨e, ⟨he, hb⟩, rfl⟩ := hk
      exact h3 e (by simpa using he) hb
    · rintro ⟨⟨h0, h1⟩, o, h2, h3⟩
      refine ⟨h1, o, h2, fun e he hb => h3 _ ?_⟩
      simp only [bindsOf, List.mem_map, List.mem_filter]
      exact ⟨e, ⟨by simpa using he, hb⟩, rfl⟩
  have hZ : ∀ (i : Nat) (o : Oper), ops[i]? = some o → ∃ q, L[i]? = some q ∧ (L.zip (ops.toList.map bindsOf))[i]? = some (q, bindsOf o) := by
    intro i o ho
    have hi := (Array.getElem?_eq_some_iff.1 ho).1
    refine ⟨L[i], List.getElem?_eq_getElem (by omega), ?_⟩
    rw [List.getElem?_zip_eq_some]
    exact ⟨List.getElem?_eq_getElem (by omega), by simp [ho]⟩
  intro fuel
  induction fuel with
  | zero =>
    intro listed c s e e' a hs hf hcl hv hI hE hN hlt hQ
    have hr : remOf ops.size listed = [] := List.eq_nil_of_length_eq_zero hf
    rw [hr] at hv
    simp only [List.map_nil, evOps, Option.some.injEq, Prod.mk.injEq] at hv
    obtain ⟨rfl, rfl⟩ := hv
    refine ⟨?_, hQ a c e .rfl' hI (.refl c) hE hN rfl⟩
    refine List.eq_nil_iff_forall_not_mem.2 fun j hj => ?_
    have := ((hready hs).1 hj).1
    rw [hr] at this; cases this
  | succ fuel ih =>
    intro listed c s e e' a hs hf hcl hv hI hE hN hlt hQ
    refine ⟨fun hnil => ?_, fun i hi => ?_⟩
    · -- the first of what remains is ready
      exfalso
      cases hr : remOf ops.size listed with
      | nil => rw [hr] at hf; cases hf
      | cons i0 rest =>
        have hmem : i0 ∈ remOf ops.size listed := by rw [hr]; simp
        have h0 := mem_rem.1 hmem
        have ho : ops[i0]? = some ops[i0] := Array.getElem?_eq_getElem h0.1
        have hin : i0 ∈ Region.ready .any ops listed := by
          refine (hready hs).2 ⟨hmem, ops[i0], ho, fun k hk => ?_⟩
          obtain ⟨q, _, hz⟩ := hZ i0 _ ho
          have hklt := hO.lt i0 q _ hz k hk
          cases hd : listed.getD k false with
          | true => rfl
          | false =>
            exfalso
            have hkm : k ∈ remOf ops.size listed := mem_rem.2 ⟨by omega, by rw [getD_two (by omega)]; exact hd⟩
            have hpw : (remOf ops.size listed).Pairwise (· < ·) := List.Pairwise.filter _ List.pairwise_lt_range
            rw [hr] at hpw hkm
            rcases List.mem_cons.1 hkm with rfl | hkm
            · omega
            · have := (List.pairwise_cons.1 hpw).1 k hkm; omega
        rw [hnil] at hin; cases hin
    · obtain ⟨hmem, o, ho, hall⟩ := (hready hs).1 hi
      obtain ⟨q, hLq, hz⟩ := hZ i o ho
      have hilt := (mem_rem.1 hmem).1
      obtain ⟨pre, post, hsplit⟩ := List.append_of_mem hmem
      have hpw : (remOf ops.size listed).Pairwise (· < ·) := List.Pairwise.filter _ List.pairwise_lt_range
      rw [hsplit] at hpw
      have hpre : ∀ k ∈ pre, k < i := fun k hk => (List.pairwise_append.1 hpw).2.2 k hk i (by simp)
      have hpost : ∀ k ∈ post, i < k := fun k hk => (List.pairwise_cons.1 (List.pairwise_append.1 hpw).2.1).1 k hk
      have hrem : remOf ops.size (listed.setIfInBounds i true) = pre ++ post := by
        rw [rem_set hs hilt, hsplit, List.filter_append, List.filter_cons]
        rw [if_neg (by simp)]
        rw [List.filter_eq_self.2 (fun k hk => by have := hpre k hk; simp; omega), List.filter_eq_self.2 (fun k hk => by have := hpost k hk; simp; omega)]
      have hq0 : L.getD i default = q := by rw [List.getD_eq_getElem?_getD, hLq]; rfl
      rw [hsplit, List.map_append, List.map_cons, hq0] at hv
      have hpair : ∀ k' ∈ pre.map (fun i => L.getD i default), pairOK k' q = true := by
        intro k' hk'
        obtain ⟨k, hk, rfl⟩ := List.mem_map.1 hk'
        have hki := hpre k hk
        have hkm : k ∈ remOf ops.size listed := by rw [hsplit]; simp [hk]
        have hk0 := mem_rem.1 hkm
        obtain ⟨q', hLq', hz'⟩ := hZ k _ (Array.getElem?_eq_getElem hk0.1)
        have hRi : i < R.length := by rw [hO.len]; simp; omega
        rcases hO.ok i q _ _ hz (List.getElem?_eq_getElem hRi) k q' _ hki hz' with h | h
        · exfalso
          have hdone := done_all hO (D := fun k => listed.getD k false = true) (fun j q a hj hd k hk => by
            rw [List.getElem?_zip_eq_some] at hj
            have := hj.2
            simp only [List.getElem?_map, Option.map_eq_some_iff] at this
            obtain ⟨oj, hoj, rfl⟩ := this
            exact hcl j oj (by simpa using hoj) hd k hk) i i (Nat.le_refl _) q _ _ hz (List.getElem?_eq_getElem hRi) hall k h
          rw [getD_two (by omega)] at hk0
          rw [hk0.2] at hdone; cases hdone
        · rw [List.getD_eq_getElem?_getD, hLq']; exact h
      obtain ⟨e1, s1, e2, h1, h2, h3⟩ := pull hpair hv
      refine step_wp hTab hC hR ho hI hE hN hlt (hq i q o hLq ho) h1 fun a1 c1 i1 x1 v1 n1 d1 => ?_
      refine ih (listed.setIfInBounds i true) c1 s1 e1 e2 a1 (by simp [hs]) ?_ ?_ ?_ i1 v1 n1 ?_ ?_
      · rw [hrem]
        rw [hsplit] at hf
        simp at hf ⊢; omega
      · intro j oj hoj hd k hk
        by_cases hji : i = j
        · subst hji
          rw [ho] at hoj; cases hoj
          exact getD_set_true (hall k hk)
        · rw [getD_set_ne _ hji] at hd
          exact getD_set_true (hcl j oj hoj hd k hk)
      · rw [hrem, List.map_append]; exact h2
      · rw [hlen _ _ _ _ q (List.mem_of_getElem? hLq) h1]; exact hlt
      · intro a2 c2 e3 hs3 i2 x2 v2 n2 d2
        exact hQ a2 c2 e3 (h3.trans hs3) i2 (x1.trans x2) v2 n2 (d2.trans d1)

/-- A region whose order is drawn. -/
theorem draw_wp {Q : Exit → Act → World → Prop} {L : List Op} {R : List (List Nat)} {id : Nat} (hmx : P.follows .mixedOrders = true) (hm : L.length = ops.size)
    (hO : OrdOK (L.zip (ops.toList.map bindsOf)) R) (hq : ∀ (i : Nat) (q : Op) (o : Oper), L[i]? = some q → ops[i]? = some o → chkOp T gl (P.eqGuardType P.depth) N ops q o = true)
    (hlen : ∀ e s e1 s1 q, q ∈ L → stepOp cl rd G hh q e s = some (e1, s1) → s1.length = s.length)
    (hv : evOps cl rd G hh L e s = some (e', s')) (hI : Inv K c s) (hE : Ev c.vw G gl e a) (hN : a.tmps.size = N) (hlt : hh < s.length)
    (hQ : ∀ a' c', Inv K c' s' → Ext c c' → Ev c'.vw G gl e' a' → a'.tmps.size = N → a'.defers = a.defers → Q .normal a' c'.w) :
    (Code.region id ops true).wpIn (Fw ro) n P Q a c.w := by
  refine wpIn_region_any hmx ?_
  obtain ⟨i0, x0⟩ := inv_heap (w' := { c.w with drawn := c.w.drawn + 1 }) ⟨rfl, rfl, rfl, fun _ => rfl⟩ rfl hI
  have hrem : remOf ops.size (Array.replicate ops.size false) = List.range ops.size := by
    unfold remOf
    refine List.filter_eq_self.2 fun k hk => ?_
    rw [List.mem_range] at hk
    simp [hk]
  have hmap : (List.range ops.size).map (fun i => L.getD i default) = L := by
    refine List.ext_getElem (by simp [hm]) fun i h1 h2 => ?_
    simp [h2]
  refine any_wp hTab hC hR hm hO hq hlen ops.size (Array.replicate ops.size false) { c with w := { c.w with drawn := c.w.drawn + 1 } } s e e' a (by simp) (by rw [hrem]; simp) (fun j o ho hd => ?_) (by rw [hrem, hmap]; exact hv)
    i0 (hE.ext x0) hN hlt fun a' c' e2 hs i1 x1 v1 n1 d1 => hQ a' c' i1 (x0.trans x1) ⟨fun t => by rw [hs t]; exact v1.er t, v1.gl⟩ n1 d1
  have := (Array.getElem?_eq_some_iff.1 ho).1
  simp [this] at hd
end
end Go.Ab
