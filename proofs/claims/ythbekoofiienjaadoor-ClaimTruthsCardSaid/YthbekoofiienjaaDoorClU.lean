/-
  The claims, plain: what Which, Told and Worth say, by truths.
-/
import Derived.Test.YthbekoofiienjaaDoorClZ
import Derived.Test.YthbekoofiienjaaDoorClT
namespace Go.Ab.Cl
open Go.Ab

theorem hi_better : Better hiI (fun x y => y ≤ x) where
  or := hi_or
  l a b := by unfold hiI; split <;> omega
  r a b := by unfold hiI; split <;> omega
  refl a := Int.le_refl a
  trans a b c h1 h2 := by omega
  add a b v h := by omega
theorem lo_better : Better loI (fun x y => x ≤ y) where
  or := lo_or
  l a b := by unfold loI; split <;> omega
  r a b := by unfold loI; split <;> omega
  refl a := Int.le_refl a
  trans a b c h1 h2 := by omega
  add a b v h := by omega

theorem best_spec {d : Desk} {by_ : Int → Int → Int} {R : Int → Int → Prop} (hb : Better by_ R) (hc : d.check = true) (ge : List (Int × Int)) :
    IsBest R (best d by_ ge) (fun v => ∃ l, (Tr d l ∧ ∀ (i : Nat) (k : Int), l[i]? = some k → clash (fun i => look ge i) i k = false) ∧ v = val d l) := by
  have hs := check_strange hc
  refine best_congr (W_best hb hc (fun i => look ge i) d.bs.length 0 0) fun v => ?_
  simp only [Suf_all hs.1]
theorem best_never {d : Desk} {by_ : Int → Int → Int} {R : Int → Int → Prop} (hb : Better by_ R) (hc : d.check = true) (ge : List (Int × Int)) : best d by_ ge ≠ -1 ↔ ∃ l, Tr d l ∧ ∀ (i : Nat) (k : Int), l[i]? = some k → clash (fun i => look ge i) i k = false := by
  rcases best_spec hb hc ge with ⟨h1, h2⟩ | ⟨h1, ⟨l, h2, h3⟩, h4⟩
  · rw [h1]
    constructor
    · intro h; exact absurd rfl h
    · rintro ⟨l, hl⟩; exact absurd ⟨l, hl, rfl⟩ (h2 (val d l))
  · exact ⟨fun _ => ⟨l, h2⟩, fun _ => by omega⟩
theorem clash_none {i : Nat} {k : Int} : clash (fun i => look [] i) i k = false := rfl
theorem true_iff {d : Desk} (hc : d.check = true) : trueB d = true ↔ ∃ l, Tr d l := by
  unfold trueB
  rw [decide_eq_true_eq, best_never hi_better hc]
  exact ⟨fun ⟨l, h, _⟩ => ⟨l, h⟩, fun ⟨l, h⟩ => ⟨l, h, fun _ _ _ => clash_none⟩⟩
theorem can_iff {d : Desk} (hc : d.check = true) {b : Nat} (hb : b < d.bs.length) {p : Int} : canB d (b : Int) p = true ↔ ∃ l, Tr d l ∧ l[b]? = some p := by
  unfold canB
  rw [decide_eq_true_eq, best_never hi_better hc]
  have hlook : ∀ (i : Nat) (k : Int), clash (fun i => look [((b : Int), p)] i) i k = false ↔ (b = i → p = k) := by
    intro i k
    unfold clash look
    by_cases h : b = i
    · subst h; simp
    · have h2 : ((b : Int) == (i : Int)) = false := by simp; omega
      simp [List.find?, h2, h]
  constructor
  · rintro ⟨l, h, h2⟩
    refine ⟨l, h, ?_⟩
    have hlt : b < l.length := by rw [h.len]; exact hb
    have := (hlook b l[b]).1 (h2 b l[b] (by simp [hlt])) rfl
    rw [this]; simp [hlt]
  · rintro ⟨l, h, h2⟩
    refine ⟨l, h, fun i k hk => (hlook i k).2 fun hbi => ?_⟩
    subst hbi
    rw [h2] at hk; exact Option.some.inj hk
/-- What is told of a desk in which something is true: from what to what all is worth. -/
theorem worth_spec {d : Desk} (hc : d.check = true) (ht : trueB d = true) : (∃ l, Tr d l ∧ worthLo d = val d l) ∧ (∃ l, Tr d l ∧ worthHi d = val d l) ∧ (∀ l, Tr d l → worthLo d ≤ val d l ∧ val d l ≤ worthHi d) := by
  have he : askE d true = 0 := by simp [askE, hc, ht]
  rw [show worthLo d = best d loI [] from if_pos he, show worthHi d = best d hiI [] from if_pos he]
  obtain ⟨l0, h0⟩ := (true_iff hc).1 ht
  rcases best_spec lo_better hc [] with ⟨h1, h2⟩ | ⟨h1, ⟨l, h2, h3⟩, h4⟩
  · exact absurd ⟨l0, ⟨h0, fun _ _ _ => clash_none⟩, rfl⟩ (h2 (val d l0))
  rcases best_spec hi_better hc [] with ⟨k1, k2⟩ | ⟨k1, ⟨l', k2, k3⟩, k4⟩
  · exact absurd ⟨l0, ⟨h0, fun _ _ _ => clash_none⟩, rfl⟩ (k2 (val d l0))
  exact ⟨⟨l, h2.1, h3⟩, ⟨l', k2.1, k3⟩, fun l'' h => ⟨h4 _ ⟨l'', ⟨h, fun _ _ _ => clash_none⟩, rfl⟩, k4 _ ⟨l'', ⟨h, fun _ _ _ => clash_none⟩, rfl⟩⟩⟩
end Go.Ab.Cl
