/-
  What is handed in, as it is read: told to the abstract machine. Slices of rows of plain cells.
-/
import Derived.Test.YthbekoofiienjaaDoorAbRow
import Derived.ChangeArms
import Derived.OpenShut
namespace Go.Ab
open Go Go.RowKit Go.ChangeShapes Go.WideShapes

/-- Cells that a row of the machine tells. -/
structure RowTold (V : Vw) (r : List AV) (cs : List Value) : Prop where
  len : r.length = cs.length
  vr : ∀ (j : Nat) (v : AV), r[j]? = some v → ∃ c, cs[j]? = some c ∧ VR V v c
  pur : purs r = true
  one : ∀ v ∈ r, oneCell v = true

theorem RowTold.nil {V : Vw} : RowTold V [] [] := ⟨rfl, fun j v h => by simp at h, rfl, fun v h => by simp at h⟩
theorem RowTold.cons {V : Vw} {v : AV} {c : Value} {r : List AV} {cs : List Value} (hv : VR V v c) (hp : Go.Ab.pur v = true) (ho : oneCell v = true) (h : RowTold V r cs) : RowTold V (v :: r) (c :: cs) where
  len := by simp [h.len]
  vr j x hx := by
    cases j with
    | zero =>
      obtain rfl : v = x := by simpa using hx
      exact ⟨c, rfl, hv⟩
    | succ j => obtain ⟨c', h1, h2⟩ := h.vr j x (by simpa using hx); exact ⟨c', by simpa using h1, h2⟩
  pur := by simp [purs, hp, h.pur]
  one x hx := by
    rcases List.mem_cons.1 hx with rfl | hx
    · exact ho
    · exact h.one x hx

section
variable {H : Type} {enc : TypeId × Value → H} {P : Program} {W : World} {base : Nat} {spare : Nat → Bool} {held : Bool}

theorem weightsAll_get {e : TypeId} {K : Nat} : ∀ {ds : List (DataW H)}, (DataW.weightsAll P e ds).all (· ≤ K) = true → ∀ {i : Nat} {d : DataW H}, ds[i]? = some d → (d.weights P e).all (· ≤ K) = true
  | [], _, i, d, hd => by simp at hd
  | d0 :: ds, h, i, d, hd => by
    simp only [DataW.weightsAll, List.all_append, Bool.and_eq_true] at h
    cases i with
    | zero =>
      obtain rfl : d0 = d := by simpa using hd
      exact h.1
    | succ i => exact weightsAll_get h.2 (by simpa using hd)

/-- A list of things, each of which one place tells. -/
theorem list_of {α : Type} {n : Nat} {Q : Nat → α → Prop} (h : ∀ i, i < n → ∃ a, Q i a) : ∃ l : List α, l.length = n ∧ ∀ (i : Nat) (a : α), l[i]? = some a → Q i a := by
  induction n with
  | zero => exact ⟨[], rfl, fun i a h => by simp at h⟩
  | succ n ih =>
    obtain ⟨l, hl, hq⟩ := ih fun i hi => h i (by omega)
    obtain ⟨a, ha⟩ := h n (by omega)
    refine ⟨l ++ [a], by simp [hl], fun i b hb => ?_⟩
    rcases Nat.lt_trichotomy i n with hi | hi | hi
    · exact hq i b (by rwa [List.getElem?_append_left (by omega)] at hb)
    · subst hi
      rw [List.getElem?_append_right (by omega)] at hb
      rw [hl] at hb
      simp at hb
      exact hb ▸ ha
    · rw [List.getElem?_append_right (by omega), hl] at hb
      rw [List.getElem?_eq_none (by simp; omega)] at hb
      cases hb

/-- A slice of rows. -/
theorem slice_vr {α : Type} {t e : TypeId} {r : Reach} {b0 m : Nat} {cs : List Value} {x : DataW H × List MemPlace} {v : Value} (row : α → List AV) (Q : α → Prop)
    (ht : P.underlying t = some (.slice e)) (hpos : 0 < P.cellsOf e) (hb : 0 < P.bytesOf e) (hok : Cell.okWide P W r b0 t v) (hv : cs = [v])
    (hrow : ∀ (n : Nat) (cs : List Value) (x : DataW H × List MemPlace), DataW.trod enc P W base spare held n e cs = some x → cs.length = P.cellsOf e → (x.1.weights P e).all (· ≤ reachBytes) = true → ∃ a, Q a ∧ RowTold (bare W).vw (row a) cs)
    (hw : (x.1.weights P t).all (· ≤ reachBytes) = true)
    (h : DataW.trod enc P W base spare held m t cs = some x) : ∃ l : List α, (∀ a ∈ l, Q a) ∧ l.length ≤ reachBytes ∧ VR (bare W).vw (.sl (l.map row) .any) v := by
  subst hv
  rcases DataW.trod_slice ht h with ⟨h1, h2⟩ | ⟨a, len, cap, elems, rest, n, rfl, h1, rfl, hbs, hlen, hcap, hel, hcell, _, _⟩
  · obtain rfl : v = .slice none 0 0 := by simpa using h1
    exact ⟨[], by simp, by simp, .slnil _ (.inr (.inl rfl))⟩
  · obtain rfl : v = .slice (some a) len cap := by simpa using h1
    have hsp : a.spot = none := by
      unfold Cell.okWide at hok
      rw [ht] at hok
      unfold Cell.ok at hok
      rw [ht] at hok
      exact hok.2.2.2.1
    obtain ⟨b, o, sp⟩ := a
    dsimp only at hsp
    subst hsp
    have hw1 : (elems.map (·.1)).length * P.bytesOf e ≤ reachBytes ∧ (DataW.weightsAll P e (elems.map (·.1))).all (· ≤ reachBytes) = true := by
      simp only [DataW.weights, ht, List.all_cons, List.all_append, Bool.and_eq_true, decide_eq_true_eq] at hw
      exact ⟨Nat.le_trans (Nat.mul_le_mul_right _ (Nat.le_add_right _ _)) hw.1, hw.2.1⟩
    have hlb : len ≤ reachBytes := by
      have h3 := hw1.1
      simp only [List.length_map, hel] at h3
      exact Nat.le_trans (Nat.le_mul_of_pos_right _ hb) h3
    have hall : ∀ i, i < len → ∃ a, Q a ∧ ∃ cs, W.cells? base ((⟨b, o, none⟩ : Addr).add (i * P.cellsOf e)) (P.cellsOf e) = some cs ∧ RowTold (bare W).vw (row a) cs := by
      intro i hi
      have h3 := hcell i hi
      obtain ⟨y, hy⟩ : ∃ y, elems[i]? = some y := ⟨elems[i]'(by omega), by simp [hel, hi]⟩
      rw [hy] at h3
      simp only [Option.bind_eq_some_iff] at h3
      obtain ⟨cs, h4, h5⟩ := h3
      obtain ⟨_, h6, _⟩ := World.cells?_some h4
      obtain ⟨a, ha, hc⟩ := hrow n cs y h5 h6 (weightsAll_get hw1.2 (i := i) (by simp [hy]))
      exact ⟨a, ha, cs, h4, hc⟩
    obtain ⟨l, hl, hq⟩ := list_of hall
    subst hl
    refine ⟨l, fun a ha => ?_, hlb, ?_⟩
    · obtain ⟨i, hi⟩ := List.getElem?_of_mem ha
      exact (hq i a hi).1
    · have hat : ∀ (i : Nat) (a : α), l[i]? = some a → ∃ cs : List Value, cs.length = P.cellsOf e ∧ RowTold (bare W).vw (row a) cs ∧ ∀ j, j < P.cellsOf e → W.cell? ⟨b, o + i * P.cellsOf e + j, none⟩ = cs[j]? := by
        intro i a ha
        obtain ⟨_, cs, h4, h5⟩ := hq i a ha
        obtain ⟨_, h6, h7⟩ := World.cells?_some h4
        exact ⟨cs, h6, h5, fun j hj => by have := h7 j hj; rwa [add_plain, add_plain] at this⟩
      have := VR.sl (V := (bare W).vw) (l.map row) .any b o cap (P.cellsOf e) (fun i j => (W.cell? ⟨b, o + i * P.cellsOf e + j, none⟩).getD undef) hpos (by simp)
        (fun i r hr => by
          simp only [List.getElem?_map, Option.map_eq_some_iff] at hr
          obtain ⟨a, ha, rfl⟩ := hr
          obtain ⟨cs, h1, h2, _⟩ := hat i a ha
          rw [h2.len, h1]) (by simpa using hlen) (by simp)
        (fun i j hi hj => by
          obtain ⟨cs, h1, h2, h3⟩ := hat i _ (List.getElem?_eq_getElem (by simpa using hi))
          refine ⟨?_, bare_own⟩
          show W.cell? _ = _
          rw [h3 j hj, List.getElem?_eq_getElem (by omega)]
          rfl)
        (fun i r j v hr hv => by
          simp only [List.getElem?_map, Option.map_eq_some_iff] at hr
          obtain ⟨a, ha, rfl⟩ := hr
          obtain ⟨cs, h1, h2, h3⟩ := hat i a ha
          obtain ⟨c, h4, h5⟩ := h2.vr j v hv
          have hj : j < P.cellsOf e := by
            rcases Nat.lt_or_ge j (P.cellsOf e) with h | h
            · exact h
            · rw [List.getElem?_eq_none (by omega)] at h4; cases h4
          show VR _ v ((W.cell? _).getD undef)
          rw [h3 j hj, h4]
          exact h5)
        (fun i r hr => by
          simp only [List.getElem?_map, Option.map_eq_some_iff] at hr
          obtain ⟨a, ha, rfl⟩ := hr
          obtain ⟨cs, h1, h2, _⟩ := hat i a ha
          exact ⟨h2.pur, h2.one⟩) trivial
      simpa using this

theorem weightsEach_get {K : Nat} : ∀ {ts : List TypeId} {ds : List (DataW H)}, (DataW.weightsEach P ts ds).all (· ≤ K) = true → ∀ {i : Nat} {t : TypeId} {d : DataW H}, ts[i]? = some t → ds[i]? = some d → (d.weights P t).all (· ≤ K) = true
  | [], _, _, i, t, d, ht, _ => by simp at ht
  | _ :: _, [], _, i, t, d, _, hd => by simp at hd
  | t0 :: ts, d0 :: ds, h, i, t, d, ht, hd => by
    simp only [DataW.weightsEach, List.all_append, Bool.and_eq_true] at h
    cases i with
    | zero =>
      obtain rfl : t0 = t := by simpa using ht
      obtain rfl : d0 = d := by simpa using hd
      exact h.1
    | succ i => exact weightsEach_get h.2 (by simpa using ht) (by simpa using hd)

/-- A struct, field by field. -/
theorem struct_get {fs : Array Field} {L : List (TypeId × Nat)} {t : TypeId} {m : Nat} {cs : List Value} {x : DataW H × List MemPlace} (ht : P.underlying t = some (.struct fs)) (hL : fs.toList.map (fun f => (f.type, f.offset)) = L)
    (h : DataW.trod enc P W base spare held m t cs = some x) :
    cs.length = P.cellsOf t ∧ ∀ (i : Nat) (u : TypeId) (o : Nat), L[i]? = some (u, o) → ∃ (n : Nat) (y : DataW H × List MemPlace), DataW.trod enc P W base spare held n u ((cs.drop o).take (P.cellsOf u)) = some y ∧
      ∀ K : Nat, (x.1.weights P t).all (· ≤ K) = true → (y.1.weights P u).all (· ≤ K) = true := by
  obtain ⟨xs, n, rfl, rfl, hlen, hn, hf⟩ := DataW.trod_struct ht h
  refine ⟨hlen, fun i u o hi => ?_⟩
  subst hL
  simp only [List.getElem?_map, Option.map_eq_some_iff] at hi
  obtain ⟨f, h1, h2⟩ := hi
  obtain ⟨rfl, rfl⟩ := Prod.mk.inj h2
  have hf' : fs[i]? = some f := by simpa using h1
  have hil : i < xs.length := by
    rw [hn]
    rcases Nat.lt_or_ge i fs.size with h | h
    · exact h
    · rw [Array.getElem?_eq_none h] at hf'; cases hf'
  obtain ⟨y, hy⟩ : ∃ y, xs[i]? = some y := ⟨xs[i], by simp [hil]⟩
  refine ⟨n, y, by rw [hf i f hf', hy], fun K hk => ?_⟩
  simp only [DataW.weights, ht] at hk
  exact weightsEach_get hk (i := i) (by simp [h1]) (by simp [hy])

end
end Go.Ab
