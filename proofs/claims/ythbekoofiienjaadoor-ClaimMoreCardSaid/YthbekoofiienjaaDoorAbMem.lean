/-
  The abstract machine's operations on memory against Go's.
-/
import Derived.Test.YthbekoofiienjaaDoorAbOp
import Derived.Laws.Tables
namespace Go.Ab
open Go

section
variable {P : Program} {w : World} {V : Vw}

/-- A list of cells, told one by one. -/
structure CR (V : Vw) (l : List AV) (cs : Array Value) : Prop where
  len : l.length = cs.size
  get : ∀ j v, l[j]? = some v → VR V v (cs.getD j Go.undef)
  one : ∀ v ∈ l, oneCell v = true

theorem cr_of_cellsOf {x : AV} {xv : Value} {l : List AV} (h : cellsOf x = some l) (hx : VR V x xv) : CR V l xv.cells := by
  have single : ∀ {x : AV} {xv : Value}, VR V x xv → oneCell x = true → xv.cells = #[xv] → CR V [x] xv.cells := by
    intro x xv hx ho hc
    rw [hc]
    refine ⟨rfl, fun j v hj => ?_, by simpa using ho⟩
    cases j with
    | zero => simp at hj; subst hj; simpa using hx
    | succ j => simp at hj
  cases hx <;> simp only [cellsOf, Option.some.injEq, reduceCtorEq] at h <;> subst h
  case agg cells cs h1 h2 h3 => exact ⟨h1, h2, h3⟩
  all_goals (refine single ?_ rfl rfl)
  · exact .int _ _
  · exact .bool _
  · exact .str _
  · exact .nilP
  · exact .nilM
  · exact .nilF
  · exact .nilI
  · exact .slnil _ (by assumption)
  · exact .sl _ _ _ _ _ _ _ (by assumption) (by assumption) (by assumption) (by assumption) (by assumption) (by assumption) (by assumption) (by assumption) (by assumption)
  · exact .rp _ _ _ _ (by assumption) (by assumption) (by assumption)
  · exact .ptr _ _ _ _ (by assumption)
  · exact .os _ _ _ _ _ _ _ _ (by assumption) (by assumption) (by assumption) (by assumption)
  · exact .mp _ _ _ (by assumption)
  · exact .pm _ _ _ _ (by assumption) (by assumption) (by assumption) (by assumption) (by assumption) (by assumption)
  · exact .fn _ _ _ _ _ (by assumption) (by assumption) (by assumption) (by assumption)
  · exact .yl _ _ _ (by assumption)

theorem CR.agg {l : List AV} {cs : Array Value} (h : CR V l cs) : VR V (.agg l) (.agg cs) := .agg l cs h.len h.get h.one

theorem foldl_set (off : Nat) : ∀ (xs : List Value) (n : Nat) (cs : Array Value),
    ((xs.zipIdx n).foldl (fun (cs : Array Value) (p : Value × Nat) => cs.setIfInBounds (off + p.2) p.1) cs).size = cs.size ∧
    ∀ k, ((xs.zipIdx n).foldl (fun (cs : Array Value) (p : Value × Nat) => cs.setIfInBounds (off + p.2) p.1) cs)[k]? = if off + n ≤ k ∧ k < off + n + xs.length ∧ k < cs.size then xs[k - (off + n)]? else cs[k]?
  | [], n, cs => by simp; omega
  | x :: xs, n, cs => by
    simp only [List.zipIdx_cons, List.foldl_cons]
    obtain ⟨h1, h2⟩ := foldl_set off xs (n + 1) (cs.setIfInBounds (off + n) x)
    refine ⟨by rw [h1]; simp, fun k => ?_⟩
    rw [h2]
    simp only [Array.size_setIfInBounds, Array.getElem?_setIfInBounds, List.length_cons]
    by_cases hk : off + n = k
    · subst hk
      rw [if_neg (by omega), if_pos rfl]
      by_cases hlt : off + n < cs.size
      · rw [if_pos hlt, if_pos ⟨by omega, by omega, hlt⟩]; simp
      · rw [if_neg hlt, if_neg (by omega)]; simp; omega
    · by_cases hc : off + (n + 1) ≤ k ∧ k < off + (n + 1) + xs.length ∧ k < cs.size
      · rw [if_pos hc, if_pos (by omega)]
        rw [show k - (off + n) = (k - (off + (n + 1))) + 1 by omega]
        simp
      · rw [if_neg hc, if_neg hk, if_neg (by omega)]

theorem putAt_get {c x : List AV} {o : Nat} (h : o + x.length ≤ c.length) (k : Nat) : (putAt c o x)[k]? = if o ≤ k ∧ k < o + x.length then x[k - o]? else c[k]? := by
  unfold putAt
  by_cases h1 : k < o
  · rw [if_neg (by omega), List.append_assoc, List.getElem?_append_left (by simp; omega), List.getElem?_take, if_pos h1]
  · by_cases h2 : k < o + x.length
    · rw [if_pos ⟨by omega, h2⟩, List.append_assoc, List.getElem?_append_right (by simp; omega), List.getElem?_append_left (by simp; omega)]
      congr 1; simp; omega
    · rw [if_neg (by omega), List.getElem?_append_right (by simp; omega), List.getElem?_drop]
      congr 1; simp; omega
theorem putAt_length {c x : List AV} {o : Nat} (h : o + x.length ≤ c.length) : (putAt c o x).length = c.length := by simp [putAt]; omega
theorem putAt_mem {c x : List AV} {o : Nat} {v : AV} (h : v ∈ putAt c o x) : v ∈ c ∨ v ∈ x := by
  simp only [putAt, List.mem_append] at h
  rcases h with (h | h) | h
  · exact .inl (List.mem_of_mem_take h)
  · exact .inr h
  · exact .inl (List.mem_of_mem_drop h)

theorem getD_eq {cs : Array Value} {k : Nat} : cs.getD k Go.undef = (cs[k]?).getD Go.undef := by simp

/-- Cells are written. -/
theorem CR.put {c x : List AV} {cs xs cs' : Array Value} {o : Nat} (hc : CR V c cs) (hx : CR V x xs) (ho : o + x.length ≤ c.length) (hs : cs'.size = cs.size)
    (hg : ∀ k, k < cs.size → cs'[k]? = if o ≤ k ∧ k < o + xs.size then xs[k - o]? else cs[k]?) : CR V (putAt c o x) cs' := by
  refine ⟨by rw [putAt_length ho, hs]; exact hc.len, fun j v hj => ?_, fun v hv => ?_⟩
  · rw [putAt_get ho] at hj
    have hlen := hx.len
    have hjc : j < cs.size := by
      have h0 := hc.len
      rcases Nat.lt_or_ge j c.length with h | h
      · omega
      · rw [if_neg (by omega), List.getElem?_eq_none h] at hj; cases hj
    rw [getD_eq, hg j hjc, ← hlen]
    split
    · rename_i h; rw [if_pos h] at hj; simpa using hx.get _ v hj
    · rename_i h; rw [if_neg h] at hj; simpa using hc.get _ v hj
  · rcases putAt_mem hv with h | h
    · exact hc.one v h
    · exact hx.one v h

/-- The first cells of a block, told. -/
structure CP (V : Vw) (l : List AV) (cs : Array Value) : Prop where
  len : l.length ≤ cs.size
  get : ∀ j v, l[j]? = some v → VR V v (cs.getD j Go.undef)
  one : ∀ v ∈ l, oneCell v = true

theorem CR.cp {l : List AV} {cs : Array Value} (h : CR V l cs) : CP V l cs := ⟨Nat.le_of_eq h.len, h.get, h.one⟩

theorem CP.put {c x : List AV} {cs xs cs' : Array Value} {o : Nat} (hc : CP V c cs) (hx : CR V x xs) (ho : o + x.length ≤ c.length) (hs : cs'.size = cs.size)
    (hg : ∀ k, k < cs.size → cs'[k]? = if o ≤ k ∧ k < o + xs.size then xs[k - o]? else cs[k]?) : CP V (putAt c o x) cs' := by
  refine ⟨by rw [putAt_length ho, hs]; exact hc.len, fun j v hj => ?_, fun v hv => ?_⟩
  · rw [putAt_get ho] at hj
    have hlen := hx.len
    have hjc : j < cs.size := by
      have h0 := hc.len
      rcases Nat.lt_or_ge j c.length with h | h
      · omega
      · rw [if_neg (by omega), List.getElem?_eq_none h] at hj; cases hj
    rw [getD_eq, hg j hjc, ← hlen]
    split
    · rename_i h; rw [if_pos h] at hj; simpa using hx.get _ v hj
    · rename_i h; rw [if_neg h] at hj; simpa using hc.get _ v hj
  · rcases putAt_mem hv with h | h
    · exact hc.one v h
    · exact hx.one v h

/-- The parts of a composite. -/
theorem fill_ok {place : Nat → Option (Nat × Nat)} : ∀ (ps : List (Nat × Nat × AV)) (qs : List (Nat × Value)) (c c' : List AV) (cs : Array Value), fillAt c ps = some c' → CR V c cs →
    ps.length = qs.length → (∀ (j o n : Nat) (v : AV), ps[j]? = some (o, n, v) → ∃ i xv, qs[j]? = some (i, xv) ∧ place i = some (o, n) ∧ VR V v xv) →
    ∃ cs', Instr.fill place cs qs = some cs' ∧ CR V c' cs'
  | [], qs, c, c', cs, h, hc, hl, _ => by
    have : qs = [] := by cases qs <;> simp_all
    subst this
    simp [fillAt] at h; subst h
    exact ⟨cs, by simp [Instr.fill], hc⟩
  | (o, n, v) :: ps, qs, c, c', cs, h, hc, hl, hp => by
    cases qs with
    | nil => simp at hl
    | cons q qs =>
      simp only [fillAt, Option.bind_eq_some_iff] at h
      obtain ⟨x, hx, h⟩ := h
      split at h
      case isFalse => cases h
      rename_i hn
      obtain ⟨i, xv, h1, h2, h3⟩ := hp 0 o n v rfl
      simp at h1; subst h1
      have hxc := cr_of_cellsOf hx h3
      obtain ⟨f1, f2⟩ := foldl_set o xv.cells.toList 0 cs
      have hz : xv.cells.zipIdx.foldl (fun (cs : Array Value) (p : Value × Nat) => cs.setIfInBounds (o + p.2) p.1) cs = (xv.cells.toList.zipIdx 0).foldl (fun (cs : Array Value) (p : Value × Nat) => cs.setIfInBounds (o + p.2) p.1) cs := by
        rw [← Array.foldl_toList]; simp
      have hxl := hxc.len
      have hcl := hc.len
      have hput : CR V (putAt c o x) (xv.cells.zipIdx.foldl (fun (cs : Array Value) (p : Value × Nat) => cs.setIfInBounds (o + p.2) p.1) cs) := by
        rw [hz]
        refine hc.put hxc (by omega) f1 fun k hk => ?_
        rw [f2]
        simp only [Nat.add_zero, Array.length_toList, Array.getElem?_toList]
        by_cases h : o ≤ k ∧ k < o + xv.cells.size
        · rw [if_pos ⟨h.1, h.2, hk⟩, if_pos h]
        · rw [if_neg (by omega), if_neg h]
      obtain ⟨cs', h4, h5⟩ := fill_ok ps qs _ c' _ h hput (by simpa using hl) (fun j o' n' v' hj => by simpa using hp (j + 1) o' n' v' (by simpa using hj))
      refine ⟨cs', ?_, h5⟩
      simp only [Instr.fill, h2]
      rw [if_neg (by simp; omega)]
      exact h4

theorem cr_zero {z : AV} {zc : Value} {l : List AV} (h : chkV z zc = true) (hl : cellsOf z = some l) : CR V l zc.cells := cr_of_cellsOf hl (chkV_ok z zc h)

/-! ### loading and storing -/

variable {K : Nat → C → Code → Prop} {c : Cf} {s : St}

theorem or_cells {l i : Nat} {cl : List AV} (hI : Inv K c s) (h : getObj s l i = some (.cells cl)) :
    ∃ b cs el, c.sg l i = some b ∧ c.w.heap[b]? = some (.cells cs el (0, 0)) ∧ CP c.vw cl cs := by
  obtain ⟨b, h1, cs, el, h2, h3, h4, h5⟩ := hI.obj l i _ h rfl
  exact ⟨b, cs, el, h1, h2, h3, h4, h5⟩

theorem cell_of {w : World} {b k : Nat} {cs : Array Value} {el : TypeId} {fz : Nat × Nat} (h : w.heap[b]? = some (.cells cs el fz)) : w.cell? ⟨b, k, none⟩ = cs[k]? := by simp [World.cell?, h]

/-- What stands behind a pointer. -/
theorem cells_at {x : AV} {xv : Value} {cl : List AV} (hI : Inv K c s) (h : cellsAt s x = some cl) (hx : VR c.vw x xv) :
    ∃ (b o : Nat) (f : Nat → Value), xv = .pointer (some ⟨b, o, none⟩) ∧ (∀ j, j < cl.length → c.w.cell? ⟨b, o + j, none⟩ = some (f j)) ∧ (∀ j v, cl[j]? = some v → VR c.vw v (f j)) ∧ ∀ v ∈ cl, oneCell v = true := by
  cases hx <;> simp only [cellsAt, reduceCtorEq, Option.some.injEq] at h
  · rename_i cells b o f hc hv hp
    subst h
    exact ⟨b, o, f, rfl, fun j hj => (hc j hj).1, hv, hp.2⟩
  · rename_i l i o b hsg
    cases hg : getObj s l i with
    | none => simp [hg] at h
    | some ob =>
      cases ob <;> simp [hg] at h
      subst h
      rename_i l0
      obtain ⟨b', cs, el, h1, h2, h3⟩ := or_cells hI hg
      have : b' = b := by have := hsg; simp only [Cf.vw] at this; rw [h1] at this; cases this; rfl
      subst this
      refine ⟨b', o, fun j => cs.getD (o + j) Go.undef, rfl, fun j hj => ?_, fun j v hj => ?_, fun v hv => h3.one v (List.mem_of_mem_drop hv)⟩
      · show _ = some (cs.getD (o + j) Go.undef)
        rw [cell_of h2, getD_eq]
        have hlt : o + j < cs.size := by have := h3.len; simp at hj; omega
        simp [hlt]
      · rw [List.getElem?_drop] at hj; exact h3.get _ v hj

theorem r_load {n t : Nat} {ag : Bool} {x v : AV} {xv : Value} {cl : List AV} {i : TyI} (hI : Inv K c s) (hT : TyOK P t i) (hn : i.size = n) (hag : isAggK i.k = ag)
    (h : cellsAt s x = some cl) (hv : ofCells n ag cl = some v) (hx : VR c.vw x xv) : ∃ cv, (Instr.loadAt t xv).run P c.w = .ok cv c.w ∧ VR c.vw v cv := by
  obtain ⟨b, o, f, rfl, h1, h2, h3⟩ := cells_at hI h hx
  unfold Instr.loadAt loadVar
  simp only [Instr.sureAddr, Sem.run_bind, Sem.run_pure, Result.andThen_ok, hT.agg]
  simp only [hag]
  unfold ofCells at hv
  cases ag with
  | true =>
    simp only [if_true] at hv ⊢
    split at hv
    case isFalse => cases hv
    rename_i hle
    cases hv
    simp only [Sem.run_bind, hT.size, hn, Result.andThen_ok]
    rw [run_loadCells c.w ⟨b, o, none⟩ n f (fun j hj => by rw [add_eq]; exact h1 j (by omega))]
    refine ⟨_, rfl, .agg _ _ (by simp; omega) (fun j v hj => ?_) (fun v hv => h3 v (List.mem_of_mem_take hv))⟩
    rw [List.getElem?_take] at hj
    split at hj
    case isFalse => cases hj
    rename_i hjn
    rw [getD_eq]
    simpa [hjn] using h2 j v hj
  | false =>
    simp only [Bool.false_eq_true, if_false] at hv ⊢
    have h0 : 0 < cl.length := by cases cl <;> simp_all
    have := h1 0 h0
    simp only [Nat.add_zero] at this
    rw [run_load, this]
    refine ⟨_, rfl, h2 0 v ?_⟩
    cases cl <;> simp_all

theorem oneCell_val {v : AV} {x : Value} (h : VR V v x) (ho : oneCell v = true) : x.oneCell' = true := by
  cases h <;> simp [oneCell] at ho <;> rfl

theorem run_storeCells (P : Program) (b o : Nat) : ∀ (vs : List Value) (i : Nat) (w : World) (cs : Array Value) (el : TypeId), w.heap[b]? = some (.cells cs el (0, 0)) → o + i + vs.length ≤ cs.size →
    (∀ v ∈ vs, v.oneCell' = true) →
    ∃ w' cs', (storeCells ⟨b, o, none⟩ vs i).run P w = .ok () w' ∧ w'.heap[b]? = some (.cells cs' el (0, 0)) ∧ cs'.size = cs.size ∧ w'.heap.size = w.heap.size ∧ (∀ b', b' ≠ b → w'.heap[b']? = w.heap[b']?) ∧
      (∀ k, cs'[k]? = if o + i ≤ k ∧ k < o + i + vs.length then vs[k - (o + i)]? else cs[k]?) ∧ SameIO w w'
  | [], i, w, cs, el, hb, _, _ => ⟨w, cs, by simp [storeCells], hb, rfl, rfl, fun _ _ => rfl, fun k => by rw [if_neg (by simp)], .rfl'⟩
  | v :: vs, i, w, cs, el, hb, hl, ho => by
    simp only [List.length_cons] at hl
    have hcell : w.cell? ⟨b, o + i, none⟩ = some cs[o + i] := (cell_of hb).trans (Array.getElem?_eq_getElem (by omega))
    have hfz : w.frozen? ⟨b, o + i, none⟩ = false := by simp [World.frozen?, hb]
    have hst : (store (⟨b, o + i, none⟩ : Addr) v).run P w = .ok () (w.setCell ⟨b, o + i, none⟩ v) := by
      rw [run_store P w _ v _ (ho v (by simp))]
      simp [hcell, hfz]
    have hb1 : (w.setCell ⟨b, o + i, none⟩ v).heap[b]? = some (.cells (cs.setIfInBounds (o + i) v) el (0, 0)) := by
      have hlt := heap_lt hb
      simp only [World.setCell, Array.getElem?_modify, hb]
      simp
    have hsz : (w.setCell ⟨b, o + i, none⟩ v).heap.size = w.heap.size := by simp [World.setCell]
    have hoth : ∀ b', b' ≠ b → (w.setCell ⟨b, o + i, none⟩ v).heap[b']? = w.heap[b']? := by
      intro b' hne
      simp [World.setCell, Array.getElem?_modify, Ne.symm hne]
    obtain ⟨w', cs', h1, h2, h3, h4, h5, h6, h7⟩ := run_storeCells P b o vs (i + 1) _ _ el hb1 (by simp; omega) (fun x hx => ho x (by simp [hx]))
    refine ⟨w', cs', ?_, h2, by rw [h3]; simp, by rw [h4, hsz], fun b' hne => by rw [h5 b' hne, hoth b' hne], fun k => ?_, SameIO.trans (b := w.setCell ⟨b, o + i, none⟩ v) ⟨rfl, rfl, rfl, fun a => World.frozen?_setCell _ _ _ _⟩ h7⟩
    · simp only [storeCells, Sem.run_bind, add_eq, hst, Result.andThen_ok]; exact h1
    · rw [h6]
      simp only [Array.getElem?_setIfInBounds, List.length_cons]
      by_cases hk : o + i = k
      · subst hk
        rw [if_neg (by omega), if_pos rfl, if_pos (by omega), if_pos (by omega)]
        simp
      · by_cases hc : o + (i + 1) ≤ k ∧ k < o + (i + 1) + vs.length
        · rw [if_pos hc, if_pos (by omega), show k - (o + i) = (k - (o + (i + 1))) + 1 by omega]
          simp
        · rw [if_neg hc, if_neg hk, if_neg (by omega)]

mutual
theorem clamp_low {l : Nat} {v v' : AV} (h : clamp l v = some v') : low l v' = true := by
  cases v with
  | sl r t =>
    simp [clamp] at h; subst h
    cases t with
    | site a b c => by_cases h : a ≤ l <;> simp [clampTok, low, lowTok, h]
    | _ => rfl
  | ptr l' i o => simp [clamp] at h; obtain ⟨h1, rfl⟩ := h; simp [low, h1]
  | os l' i o n e => simp [clamp] at h; obtain ⟨h1, rfl⟩ := h; simp [low, h1]
  | mp l' i => simp [clamp] at h; obtain ⟨h1, rfl⟩ := h; simp [low, h1]
  | yl l' i => simp [clamp] at h; obtain ⟨h1, rfl⟩ := h; simp [low, h1]
  | fn f a b =>
    simp only [clamp, Option.bind_eq_some_iff, Option.map_eq_some_iff] at h
    obtain ⟨a', h1, b', h2, rfl⟩ := h
    simp [low, clamps_low h1, clamps_low h2]
  | agg c => simp only [clamp, Option.map_eq_some_iff] at h; obtain ⟨a', h1, rfl⟩ := h; simp [low, clamps_low h1]
  | tup c => simp only [clamp, Option.map_eq_some_iff] at h; obtain ⟨a', h1, rfl⟩ := h; simp [low, clamps_low h1]
  | undef => simp [clamp] at h
  | _ => simp [clamp] at h; subst h; rfl
theorem clamps_low {l : Nat} {c c' : List AV} (h : clamps l c = some c') : lows l c' = true := by
  cases c with
  | nil => simp [clamps] at h; subst h; rfl
  | cons v r =>
    simp only [clamps, Option.bind_eq_some_iff, Option.map_eq_some_iff] at h
    obtain ⟨v', h1, r', h2, rfl⟩ := h
    simp [lows, clamp_low h1, clamps_low h2]
end

theorem vr_erase_tok {r : List (List AV)} {t : Tok} {x : Value} (h : VR V (.sl r t) x) : VR V (.sl r (eraseTok t)) x := by
  cases h with
  | slnil _ h => rcases h with rfl | rfl | rfl <;> exact .slnil _ (by simp [eraseTok])
  | sl _ _ b o cap e f he ht hr hcap hfull hc hv hp hs =>
    cases t with
    | site l p g => exact .sl r .any b o cap e f he (by simp) hr hcap (by simp) hc hv hp trivial
    | nil => exact absurd rfl ht
    | any => exact .sl r .any b o cap e f he (by simp) hr hcap (by simp) hc hv hp trivial
    | full => exact .sl r .full b o cap e f he (by simp) hr hcap hfull hc hv hp trivial

theorem clamp_one {l : Nat} {v v' : AV} (h : clamp l v = some v') (h1 : oneCell v = true) : oneCell v' = true := by
  cases v with
  | fn f a b =>
    simp only [clamp, Option.bind_eq_some_iff, Option.map_eq_some_iff] at h
    obtain ⟨a', h1, b', h2, rfl⟩ := h; rfl
  | agg c => simp [oneCell] at h1
  | tup c => simp [oneCell] at h1
  | undef => simp [clamp] at h
  | sl r t => simp [clamp] at h; subst h; rfl
  | ptr l' i o => simp [clamp] at h; obtain ⟨_, rfl⟩ := h; rfl
  | os l' i o n e => simp [clamp] at h; obtain ⟨_, rfl⟩ := h; rfl
  | mp l' i => simp [clamp] at h; obtain ⟨_, rfl⟩ := h; rfl
  | yl l' i => simp [clamp] at h; obtain ⟨_, rfl⟩ := h; rfl
  | _ => simp [clamp] at h; subst h; rfl

mutual
theorem clamp_vr {l : Nat} {v v' : AV} {x : Value} (h : clamp l v = some v') (hx : VR V v x) : VR V v' x := by
  cases v with
  | sl r t =>
    simp [clamp] at h; subst h
    cases t <;> simp only [clampTok] <;> (try exact hx)
    split
    · exact hx
    · exact vr_erase_tok hx
  | ptr l' i o => simp [clamp] at h; obtain ⟨h1, rfl⟩ := h; exact hx
  | os l' i o n e => simp [clamp] at h; obtain ⟨h1, rfl⟩ := h; exact hx
  | mp l' i => simp [clamp] at h; obtain ⟨h1, rfl⟩ := h; exact hx
  | yl l' i => simp [clamp] at h; obtain ⟨h1, rfl⟩ := h; exact hx
  | fn f a b =>
    simp only [clamp, Option.bind_eq_some_iff, Option.map_eq_some_iff] at h
    obtain ⟨a', h1, b', h2, rfl⟩ := h
    cases hx with
    | fn _ _ _ fc cc e1 e2 e3 e4 =>
      obtain ⟨g1, g2⟩ := clamps_vr h1 e1 e3
      obtain ⟨g3, g4⟩ := clamps_vr h2 e2 e4
      exact .fn f a' b' fc cc g1 g3 g2 g4
  | agg c =>
    simp only [clamp, Option.map_eq_some_iff] at h
    obtain ⟨a', h1, rfl⟩ := h
    cases hx with
    | agg _ cs e1 e2 e3 =>
      obtain ⟨g1, g2⟩ := clamps_vr h1 e1 e2
      exact .agg a' cs g1 g2 (clamps_one h1 e3)
  | tup c =>
    simp only [clamp, Option.map_eq_some_iff] at h
    obtain ⟨a', h1, rfl⟩ := h
    cases hx with
    | tup _ cs e1 e2 =>
      obtain ⟨g1, g2⟩ := clamps_vr h1 e1 e2
      exact .tup a' cs g1 g2
  | undef => simp [clamp] at h
  | _ => simp [clamp] at h; subst h; exact hx
theorem clamps_vr {l : Nat} {c c' : List AV} {cs : Array Value} (h : clamps l c = some c') (h1 : c.length = cs.size) (h2 : ∀ j v, c[j]? = some v → VR V v (cs.getD j Go.undef)) :
    c'.length = cs.size ∧ ∀ j v, c'[j]? = some v → VR V v (cs.getD j Go.undef) := by
  cases c with
  | nil => simp [clamps] at h; subst h; exact ⟨h1, h2⟩
  | cons v r =>
    simp only [clamps, Option.bind_eq_some_iff, Option.map_eq_some_iff] at h
    obtain ⟨v', h3, r', h4, rfl⟩ := h
    have h5 := clamp_vr h3 (h2 0 v rfl)
    obtain ⟨g1, g2⟩ := clamps_vr (cs := cs.extract 1 cs.size) h4 (by simp at h1 ⊢; omega) (fun j v hj => by
      have := h2 (j + 1) v (by simpa using hj)
      rw [getD_eq] at this ⊢
      rw [Array.getElem?_extract]
      have hlt : j < r.length := by
        rcases Nat.lt_or_ge j r.length with hl | hl
        · exact hl
        · rw [List.getElem?_eq_none hl] at hj; cases hj
      simp at h1
      rw [if_pos (by omega), Nat.add_comm 1 j]; exact this)
    simp at h1 g1
    refine ⟨by simp; omega, fun j v hj => ?_⟩
    cases j with
    | zero => simp at hj; subst hj; exact h5
    | succ j =>
      simp at hj
      have := g2 j v hj
      rw [getD_eq] at this ⊢
      rw [Array.getElem?_extract] at this
      have hlt : j < r'.length := by
        rcases Nat.lt_or_ge j r'.length with hl | hl
        · exact hl
        · rw [List.getElem?_eq_none hl] at hj; cases hj
      rw [if_pos (by omega), Nat.add_comm 1 j] at this; exact this
theorem clamps_one {l : Nat} {c c' : List AV} (h : clamps l c = some c') (h1 : ∀ v ∈ c, oneCell v = true) : ∀ v ∈ c', oneCell v = true := by
  cases c with
  | nil => simp [clamps] at h; subst h; simp
  | cons v r =>
    simp only [clamps, Option.bind_eq_some_iff, Option.map_eq_some_iff] at h
    obtain ⟨v', h3, r', h4, rfl⟩ := h
    intro x hx
    rcases List.mem_cons.1 hx with rfl | hx
    · exact clamp_one h3 (h1 v (by simp))
    · exact clamps_one h4 (fun v hv => h1 v (by simp [hv])) x hx
end

theorem r_store {n t : Nat} {a x : AV} {av xv : Value} {s' : St} {i : TyI} (hI : Inv K c s) (hT : TyOK P t i) (hn : i.size = n)
    (h : storeAt s n a x = some s') (ha : VR c.vw a av) (hx : VR c.vw x xv) : ∃ c', (Instr.storeAt t av xv).run P c.w = .ok () c'.w ∧ Inv K c' s' ∧ Ext c c' := by
  cases ha <;> simp only [storeAt, reduceCtorEq] at h
  rename_i l i0 o b hsg
  cases hg : getObj s l i0 with
  | none => simp [hg] at h
  | some ob =>
    cases ob <;> simp only [hg, reduceCtorEq] at h
    rename_i cl
    simp only [Option.bind_eq_some_iff] at h
    obtain ⟨xs, h1, h⟩ := h
    split at h
    case isFalse => cases h
    rename_i hlen
    obtain ⟨b', cs, el, h2, h3, h4⟩ := or_cells hI hg
    have : b' = b := by have := hsg; simp only [Cf.vw] at this; rw [h2] at this; cases this; rfl
    subst this
    have hxc := cr_of_cellsOf h1 hx
    have hx1 := hxc.len
    have hx2 := h4.len
    -- what is stored, told at that level
    have hys : ∃ ys, CR c.vw ys xv.cells ∧ s' = setObj s l i0 (.cells (putAt cl o ys)) ∧ ∀ v ∈ ys, low l v = true := by
      split at h
      · rename_i hl
        cases h
        refine ⟨xs, hxc, rfl, fun v hv => ?_⟩
        obtain ⟨j, hj, rfl⟩ := List.getElem_of_mem hv
        have := (hxc.get j _ (List.getElem?_eq_getElem hj)).low hI
        rwa [show s.length - 1 = l by omega] at this
      · simp only [Option.map_eq_some_iff] at h
        obtain ⟨ys, h5, rfl⟩ := h
        obtain ⟨g1, g2⟩ := clamps_vr h5 hxc.len hxc.get
        exact ⟨ys, ⟨g1, g2, clamps_one (V := c.vw) h5 hxc.one⟩, rfl, lows_mem (clamps_low h5)⟩
    obtain ⟨ys, hyc, rfl, hylo⟩ := hys
    have hy1 := hyc.len
    have hone : ∀ v ∈ xv.cells.toList, v.oneCell' = true := by
      intro v hv
      obtain ⟨j, hj, rfl⟩ := List.getElem_of_mem hv
      have hj' : j < xs.length := by simpa [hx1] using hj
      have := oneCell_val (hxc.get j xs[j] (by simp [hj'])) (hxc.one _ (by simp))
      rw [getD_lt (by omega)] at this
      simpa using this
    obtain ⟨w', cs', r1, r2, r3, r4, r5, r6, r7⟩ := run_storeCells P b' o xv.cells.toList 0 c.w cs el h3 (by simp; omega) hone
    have hlo : Ab.lowO l (.cells (putAt cl o ys)) := fun v hv => by
      rcases putAt_mem hv with h | h
      · exact hI.lowO _ _ _ hg v h
      · exact hylo v h
    obtain ⟨hi, he⟩ := inv_set (w' := w') hI hlo (by simp) h2 hg r7 r5 r4 (fun r hr => by rw [h3] at hr; cases hr) (o := .cells (putAt cl o ys)) (fun hE => by
      have hc' : CP (Cf.vw { c with w := w' }) (putAt cl o ys) cs' := by
        have e1 : CP (Cf.vw { c with w := w' }) cl cs := ⟨h4.len, fun j v hj => (h4.get j v hj).ext hE, h4.one⟩
        have e2 : CR (Cf.vw { c with w := w' }) ys xv.cells := ⟨hyc.len, fun j v hj => (hyc.get j v hj).ext hE, hyc.one⟩
        refine e1.put e2 (by omega) r3 fun k hk => ?_
        rw [r6]
        simp
      exact ⟨cs', el, r2, hc'.len, hc'.get, hc'.one⟩)
    refine ⟨_, ?_, hi, he⟩
    unfold Instr.storeAt storeVar
    simp only [Instr.sureAddr, Sem.run_bind, Sem.run_pure, Result.andThen_ok, hT.size]
    rw [Sem.run_ite, if_neg (by omega)]
    exact r1

/-- A new object in the uppermost frame. -/
theorem r_new {l i : Nat} {cl : List AV} {cs : Array Value} {s' : St} (hI : Inv K c s) (h : newObj s (.cells cl) = some (l, i, s')) (hc : CP c.vw cl cs) (el : TypeId) :
    ∃ c', (newRow el cs).run P c.w = .ok ⟨c.w.heap.size, 0, none⟩ c'.w ∧ Inv K c' s' ∧ Ext c c' ∧ c'.sg l i = some c.w.heap.size := by
  have hlo : Ab.lowO l (.cells cl) := fun v hv => by
    obtain ⟨j, hj, rfl⟩ := List.getElem_of_mem hv
    have := (hc.get j _ (List.getElem?_eq_getElem hj)).low hI
    rwa [← newObj_lev h] at this
  obtain ⟨c', hc', h1, h2⟩ := inv_new (ob := .cells cs el) hI h hlo (by simp) (fun _ _ _ h => by cases h; rfl) (fun c' hc' hE => by
    subst hc'
    exact ⟨cs, el, alloc_new, hc.len, fun j v hj => (hc.get j v hj).ext hE, hc.one⟩)
  refine ⟨c', ?_, h1, h2, by subst hc'; simp⟩
  subst hc'
  unfold newRow
  simp only [Sem.run_bind, run_newObj, Result.andThen_ok, Sem.run_pure]
  rfl

/-! ### append -/

theorem flatten_get {e : Nat} (he : 0 < e) : ∀ (rows : List (List AV)) (_ : ∀ (i : Nat) (r : List AV), rows[i]? = some r → r.length = e) (q : Nat),
    rows.flatten[q]? = (rows[q / e]?).bind fun r => r[q % e]?
  | [], _, q => by simp
  | r :: rows, h, q => by
    have hr := h 0 r rfl
    rw [List.flatten_cons]
    by_cases hq : q < e
    · rw [List.getElem?_append_left (by omega), Nat.div_eq_of_lt hq, Nat.mod_eq_of_lt hq]; simp
    · rw [List.getElem?_append_right (by omega), flatten_get he rows (fun i r hi => h (i + 1) r (by simpa using hi)), hr]
      have h1 : q / e = (q - e) / e + 1 := by rw [Nat.div_eq_sub_div he (by omega)]
      have h2 : q % e = (q - e) % e := Nat.mod_eq_sub_mod (by omega)
      rw [h1, h2]
      simp
theorem flatten_len {e : Nat} : ∀ (rows : List (List AV)) (_ : ∀ (i : Nat) (r : List AV), rows[i]? = some r → r.length = e), rows.flatten.length = rows.length * e
  | [], _ => by simp
  | r :: rows, h => by
    have hr := h 0 r rfl
    rw [List.flatten_cons, List.length_append, flatten_len rows (fun i r hi => h (i + 1) r (by simpa using hi)), hr, List.length_cons, Nat.add_mul]
    omega

theorem rowsOf_len (e : Nat) : ∀ (n : Nat) (l : List AV), (rowsOf e n l).length = n
  | 0, _ => rfl
  | n + 1, l => by simp [rowsOf, rowsOf_len e n]
theorem rowsOf_get (e : Nat) : ∀ (n : Nat) (l : List AV) (i : Nat), i < n → (rowsOf e n l)[i]? = some ((l.drop (i * e)).take e)
  | 0, _, i, h => by omega
  | n + 1, l, 0, _ => by simp [rowsOf]
  | n + 1, l, i + 1, h => by
    simp only [rowsOf, List.getElem?_cons_succ]
    have h1 : (i + 1) * e = e + i * e := by rw [Nat.add_mul]; omega
    rw [rowsOf_get e n _ i (by omega), List.drop_drop, h1]

theorem cell_heap {w w' : World} (h : w'.heap = w.heap) (a : Addr) : w'.cell? a = w.cell? a := by simp [World.cell?, h]

theorem cr_rows {V : Vw} {rows : List (List AV)} {e : Nat} {f : Nat → Nat → Value} (he : 0 < e) (hrow : ∀ (i : Nat) (r : List AV), rows[i]? = some r → r.length = e)
    (hv : ∀ (i : Nat) (r : List AV) (j : Nat) (v : AV), rows[i]? = some r → r[j]? = some v → VR V v (f i j))
    (hp : ∀ (i : Nat) (r : List AV), rows[i]? = some r → purs r = true ∧ ∀ v ∈ r, oneCell v = true) :
    CR V rows.flatten ((List.range (rows.length * e)).map fun q => f (q / e) (q % e)).toArray := by
  refine ⟨by simp [flatten_len rows hrow], fun j v hj => ?_, fun v hv => ?_⟩
  · rw [flatten_get he rows hrow] at hj
    simp only [Option.bind_eq_some_iff] at hj
    obtain ⟨r, h1, h2⟩ := hj
    have hlt : j / e < rows.length := by
      rcases Nat.lt_or_ge (j / e) rows.length with hl | hl
      · exact hl
      · rw [List.getElem?_eq_none hl] at h1; cases h1
    have hj' : j < rows.length * e := (Nat.div_lt_iff_lt_mul he).1 hlt
    rw [getD_eq]
    simp [hj']
    exact hv _ r _ v h1 h2
  · obtain ⟨r, hr1, hr2⟩ := List.mem_flatten.1 hv
    obtain ⟨i, hi, rfl⟩ := List.getElem_of_mem hr1
    exact (hp i _ (List.getElem?_eq_getElem hi)).2 v hr2

/-- What is told of the rows of a slice that is read. -/
theorem first_cells {e : Nat} {y : AV} {yv : Value} {ys : List (List AV)} (hI : Inv K c s) (h : rowsAt s e y = some ys) (hf : headFit e ys = true) (he : 0 < e) (hy : VR c.vw y yv) :
    (Builtin.lenOf yv).run P c.w = .ok ys.length c.w ∧ (∀ (i : Nat) (r : List AV), ys[i]? = some r → r.length = e ∧ purs r = true) ∧
    ∃ cs, (∀ w', w'.heap = c.w.heap → (Builtin.firstCells e ys.length yv).run P w' = .ok cs w') ∧ CR c.vw ys.flatten cs := by
  cases hy <;> simp only [rowsAt, reduceCtorEq] at h
  case str l =>
    split at h
    case isFalse => cases h
    rename_i he1
    subst he1
    cases h
    have hone : ∀ (i : Nat) (r : List AV), (l.map fun b => [AV.int .u8 b.toNat])[i]? = some r → r.length = 1 ∧ purs r = true := by
      intro i r hi
      simp only [List.getElem?_map, Option.map_eq_some_iff] at hi
      obtain ⟨b, _, rfl⟩ := hi
      simp [purs, pur]
    refine ⟨by simp [Builtin.lenOf, ByteArray.size], hone, (l.map fun b => Value.int .u8 b.toNat).toArray, ?_, ?_⟩
    · intro w' _
      simp only [Builtin.firstCells, Sem.run_pure, List.length_map, extract_mk, List.drop_zero, List.take_length]
      simp
    · have hfl : (l.map fun b => [AV.int .u8 b.toNat]).flatten = l.map fun b => AV.int .u8 b.toNat := by
        clear hone hf
        induction l with
        | nil => rfl
        | cons b l ih => simp [ih]
      rw [hfl]
      refine ⟨by simp, fun j v hj => ?_, fun v hv => ?_⟩
      · simp only [List.getElem?_map, Option.map_eq_some_iff] at hj
        obtain ⟨b, hb, rfl⟩ := hj
        rw [getD_eq]
        simp [hb]
        exact .int _ _
      · simp only [List.mem_map] at hv
        obtain ⟨b, _, rfl⟩ := hv; rfl
  case slnil t ht =>
    cases h
    exact ⟨by simp [Builtin.lenOf], by simp, #[], fun w' _ => by simp [Builtin.firstCells], by simp, by simp, by simp⟩
  case sl rows t b o cap e0 f he0 ht hr hcap hfull hc hv hp hs =>
    obtain rfl : rows = ys := by simpa using h
    have hee : rows ≠ [] → e0 = e := by
      intro hne
      cases rows with
      | nil => exact absurd rfl hne
      | cons r rows => have := hr 0 r rfl; simp [headFit] at hf; omega
    have hrow : ∀ (i : Nat) (r : List AV), rows[i]? = some r → r.length = e := by
      intro i r hi
      have : rows ≠ [] := by rintro rfl; simp at hi
      rw [hr i r hi, hee this]
    refine ⟨by simp [Builtin.lenOf], fun i r hi => ⟨hrow i r hi, (hp i r hi).1⟩, ((List.range (rows.length * e)).map fun q => f (q / e) (q % e)).toArray, ?_, ?_⟩
    · intro w' hw'
      simp only [Builtin.firstCells]
      refine run_loadCells w' _ _ _ fun q hq => ?_
      rw [cell_heap hw']
      have h1 : q / e < rows.length := Nat.div_lt_of_lt_mul (by rw [Nat.mul_comm]; exact hq)
      have hne : rows ≠ [] := by rintro rfl; simp at h1
      obtain rfl := hee hne
      rw [add_eq]
      have := (hc (q / e0) (q % e0) h1 (Nat.mod_lt _ he)).1
      rw [show o + q / e0 * e0 + q % e0 = o + q by have := Nat.div_add_mod q e0; rw [Nat.mul_comm] at this; omega] at this
      exact this
    · exact cr_rows he hrow hv hp
  case os l i o n e0 b o' cap hsg ho hcap he0 =>
    split at h
    case isFalse => cases h
    rename_i he1
    subst he1
    cases hg : getObj s l i with
    | none => simp [hg] at h
    | some ob =>
      cases ob <;> simp only [hg, reduceCtorEq] at h
      rename_i cl
      split at h
      case isFalse => cases h
      rename_i hcond
      cases h
      simp only [Bool.and_eq_true, decide_eq_true_eq] at hcond
      obtain ⟨⟨h1, h2⟩, _⟩ := hcond
      obtain ⟨b', cs, el, h3, h4, h5⟩ := or_cells hI hg
      have : b' = b := by have := hsg; simp only [Cf.vw] at this; rw [h3] at this; cases this; rfl
      subst this
      have hrow : ∀ (i : Nat) (r : List AV), (rowsOf e n (cl.drop o))[i]? = some r → i < n ∧ r = (cl.drop (o + i * e)).take e := by
        intro i r hi
        have hin : i < n := by
          rcases Nat.lt_or_ge i n with hl | hl
          · exact hl
          · rw [List.getElem?_eq_none (by rw [rowsOf_len]; exact hl)] at hi; cases hi
        rw [rowsOf_get e n _ i hin, List.drop_drop] at hi
        exact ⟨hin, by cases hi; rfl⟩
      have hb : ∀ i, i < n → (i + 1) * e ≤ n * e := fun i hi => Nat.mul_le_mul_right _ hi
      have hrl : ∀ (i : Nat) (r : List AV), (rowsOf e n (cl.drop o))[i]? = some r → r.length = e := by
        intro i r hi
        obtain ⟨h6, rfl⟩ := hrow i r hi
        have := hb i h6
        rw [Nat.add_mul] at this
        simp; omega
      rw [rowsOf_len]
      have hflat : ∀ j v, (rowsOf e n (cl.drop o)).flatten[j]? = some v → j < n * e ∧ cl[o + j]? = some v := by
        intro j v hj
        rw [flatten_get he _ hrl] at hj
        simp only [Option.bind_eq_some_iff] at hj
        obtain ⟨r, h6, h7⟩ := hj
        obtain ⟨h8, rfl⟩ := hrow _ _ h6
        rw [List.getElem?_take, if_pos (Nat.mod_lt _ he), List.getElem?_drop] at h7
        have := Nat.div_add_mod j e
        rw [Nat.mul_comm] at this
        refine ⟨(Nat.div_lt_iff_lt_mul he).1 h8, ?_⟩
        rw [← h7]; congr 1; omega
      refine ⟨by simp [Builtin.lenOf], fun i r hi => ⟨hrl i r hi, ?_⟩, ((List.range (n * e)).map fun q => cs.getD (o + q) Go.undef).toArray, ?_, ?_⟩
      · obtain ⟨h6, rfl⟩ := hrow i r hi
        refine pures_of fun v hv => ?_
        refine pures_mem h2 v ?_
        obtain ⟨j, hj, rfl⟩ := List.getElem_of_mem hv
        have := hb i h6
        rw [Nat.add_mul] at this
        simp only [List.length_take, List.length_drop] at hj
        refine List.mem_of_getElem? (i := i * e + j) ?_
        rw [List.getElem?_take, if_pos (by omega), List.getElem?_drop, List.getElem_take, List.getElem_drop]
        rw [List.getElem?_eq_getElem (by omega)]
        congr 1
        congr 1
        omega
      · intro w' hw'
        simp only [Builtin.firstCells]
        refine run_loadCells w' _ _ _ fun q hq => ?_
        rw [cell_heap hw']
        rcases ho with rfl | rfl
        · simp at hq
        · rw [add_eq, cell_of h4, getD_eq]
          have : o' + q < cs.size := by have := h5.len; omega
          simp [this]
      · refine ⟨by simp [flatten_len _ hrl, rowsOf_len], fun j v hj => ?_, fun v hv => ?_⟩
        · obtain ⟨h6, h7⟩ := hflat j v hj
          have := h5.get _ v h7
          rw [getD_eq]
          simp [h6]
          simpa using this
        · obtain ⟨j, hj, rfl⟩ := List.getElem_of_mem hv
          obtain ⟨h6, h7⟩ := hflat j _ (List.getElem?_eq_getElem hj)
          exact h5.one _ (List.mem_of_getElem? h7)

theorem growBy_le (n : Nat) : ∀ (k c : Nat), 256 ≤ c → c ≤ 2 * n → Builtin.growBy n k c ≤ 2 * n
  | 0, c, _, h => by simpa [Builtin.growBy] using h
  | k + 1, c, h1, h2 => by
    simp only [Builtin.growBy]
    split
    · exact h2
    · exact growBy_le n k _ (by omega) (by omega)
theorem nextcap_le {n c : Nat} (h : c < n) : Builtin.nextslicecap n c ≤ 2 * n := by
  unfold Builtin.nextslicecap
  split
  · omega
  · split
    · omega
    · exact growBy_le n 4 c (by omega) (by omega)

/-- append, where the room is enough. -/
theorem run_append_fits {ts : Array TypeId} {ty st el yt n e len cap : Nat} {base : Option Addr} {yv : Value} {ie : TyI} {dy : TypeDesc} {cs : Array Value} {w w' : World} (h0 : ts[0]? = some st) (hst : P.underlying st = some (.slice el))
    (hie : TyOK P el ie) (he : ie.size = e) (h1 : ts[1]? = some yt) (hyt : P.underlying yt = some dy) (hni : ∀ k, dy ≠ .int k)
    (hn : (Builtin.lenOf yv).run P w = .ok n w) (hc : (Builtin.firstCells e n yv).run P w = .ok cs w) (hfit : len + n ≤ cap)
    (hs : (match base with | some a => storeCells (a.add (len * e)) cs.toList | none => pure ()).run P w = .ok () w') :
    (Builtin.append_ ts ty #[.slice base len cap, yv]).run P w = .ok (.slice base (len + n) cap) w' := by
  unfold Builtin.append_
  simp only [h0, h1]
  have e0 : (#[Value.slice base len cap, yv] : Array Value)[0]? = some (.slice base len cap) := rfl
  have e1 : (#[Value.slice base len cap, yv] : Array Value)[1]? = some yv := rfl
  simp only [e0, e1, Sem.run_bind, run_und hst, Result.andThen_ok, hie.size, run_und hyt, Sem.run_pure, he]
  cases dy
  case int k => exact absurd rfl (hni k)
  all_goals
    simp only [Bool.false_eq_true, if_false, Sem.run_bind, hn, Result.andThen_ok, Bool.not_false, if_true, Sem.run_ite]
    rw [if_pos hfit]
    cases base with
    | none => simp at hs; subst hs; simp [hc]
    | some a => simp at hs; simp [hc, hs]

/-- append, where a new array is made. -/
theorem run_append_grows {ts : Array TypeId} {ty st el yt n e len cap by' : Nat} {base : Option Addr} {yv : Value} {ie : TyI} {dy : TypeDesc} {cs oc : Array Value} {w : World} (h0 : ts[0]? = some st) (hst : P.underlying st = some (.slice el))
    (hie : TyOK P el ie) (he : ie.size = e) (hby : ie.bytes = by') (h1 : ts[1]? = some yt) (hyt : P.underlying yt = some dy) (hni : ∀ k, dy ≠ .int k)
    (hn : (Builtin.lenOf yv).run P w = .ok n w) (hfit : cap < len + n) (hb : (len + n) * by' ≤ 140737488355328) (hb0 : 0 < by')
    (hc : ∀ w', w'.heap = w.heap → (Builtin.firstCells e n yv).run P w' = .ok cs w') (ho : ∀ w', w'.heap = w.heap → (Builtin.firstCells e len (.slice base len cap)).run P w' = .ok oc w') :
    ∃ (nc : Nat) (w1 : World) (zs : Array Value), len + n ≤ nc ∧ (w1.heap = w.heap ∧ SameIO w w1) ∧ zs.size = (nc - (len + n)) * e ∧
      (Builtin.append_ ts ty #[.slice base len cap, yv]).run P w = .ok (.slice (some ⟨w.heap.size, 0, none⟩) (len + n) nc) (w1.alloc (.cells (oc ++ cs ++ zs) el)) := by
  obtain ⟨j, hj, hj1, hj2, z, hz1, hz2⟩ := hie.info
  have hzc : z.cells.size = e := by
    obtain ⟨l, hl1, hl2⟩ := hie.zs
    have := (cr_zero (V := ⟨w, fun _ _ => False, fun _ _ => none, fun _ _ => none⟩) hz2 hl1).len
    omega
  let q : Question := .appendCap (len + n) cap el
  refine ⟨q.cut (w.tape w.drawn q), { w with drawn := w.drawn + 1 }, Builtin.zeroCells z.cells (q.cut (w.tape w.drawn q) - (len + n)), ?_, ⟨rfl, rfl, rfl, rfl, fun _ => rfl⟩, ?_, ?_⟩
  · simp only [q, Question.cut]; omega
  · simp [Builtin.zeroCells, hzc]
  unfold Builtin.append_
  simp only [h0, h1]
  have e0 : (#[Value.slice base len cap, yv] : Array Value)[0]? = some (.slice base len cap) := rfl
  have e1 : (#[Value.slice base len cap, yv] : Array Value)[1]? = some yv := rfl
  simp only [e0, e1, Sem.run_bind, run_und hst, Result.andThen_ok, hie.size, run_und hyt, Sem.run_pure, he]
  have hcap : ¬ (Builtin.nextslicecap (len + n) cap * j.bytes > 2 ^ 48) := by
    have := nextcap_le hfit
    rw [hj2, hby]
    have h2 : Builtin.nextslicecap (len + n) cap * by' ≤ 2 * (len + n) * by' := Nat.mul_le_mul_right _ this
    have h3 : 2 * (len + n) * by' = 2 * ((len + n) * by') := Nat.mul_assoc _ _ _
    omega
  have hq : (choose q).run P w = .ok (q.cut (w.tape w.drawn q)) { w with drawn := w.drawn + 1 } := by
    simp [choose, Sem.run, q, Question.forced]
  cases dy
  case int k => exact absurd rfl (hni k)
  all_goals
    simp only [Bool.false_eq_true, if_false, Sem.run_bind, hn, Result.andThen_ok, Bool.not_false, if_true, Sem.run_ite]
    rw [if_neg (by omega)]
    simp only [run_info hj, Result.andThen_ok, false_or]
    rw [if_neg (by omega), if_neg hcap]
    have hq' : (choose (Question.appendCap (len + n) cap el)).run P w = .ok (q.cut (w.tape w.drawn q)) { w with drawn := w.drawn + 1 } := hq
    simp only [hq', Result.andThen_ok, run_askRoom, ho { w with drawn := w.drawn + 1 } rfl, hc { w with drawn := w.drawn + 1 } rfl, run_zero hj hz1, newRow, Sem.run_bind, run_newObj, Sem.run_pure]
    rfl

theorem vr_heap {V V' : Vw} {v : AV} {x : Value} (h : VR V v x) (hh : V'.w.heap = V.w.heap) (ho : V'.own = V.own) (hs : V'.sg = V.sg) (ht : V'.tk = V.tk) : VR V' v x := by
  obtain ⟨l, hl⟩ := low_exists v
  refine h.le (l := l) ⟨⟨fun b o x hx hn => ⟨?_, by rw [ho]; exact hn⟩, fun b e c hb hn => ⟨by rw [hh]; exact hb, by rw [ho]; exact hn⟩⟩, fun l' i b _ hb => by rw [hs]; exact hb, fun l' p r _ hr => ⟨r, by rw [ht]; exact hr, .inl rfl⟩⟩ (hl l (Nat.le_refl _))
  simp only [World.cell?, hh]; exact hx

theorem headFit_of {e : Nat} {r : List (List AV)} (h : ∀ (i : Nat) (x : List AV), r[i]? = some x → x.length = e) : headFit e r = true := by
  cases r with
  | nil => rfl
  | cons x r => simp [headFit, h 0 x rfl]

theorem vr_sl_flat {rows : List (List AV)} {t : Tok} {b o cap e : Nat} (f : Nat → Value) (he : 0 < e) (ht : t ≠ .nil)
    (hr : ∀ (i : Nat) (r : List AV), rows[i]? = some r → r.length = e ∧ purs r = true) (hcap : rows.length ≤ cap) (hfull : t = .full → cap = rows.length)
    (hc : ∀ q, q < rows.length * e → V.w.cell? ⟨b, o + q, none⟩ = some (f q) ∧ ¬ V.own b (o + q)) (hv : ∀ q v, rows.flatten[q]? = some v → VR V v (f q)) (hone : ∀ v ∈ rows.flatten, oneCell v = true)
    (hs : tokOK V t rows.length b (o + rows.length * e) (o + cap * e)) : VR V (.sl rows t) (.slice (some ⟨b, o, none⟩) rows.length cap) := by
  have hlt : ∀ i j, i < rows.length → j < e → i * e + j < rows.length * e := by
    intro i j hi hj
    have : (i + 1) * e ≤ rows.length * e := Nat.mul_le_mul_right _ hi
    rw [Nat.add_mul] at this; omega
  refine .sl rows t b o cap e (fun i j => f (i * e + j)) he ht (fun i r hi => (hr i r hi).1) hcap hfull (fun i j hi hj => ?_) (fun i r j v hi hj => ?_) (fun i r hi => ⟨(hr i r hi).2, fun v hv => hone v (List.mem_flatten.2 ⟨r, List.mem_of_getElem? hi, hv⟩)⟩) hs
  · rw [show o + i * e + j = o + (i * e + j) by omega]; exact hc _ (hlt i j hi hj)
  · refine hv (i * e + j) v ?_
    have hje : j < e := by
      rcases Nat.lt_or_ge j r.length with hl | hl
      · have := (hr i r hi).1; omega
      · rw [List.getElem?_eq_none hl] at hj; cases hj
    rw [flatten_get he rows (fun i r hi => (hr i r hi).1)]
    have h1 : (i * e + j) / e = i := by rw [Nat.mul_comm, Nat.mul_add_div he, Nat.div_eq_of_lt hje]; omega
    have h2 : (i * e + j) % e = j := by rw [Nat.mul_comm, Nat.mul_add_mod, Nat.mod_eq_of_lt hje]
    rw [h1, h2, hi]; exact hj

theorem CR.append {V : Vw} {a b : List AV} {ca cb : Array Value} (ha : CR V a ca) (hb : CR V b cb) : CR V (a ++ b) (ca ++ cb) := by
  have h1 := ha.len
  have h2 := hb.len
  refine ⟨by simp; omega, fun j v hj => ?_, fun v hv => ?_⟩
  · rw [getD_eq]
    rw [List.getElem?_append] at hj
    rw [Array.getElem?_append]
    split at hj
    · rename_i h; rw [if_pos (by omega), ← getD_eq]; exact ha.get j v hj
    · rename_i h; rw [if_neg (by omega), ← getD_eq, ← h1]; exact hb.get _ v hj
  · rcases List.mem_append.1 hv with h | h
    · exact ha.one v h
    · exact hb.one v h

theorem getD_app {a b : Array Value} {q : Nat} (h : q < a.size) : (a ++ b).getD q Go.undef = a.getD q Go.undef := by
  rw [getD_eq, getD_eq, Array.getElem?_append_left h]

/-- append into a new array, told. -/
theorem app_grown {h p e nc g : Nat} {r ys : List (List AV)} {oc cs zs : Array Value} {w1 : World} {el : TypeId} (hI : Inv K c s) (hh : h < s.length) (he : 0 < e) (hy0 : ys ≠ [])
    (hr : ∀ (i : Nat) (x : List AV), r[i]? = some x → x.length = e ∧ purs x = true) (hys : ∀ (i : Nat) (x : List AV), ys[i]? = some x → x.length = e ∧ purs x = true)
    (ho : CR c.vw r.flatten oc) (hc : CR c.vw ys.flatten cs) (hw0 : w1.heap = c.w.heap ∧ SameIO c.w w1) (hnc : r.length + ys.length ≤ nc) (hz : zs.size = (nc - (r.length + ys.length)) * e)
    (hg : ∀ q, c.tk h p = some q → q.g < g ∨ (q.g = g ∧ q.n < r.length + ys.length)) :
    ∃ c', c'.w = w1.alloc (.cells (oc ++ cs ++ zs) el) ∧ Inv K c' (setTok s h p (g, r.length + ys.length)) ∧ Ext c c' ∧
      VR c'.vw (.sl (r ++ ys) (.site h p g)) (.slice (some ⟨c.w.heap.size, 0, none⟩) (r.length + ys.length) nc) := by
  have hw := hw0.1
  obtain ⟨i1, e1⟩ := inv_heap (w' := w1) hw0.2 hw hI
  have hall : ∀ (i : Nat) (x : List AV), (r ++ ys)[i]? = some x → x.length = e ∧ purs x = true := by
    intro i x hi
    rw [List.getElem?_append] at hi
    split at hi
    · exact hr i x hi
    · exact hys _ x hi
  have hlen : (r ++ ys).flatten.length = (r.length + ys.length) * e := by rw [flatten_len _ (fun i x hi => (hall i x hi).1)]; simp
  have hcr : CR c.vw (r ++ ys).flatten (oc ++ cs) := by rw [List.flatten_append]; exact ho.append hc
  have hsz : (oc ++ cs).size = (r.length + ys.length) * e := by have := hcr.len; omega
  have hmul : (r.length + ys.length) * e + (nc - (r.length + ys.length)) * e = nc * e := by rw [← Nat.add_mul]; congr 1; omega
  have hsize : (oc ++ cs ++ zs).size = nc * e := by rw [Array.size_append, hsz, hz]; exact hmul
  let r' : TR := { g := g, n := r.length + ys.length, b := c.w.heap.size, e := (r.length + ys.length) * e, c := nc * e }
  obtain ⟨i2, e2⟩ := inv_app_new (c := { c with w := w1 }) (cs := oc ++ cs ++ zs) (el := el) (r' := r') i1 hh (by simp [r', hw]) (by show nc * e ≤ (oc ++ cs ++ zs).size; omega) (fun q hq => hg q hq)
  refine ⟨_, rfl, i2, e1.trans e2, ?_⟩
  have hl : r.length + ys.length = (r ++ ys).length := by simp
  have hpos : 0 < ys.length := by cases ys <;> simp_all
  rw [hl]
  refine vr_sl_flat (fun q => (oc ++ cs ++ zs).getD q Go.undef) he (by simp) hall (by omega) (by simp) (fun q hq => ?_) (fun q v hq => ?_) hcr.one ?_
  · rw [← hl] at hq
    have hq2 : q < (oc ++ cs ++ zs).size := by rw [hsize]; omega
    refine ⟨?_, ?_⟩
    · show World.cell? (w1.alloc _) ⟨c.w.heap.size, 0 + q, none⟩ = _
      have hnew : (w1.alloc (.cells (oc ++ cs ++ zs) el)).heap[c.w.heap.size]? = some (.cells (oc ++ cs ++ zs) el (0, 0)) := by rw [← hw]; exact alloc_new
      rw [cell_of hnew, Nat.zero_add, Array.getElem?_eq_getElem hq2]
      exact congrArg some (getD_lt hq2).symm
    · intro hown
      rcases hown with h3 | ⟨l, i, h3⟩ | ⟨l, i, t, h3, h4, h5, h6⟩ | h3
      · have := hI.Xw _ _ h3; omega
      · have := hI.sgw _ _ _ h3; omega
      · dsimp only at h3
        split at h3
        · cases h3; simp only [r'] at h5; omega
        · obtain ⟨_, _, h7, _⟩ := hI.tkb _ _ _ h3 (by omega)
          have := heap_lt h7; omega
      · have := heap_lt (hI.dfw _ h3).1; omega
  · have hq' : q < (oc ++ cs).size := by
      have : q < (r ++ ys).flatten.length := by
        rcases Nat.lt_or_ge q (r ++ ys).flatten.length with hl | hl
        · exact hl
        · rw [List.getElem?_eq_none hl] at hq; cases hq
      omega
    dsimp only
    rw [getD_app hq']
    exact (hcr.get q v hq).ext (e1.trans e2)
  · refine ⟨by simp; omega, r', ?_, .inr (.inr ⟨rfl, by simp [r'], by simp [r'], by simp [r'], by simp [r']⟩)⟩
    show (if h = h ∧ p = p then some r' else _) = some r'
    simp

/-- append in place, told. -/
theorem app_put {l' p' g' e cap b o : Nat} {r ys : List (List AV)} {cs : Array Value} {q : TR} {f0 : Nat → Nat → Value} (hI : Inv K c s) (he : 0 < e) (hy0 : ys ≠ [])
    (hr : ∀ (i : Nat) (x : List AV), r[i]? = some x → x.length = e ∧ purs x = true) (hys : ∀ (i : Nat) (x : List AV), ys[i]? = some x → x.length = e ∧ purs x = true)
    (ho : CR c.vw r.flatten ((List.range (r.length * e)).map fun k => f0 (k / e) (k % e)).toArray) (hc : CR c.vw ys.flatten cs)
    (hcell : ∀ i j, i < r.length → j < e → c.w.cell? ⟨b, o + i * e + j, none⟩ = some (f0 i j) ∧ ¬ c.own b (o + i * e + j))
    (hq : c.tk l' p' = some q) (hqg : q.g = g') (hqn : q.n = r.length) (hqb : q.b = b) (hqe : q.e = o + r.length * e) (hqc : q.c = o + cap * e) (hfit : r.length + ys.length ≤ cap) :
    ∃ c', (storeCells ((⟨b, o, none⟩ : Addr).add (r.length * e)) cs.toList).run P c.w = .ok () c'.w ∧ Inv K c' (setTok s l' p' (g', r.length + ys.length)) ∧ Ext c c' ∧
      VR c'.vw (.sl (r ++ ys) (.site l' p' g')) (.slice (some ⟨b, o, none⟩) (r.length + ys.length) cap) := by
  subst hqg hqb
  have hpos : 0 < ys.length := by cases ys <;> simp_all
  have hall : ∀ (i : Nat) (x : List AV), (r ++ ys)[i]? = some x → x.length = e ∧ purs x = true := by
    intro i x hi
    rw [List.getElem?_append] at hi
    split at hi
    · exact hr i x hi
    · exact hys _ x hi
  have hylen : cs.size = ys.length * e := by have := hc.len; rw [flatten_len _ (fun i x hi => (hys i x hi).1)] at this; omega
  have hm1 : (r.length + ys.length) * e = r.length * e + ys.length * e := Nat.add_mul _ _ _
  have hm2 : (r.length + ys.length) * e ≤ cap * e := Nat.mul_le_mul_right _ hfit
  have hm3 : e ≤ ys.length * e := Nat.le_mul_of_pos_left _ hpos
  have hne : q.e < q.c := by omega
  obtain ⟨bc, el, k1, k2, k3, k4⟩ := hI.tkb _ _ _ hq hne
  have hone : ∀ v ∈ cs.toList, v.oneCell' = true := by
    intro v hv
    obtain ⟨j, hj, rfl⟩ := List.getElem_of_mem hv
    have hj' : j < ys.flatten.length := by have := hc.len; simpa [this] using hj
    have := oneCell_val (hc.get j _ (List.getElem?_eq_getElem hj')) (hc.one _ (List.getElem_mem hj'))
    rw [getD_lt (by simpa using hj)] at this
    simpa using this
  rw [add_eq]
  obtain ⟨w', bc', r1, r2, r3, r4, r5, r6, r7⟩ := run_storeCells P q.b (o + r.length * e) cs.toList 0 c.w bc el k1 (by simp; omega) hone
  let r' : TR := { q with n := r.length + ys.length, e := o + (r.length + ys.length) * e }
  obtain ⟨i2, e2⟩ := inv_app_in (r' := r') (w' := w') r7 hI hq hne k1 r2 r3 (fun k hk => by rw [r6, if_neg (by simp; omega)]) r5 r4 rfl (by simp [r']; omega) rfl (by simp [r']; omega) rfl
  refine ⟨_, r1, i2, e2, ?_⟩
  have hl : r.length + ys.length = (r ++ ys).length := by simp
  rw [hl]
  have hcr : CR c.vw (r ++ ys).flatten (((List.range (r.length * e)).map fun k => f0 (k / e) (k % e)).toArray ++ cs) := by rw [List.flatten_append]; exact ho.append hc
  refine vr_sl_flat (fun k => (((List.range (r.length * e)).map fun k => f0 (k / e) (k % e)).toArray ++ cs).getD k Go.undef) he (by simp) hall (by simp; omega) (by simp) (fun k hk => ?_) (fun k v hk => ?_) hcr.one ?_
  · rw [← hl] at hk
    rw [getD_eq, Array.getElem?_append]
    by_cases hk1 : k < r.length * e
    · have hd : k / e < r.length := (Nat.div_lt_iff_lt_mul he).2 hk1
      obtain ⟨c1, c2⟩ := hcell (k / e) (k % e) hd (Nat.mod_lt _ he)
      have hkk : o + k / e * e + k % e = o + k := by have := Nat.div_add_mod k e; rw [Nat.mul_comm] at this; omega
      rw [hkk] at c1 c2
      refine ⟨?_, fun hown => c2 (e2.owo _ _ (heap_lt k1) hown)⟩
      have := e2.k2 _ _ _ c1 fun y => c2 (.inr y)
      rw [if_pos (by simpa using hk1)]
      refine this.trans ?_
      simp [hk1]
    · refine ⟨?_, ?_⟩
      · show World.cell? w' ⟨q.b, o + k, none⟩ = _
        rw [cell_of r2, r6, if_pos (by simp; omega), if_neg (by simpa using hk1)]
        have : o + k - (o + r.length * e + 0) = k - r.length * e := by omega
        rw [this]
        have hlt : k - r.length * e < cs.size := by omega
        simp [hlt]
      · intro hown
        rcases hown with h3 | ⟨l, i, h3⟩ | ⟨l, i, t, h3, h4, h5, h6⟩ | h3
        · exact k4 _ (by omega) (by omega) h3
        · exact k3 _ _ h3
        · dsimp only at h3
          split at h3
          · cases h3; simp only [r'] at h5; omega
          · rename_i hnn
            exact hnn (hI.tkinj _ _ _ _ _ _ hq h3 hne (by omega) h4.symm)
        · have := (hI.dfw _ h3).1; rw [k1] at this; cases this
  · exact (hcr.get k v hk).ext e2
  · refine ⟨by simp; omega, r', ?_, .inr (.inr ⟨rfl, by simp [r'], rfl, by simp [r'], hqc⟩)⟩
    show (if l' = l' ∧ p' = p' then some r' else _) = some r'
    simp

/-- append, the whole. -/
theorem r_app {h p e by' : Nat} {x y v : AV} {xv yv : Value} {s' : St} {ts : Array TypeId} {ty st el yt : Nat} {ie : TyI} {dy : TypeDesc} (hI : Inv K c s) (hh : h < s.length)
    (h0 : ts[0]? = some st) (hst : P.underlying st = some (.slice el)) (hie : TyOK P el ie) (he : ie.size = e) (hby : ie.bytes = by') (hb0 : 0 < by') (he0 : 0 < e)
    (h1 : ts[1]? = some yt) (hyt : P.underlying yt = some dy) (hni : ∀ k, dy ≠ .int k)
    (ha : appAt h s p e by' x y = some (v, s')) (hx : VR c.vw x xv) (hy : VR c.vw y yv) :
    ∃ cv c', (Builtin.append_ ts ty #[xv, yv]).run P c.w = .ok cv c'.w ∧ Inv K c' s' ∧ Ext c c' ∧ VR c'.vw v cv := by
  cases x <;> simp only [appAt, reduceCtorEq] at ha
  rename_i r t
  simp only [Option.bind_eq_some_iff] at ha
  obtain ⟨ys, hys, ha⟩ := ha
  have hxs : ∃ (base : Option Addr) (cap : Nat), xv = .slice base r.length cap ∧ r.length ≤ cap := by
    cases hx with
    | slnil => exact ⟨none, 0, rfl, Nat.le_refl _⟩
    | sl _ _ b o cap e0 f he0 ht hr hcap => exact ⟨_, _, rfl, hcap⟩
  split at ha
  · -- nothing is appended
    rename_i hemp
    cases ha
    have hys0 : ys = [] := by simpa using hemp
    subst hys0
    obtain ⟨base, cap, rfl, hle⟩ := hxs
    obtain ⟨g1, g2, cs, g3, g4⟩ := first_cells (P := P) hI hys rfl he0 hy
    have hcs : cs = #[] := by
      have := g4.len
      simp at this
      exact Array.eq_empty_of_size_eq_zero this.symm
    subst hcs
    refine ⟨_, c, run_append_fits h0 hst hie he h1 hyt hni g1 (g3 _ rfl) (by simpa using hle) (w' := c.w) ?_, hI, Ext.refl _, by simpa using hx⟩
    cases base <;> simp [storeCells]
  · rename_i hemp
    split at ha
    case isFalse => cases ha
    rename_i hcond
    simp only [Bool.and_eq_true, decide_eq_true_eq] at hcond
    obtain ⟨⟨⟨⟨hf1, hf2⟩, _⟩, hbd⟩, hpur⟩ := hcond
    have hy0 : ys ≠ [] := by simpa using hemp
    have hpos : 0 < ys.length := by cases ys <;> simp_all
    obtain ⟨g1, g2, cs, g3, g4⟩ := first_cells (P := P) hI hys hf2 he0 hy
    obtain ⟨o1, o2, oc, o3, o4⟩ := first_cells (P := P) (y := .sl r t) (e := e) hI rfl hf1 he0 hx
    obtain ⟨base, cap, rfl, hle⟩ := hxs
    have grow : ∀ l p g, cap < r.length + ys.length → l < s.length → (∀ q, c.tk l p = some q → q.g < g ∨ (q.g = g ∧ q.n < r.length + ys.length)) →
        ∃ cv c', (Builtin.append_ ts ty #[.slice base r.length cap, yv]).run P c.w = .ok cv c'.w ∧ Inv K c' (setTok s l p (g, r.length + ys.length)) ∧ Ext c c' ∧ VR c'.vw (.sl (r ++ ys) (.site l p g)) cv := by
      intro l p g hlt hl hg
      obtain ⟨nc, w1, zs, n1, n2, n3, n4⟩ := run_append_grows (ty := ty) h0 hst hie he hby h1 hyt hni g1 hlt hbd hb0 g3 o3
      obtain ⟨c', m1, m2, m3, m4⟩ := app_grown (p := p) (g := g) (el := el) hI hl he0 hy0 o2 g2 o4 g4 n2 n1 n3 hg
      exact ⟨_, c', by rw [n4, m1], m2, m3, m4⟩
    cases t with
    | any => cases ha
    | nil =>
      cases ha
      obtain ⟨hr0, hb⟩ := vr_nil hx
      injection hb with _ _ hb
      refine grow h p _ (by omega) hh fun q hq => .inl ?_
      have := (hI.tok _ _ _ hq).1
      rw [this]; simp
    | full =>
      cases ha
      refine grow h p _ ?_ hh fun q hq => .inl ?_
      · cases hx with
        | slnil => omega
        | sl _ _ b o cap e0 f he0 ht hr hcap hfull => have := hfull rfl; omega
      · have := (hI.tok _ _ _ hq).1
        rw [this]; simp
    | site l' p' g' =>
      simp only at ha
      split at ha
      case isFalse => cases ha
      rename_i htok
      cases ha
      cases hx with
      | slnil _ h => simp at h
      | sl _ _ b o cap e0 f he1 ht hr hcap hfull hc hv hp hs =>
        obtain ⟨hl0, q, hq, hs⟩ := hs
        replace hq : c.tk l' p' = some q := hq
        have ht2 := (hI.tok _ _ _ hq).1
        rw [htok] at ht2
        injection ht2 with ht3 ht4
        have hreg : q.b = b ∧ q.e = o + r.length * e0 ∧ q.c = o + cap * e0 := by
          rcases hs with hs | ⟨_, hs⟩ | ⟨_, _, hs⟩
          · omega
          · omega
          · exact hs
        have hee : e0 = e := by
          cases r with
          | nil => simp at hl0
          | cons x r => have := hr 0 x rfl; have := (o2 0 x rfl).1; omega
        subst hee
        by_cases hfit : r.length + ys.length ≤ cap
        · have ho4 : CR c.vw r.flatten ((List.range (r.length * e0)).map fun k => f (k / e0) (k % e0)).toArray := cr_rows he0 hr hv hp
          obtain ⟨c', m1, m2, m3, m4⟩ := app_put (P := P) (f0 := f) hI he0 hy0 o2 g2 ho4 g4 hc hq ht3.symm ht4.symm hreg.1 hreg.2.1 hreg.2.2 hfit
          exact ⟨_, c', run_append_fits h0 hst hie he h1 hyt hni g1 (g3 _ rfl) hfit (by simpa using m1), m2, m3, m4⟩
        · refine grow l' p' g' (by omega) (hI.tok _ _ _ hq).2 fun q' hq' => ?_
          rw [hq] at hq'; cases hq'
          exact .inr ⟨ht3.symm, by omega⟩

theorem r_alloc {l i t : Nat} {z : List AV} {s' : St} {ti : TyI} (hI : Inv K c s) (hT : TyOK P t ti) (hz : cellsOf ti.z = some z) (h : newObj s (.cells z) = some (l, i, s')) :
    ∃ cv c', (Instr.alloc t true (.tuple #[])).run P c.w = .ok cv c'.w ∧ Inv K c' s' ∧ Ext c c' ∧ VR c'.vw (.ptr l i 0) cv := by
  obtain ⟨j, hj, hj1, hj2, zv, hz1, hz2⟩ := hT.info
  obtain ⟨c', h1, h2, h3, h4⟩ := r_new (P := P) hI h (cr_zero hz2 hz).cp t
  refine ⟨.pointer (some ⟨c.w.heap.size, 0, none⟩), c', ?_, h2, h3, .ptr l i 0 _ h4⟩
  unfold Instr.alloc
  simp only [Sem.run_bind, run_zero hj hz1, Result.andThen_ok, newVar, h1, Sem.run_pure]

theorem r_box {l i t : Nat} {x : AV} {xv : Value} {cl : List AV} {s' : St} (hI : Inv K c s) (hx : VR c.vw x xv) (hc : cellsOf x = some cl) (h : newObj s (.cells cl) = some (l, i, s')) :
    ∃ cv c', (Instr.box t xv).run P c.w = .ok cv c'.w ∧ Inv K c' s' ∧ Ext c c' ∧ VR c'.vw (.ptr l i 0) cv := by
  obtain ⟨c', h1, h2, h3, h4⟩ := r_new (P := P) hI h (cr_of_cellsOf hc hx).cp t
  refine ⟨.pointer (some ⟨c.w.heap.size, 0, none⟩), c', ?_, h2, h3, .ptr l i 0 _ h4⟩
  unfold Instr.box
  simp only [Sem.run_bind, Result.andThen_ok, newVar, h1, Sem.run_pure]

/-- The places of a struct's fields. -/
def placesT (T : Nat → Option TyI) : List (Nat × Nat) → Option (List (Nat × Nat))
  | [] => some []
  | (t, o) :: r => (T t).bind fun i => (placesT T r).map ((o, i.size) :: ·)

theorem placesT_ok {T : Nat → Option TyI} (hTab : TabOK P T) : ∀ (fs : List Field) (ps : List (Nat × Nat)), placesT T (fs.map fun f => (f.type, f.offset)) = some ps →
    fs.mapM (fun f => (P.info? f.type).map fun i => (f.offset, i.size)) = some ps
  | [], ps, h => by simp [placesT] at h; subst h; rfl
  | f :: fs, ps, h => by
    simp only [List.map_cons, placesT, Option.bind_eq_some_iff, Option.map_eq_some_iff] at h
    obtain ⟨i, hi, r, hr, rfl⟩ := h
    obtain ⟨j, hj, hj1, _⟩ := (hTab _ _ hi).info
    simp [List.mapM_cons, hj, placesT_ok hTab fs r hr, hj1]

theorem r_build {T : Nat → Option TyI} (hTab : TabOK P T) {t : Nat} {z cl : List AV} {ti : TyI} {ps : List (Nat × Nat × AV)} {qs : Array (Nat × Value)} (hT : TyOK P t ti) (hz : cellsOf ti.z = some z) (h : fillAt z ps = some cl) (hl : ps.length = qs.size)
    (hp : (∃ fs pl, ti.k = .st fs ∧ placesT T fs = some pl ∧ ∀ (j o n : Nat) (v : AV), ps[j]? = some (o, n, v) → ∃ i xv, qs[j]? = some (i, xv) ∧ pl[i]? = some (o, n) ∧ VR V v xv) ∨
      (∃ m e ie, ti.k = .arr m e ∧ T e = some ie ∧ ∀ (j o n : Nat) (v : AV), ps[j]? = some (o, n, v) → ∃ i xv, qs[j]? = some (i, xv) ∧ o = i * ie.size ∧ n = ie.size ∧ VR V v xv)) :
    ∃ cv, (Instr.build t qs).run P w = .ok cv w ∧ VR V (.agg cl) cv := by
  obtain ⟨j, hj, hj1, hj2, zv, hz1, hz2⟩ := hT.info
  obtain ⟨d, hd, hdk⟩ := hT.und
  have hcz : CR V z zv.cells := cr_zero hz2 hz
  rcases hp with ⟨fs, pl, hk, hpl, hp⟩ | ⟨m, e, ie, hk, he, hp⟩
  · rw [hk] at hdk
    cases d <;> simp [tkOK] at hdk
    rename_i fa
    obtain ⟨hdk, _⟩ := hdk
    subst hdk
    obtain ⟨cs', h1, h2⟩ := fill_ok (place := (pl.toArray[·]?)) ps qs.toList z cl zv.cells h hcz (by simpa using hl) (fun j o n v hj => by
      obtain ⟨i, xv, h1, h2, h3⟩ := hp j o n v hj
      exact ⟨i, xv, by simpa using h1, by simpa using h2, h3⟩)
    refine ⟨.agg cs', run_build w t qs cs' ?_, h2.agg⟩
    have hm := placesT_ok hTab fa.toList pl hpl
    simp only [Program.built, hj, hd, hz1, hm]
    exact h1
  · rw [hk] at hdk
    cases d <;> simp [tkOK] at hdk
    rename_i m' e'
    obtain ⟨rfl, rfl⟩ := hdk
    obtain ⟨je, hje, hje1, _⟩ := (hTab _ _ he).info
    obtain ⟨cs', h1, h2⟩ := fill_ok (place := fun i => some (i * je.size, je.size)) ps qs.toList z cl zv.cells h hcz (by simpa using hl) (fun j o n v hj => by
      obtain ⟨i, xv, h1, rfl, rfl, h3⟩ := hp j o n v hj
      exact ⟨i, xv, by simpa using h1, by rw [hje1], h3⟩)
    refine ⟨.agg cs', run_build w t qs cs' ?_, h2.agg⟩
    simp only [Program.built, hj, hd, hz1, hje]
    exact h1

theorem replicate_rows {z : List AV} {e : Nat} (hz : z.length = e) (n : Nat) : ∀ (i : Nat) (r : List AV), (List.replicate n z)[i]? = some r → r.length = e := by
  intro i r hi
  rw [List.getElem?_replicate] at hi
  split at hi
  · cases hi; exact hz
  · cases hi

theorem cr_replicate {z : List AV} {zc : Array Value} (hz : CR V z zc) (n : Nat) : CR V (List.replicate n z).flatten ((Array.range (n * zc.size)).map fun i => zc[i % zc.size]!) := by
  have hl := hz.len
  refine ⟨by simp [hl], fun j v hj => ?_, fun v hv => ?_⟩
  · rcases Nat.eq_zero_or_pos z.length with h0 | h0
    · have : z = [] := List.eq_nil_of_length_eq_zero h0
      subst this; simp at hj
    · rw [flatten_get h0 _ (replicate_rows rfl n)] at hj
      simp only [Option.bind_eq_some_iff] at hj
      obtain ⟨r, h1, h2⟩ := hj
      rw [List.getElem?_replicate] at h1
      split at h1
      case isFalse => cases h1
      rename_i hlt
      cases h1
      have hj' : j < n * zc.size := by rw [← hl]; exact (Nat.div_lt_iff_lt_mul h0).1 hlt
      have hm : j % zc.size < zc.size := Nat.mod_lt _ (by omega)
      have := hz.get _ v h2
      rw [hl, getD_lt hm] at this
      rw [getD_eq]
      simp [hj', hm]
      simpa [hm] using this
  · obtain ⟨r, h1, h2⟩ := List.mem_flatten.1 hv
    rw [List.mem_replicate] at h1
    obtain ⟨_, rfl⟩ := h1
    exact hz.one v h2

theorem rowsOf_flatten (e : Nat) : ∀ (n : Nat) (l : List AV), l.length = n * e → (rowsOf e n l).flatten = l
  | 0, l, h => by have : l = [] := List.eq_nil_of_length_eq_zero (by omega); subst this; rfl
  | n + 1, l, h => by
    rw [Nat.add_mul] at h
    simp only [rowsOf, List.flatten_cons]
    rw [rowsOf_flatten e n (l.drop e) (by simp; omega), List.take_append_drop]

theorem fillAt_length : ∀ (ps : List (Nat × Nat × AV)) (c c' : List AV), fillAt c ps = some c' → c'.length = c.length
  | [], c, c', h => by simp [fillAt] at h; rw [h]
  | (o, n, v) :: ps, c, c', h => by
    simp only [fillAt, Option.bind_eq_some_iff] at h
    obtain ⟨x, hx, h⟩ := h
    split at h
    · rename_i hh; rw [fillAt_length ps _ c' h, putAt_length (by omega)]
    · cases h

/-- The cells of a composite slice. -/
theorem run_bsl {t el n e : Nat} {z cl : List AV} {ie : TyI} {ps : List (Nat × Nat × AV)} {qs : Array (Nat × Value)} (hst : P.underlying t = some (.slice el)) (hie : TyOK P el ie) (hz : cellsOf ie.z = some z) (he : z.length = e)
    (hsm : n * e ≤ 16777216) (hn : 0 < n) (he0 : 0 < e) (h : fillAt (List.replicate n z).flatten ps = some cl) (hl : ps.length = qs.size)
    (hp : ∀ (j o m : Nat) (v : AV), ps[j]? = some (o, m, v) → ∃ i xv, qs[j]? = some (i, xv) ∧ o = i * e ∧ m = e ∧ VR V v xv) :
    ∃ cs, CR V cl cs ∧ (Instr.buildSlice t n qs).run P w = .ok (.slice (some ⟨w.heap.size, 0, none⟩) n n) (w.alloc (.cells cs el)) := by
  obtain ⟨j, hj, hj1, hj2, zv, hz1, hz2⟩ := hie.info
  have hcz : CR V z zv.cells := cr_zero hz2 hz
  have hes : ie.size = e := by obtain ⟨l, h1, h2⟩ := hie.zs; rw [hz] at h1; cases h1; omega
  have hzs : zv.cells.size = e := by have := hcz.len; omega
  obtain ⟨cs, h1, h2⟩ := fill_ok (place := fun i => some (i * e, e)) ps qs.toList _ cl _ h (cr_replicate hcz n) (by simpa using hl) (fun j o m v hj => by
    obtain ⟨i, xv, h1, rfl, rfl, h3⟩ := hp j o m v hj
    exact ⟨i, xv, by simpa using h1, rfl, h3⟩)
  refine ⟨cs, h2, ?_⟩
  have hne : ¬ (n * e = 0) := by have := Nat.mul_pos hn he0; omega
  unfold Instr.buildSlice
  simp only [Sem.run_bind, run_und hst, Result.andThen_ok, hie.size, hes, Sem.run_ite]
  rw [if_neg (by omega)]
  simp only [if_neg hne, run_zero hj hz1, Result.andThen_ok, Sem.run_pure]
  rw [hzs] at h1
  simp only [hzs, h1, Sem.run_bind, newRow, run_newObj, Result.andThen_ok, Sem.run_pure]
  rfl

mutual
theorem erase_vr {v : AV} {x : Value} (h : VR V v x) : VR V (erase v) x := by
  cases v with
  | sl r t => simp only [erase]; exact vr_erase_tok h
  | fn f a b =>
    simp only [erase]
    cases h with
    | fn _ _ _ fc cc e1 e2 e3 e4 =>
      obtain ⟨g1, g2⟩ := erases_vr e1 e3
      obtain ⟨g3, g4⟩ := erases_vr e2 e4
      exact .fn f _ _ fc cc g1 g3 g2 g4
  | agg c =>
    simp only [erase]
    cases h with
    | agg _ cs e1 e2 e3 =>
      obtain ⟨g1, g2⟩ := erases_vr e1 e2
      exact .agg _ cs g1 g2 (erases_one c e3)
  | tup c =>
    simp only [erase]
    cases h with
    | tup _ cs e1 e2 =>
      obtain ⟨g1, g2⟩ := erases_vr e1 e2
      exact .tup _ cs g1 g2
  | _ => simpa only [erase] using h
theorem erases_vr {c : List AV} {cs : Array Value} (h1 : c.length = cs.size) (h2 : ∀ j v, c[j]? = some v → VR V v (cs.getD j Go.undef)) :
    (erases c).length = cs.size ∧ ∀ j v, (erases c)[j]? = some v → VR V v (cs.getD j Go.undef) := by
  cases c with
  | nil => simp only [erases]; exact ⟨h1, h2⟩
  | cons v r =>
    have h5 := erase_vr (h2 0 v rfl)
    obtain ⟨g1, g2⟩ := erases_vr (c := r) (cs := cs.extract 1 cs.size) (by simp at h1 ⊢; omega) (fun j v hj => by
      have := h2 (j + 1) v (by simpa using hj)
      rw [getD_eq] at this ⊢
      rw [Array.getElem?_extract]
      have hlt : j < r.length := by
        rcases Nat.lt_or_ge j r.length with hl | hl
        · exact hl
        · rw [List.getElem?_eq_none hl] at hj; cases hj
      simp at h1
      rw [if_pos (by omega), Nat.add_comm 1 j]; exact this)
    simp only [erases]
    simp at h1 g1
    refine ⟨by simp; omega, fun j v' hj => ?_⟩
    cases j with
    | zero => simp at hj; subst hj; exact h5
    | succ j =>
      simp at hj
      have := g2 j v' hj
      rw [getD_eq] at this ⊢
      rw [Array.getElem?_extract] at this
      have hlt : j < (erases r).length := by
        rcases Nat.lt_or_ge j (erases r).length with hl | hl
        · exact hl
        · rw [List.getElem?_eq_none hl] at hj; cases hj
      rw [if_pos (by omega), Nat.add_comm 1 j] at this; exact this
theorem erases_one (c : List AV) (h1 : ∀ v ∈ c, oneCell v = true) : ∀ v ∈ erases c, oneCell v = true := by
  cases c with
  | nil => simp [erases]
  | cons v r =>
    simp only [erases]
    intro x hx
    rcases List.mem_cons.1 hx with rfl | hx
    · have := h1 v (by simp)
      cases v <;> simp [oneCell] at this <;> rfl
    · exact erases_one r (fun v hv => h1 v (by simp [hv])) x hx
end

theorem CR.erase {l : List AV} {cs : Array Value} (h : CR V l cs) : CR V (erases l) cs := by
  obtain ⟨g1, g2⟩ := erases_vr h.len h.get
  exact ⟨g1, g2, erases_one (V := V) l h.one⟩

theorem r_bsl {t el n e : Nat} {z cl : List AV} {ie : TyI} {ps : List (Nat × Nat × AV)} {qs : Array (Nat × Value)} (hI : Inv K c s) (hst : P.underlying t = some (.slice el)) (hie : TyOK P el ie) (hz : cellsOf ie.z = some z) (he : z.length = e)
    (hsm : n * e ≤ 16777216) (hn : 0 < n) (he0 : 0 < e) (h : fillAt (List.replicate n z).flatten ps = some cl) (hpu : purs (erases cl) = true) (hl : ps.length = qs.size)
    (hp : ∀ (j o m : Nat) (v : AV), ps[j]? = some (o, m, v) → ∃ i xv, qs[j]? = some (i, xv) ∧ o = i * e ∧ m = e ∧ VR c.vw v xv) :
    ∃ cv c', (Instr.buildSlice t n qs).run P c.w = .ok cv c'.w ∧ Inv K c' s ∧ Ext c c' ∧ VR c'.vw (.sl (rowsOf e n (erases cl)) .full) cv := by
  obtain ⟨cs, h1, h2⟩ := run_bsl (P := P) (w := c.w) hst hie hz he hsm hn he0 h hl hp
  obtain ⟨i1, e1⟩ := inv_alloc (ob := .cells cs el) (fun _ _ _ h => by cases h; rfl) hI
  refine ⟨_, _, h2, i1, e1, ?_⟩
  have h3 := h1.erase
  have hlen : (erases cl).length = n * e := by
    have a := fillAt_length _ _ _ h
    rw [flatten_len _ (replicate_rows he n), List.length_replicate] at a
    have := h1.len; have := h3.len; omega
  have hrl : ∀ (i : Nat) (r : List AV), (rowsOf e n (erases cl))[i]? = some r → r.length = e ∧ purs r = true := by
    intro i r hi
    have hin : i < n := by
      rcases Nat.lt_or_ge i n with hl | hl
      · exact hl
      · rw [List.getElem?_eq_none (by rw [rowsOf_len]; exact hl)] at hi; cases hi
    rw [rowsOf_get e n _ i hin] at hi
    cases hi
    have := Nat.mul_le_mul_right e hin
    rw [Nat.succ_eq_add_one, Nat.add_mul] at this
    exact ⟨by simp; omega, pures_of fun v hv => pures_mem hpu v (List.mem_of_mem_drop (List.mem_of_mem_take hv))⟩
  have hfl := rowsOf_flatten e n _ hlen
  have := vr_sl_flat (V := Cf.vw { c with w := c.w.alloc (.cells cs el) }) (rows := rowsOf e n (erases cl)) (t := .full) (b := c.w.heap.size) (o := 0) (cap := n) (e := e) (fun q => cs.getD q Go.undef) he0 (by simp) hrl (by rw [rowsOf_len]; exact Nat.le_refl _) (by rw [rowsOf_len]; simp) (fun q hq => ?_) (fun q v hq => ?_) (by rw [hfl]; exact h3.one) trivial
  · rw [rowsOf_len] at this; exact this
  · rw [rowsOf_len] at hq
    have hq2 : q < cs.size := by have := h3.len; omega
    refine ⟨?_, ?_⟩
    · show World.cell? (c.w.alloc _) ⟨c.w.heap.size, 0 + q, none⟩ = _
      rw [cell_of alloc_new, Nat.zero_add, Array.getElem?_eq_getElem hq2]
      exact congrArg some (getD_lt hq2).symm
    · intro hown
      rcases hown with h4 | ⟨l, i, h4⟩ | ⟨l, i, t, h4, h5, h6, h7⟩ | h4
      · have := hI.Xw _ _ h4; omega
      · have := hI.sgw _ _ _ h4; omega
      · obtain ⟨_, _, h8, _⟩ := hI.tkb _ _ _ h4 (by omega)
        have := heap_lt h8; omega
      · have := heap_lt (hI.dfw _ h4).1; omega
  · rw [hfl] at hq
    exact (h3.get q v hq).ext e1

/-- A composite slice that the call owns. -/
theorem r_bslo {t el n e l i : Nat} {z cl : List AV} {ie : TyI} {s' : St} {ps : List (Nat × Nat × AV)} {qs : Array (Nat × Value)} (hI : Inv K c s) (hst : P.underlying t = some (.slice el)) (hie : TyOK P el ie) (hz : cellsOf ie.z = some z) (he : z.length = e)
    (hsm : n * e ≤ 16777216) (hn : 0 < n) (he0 : 0 < e) (h : fillAt (List.replicate n z).flatten ps = some cl) (hl : ps.length = qs.size)
    (hp : ∀ (j o m : Nat) (v : AV), ps[j]? = some (o, m, v) → ∃ i xv, qs[j]? = some (i, xv) ∧ o = i * e ∧ m = e ∧ VR c.vw v xv) (hnew : newObj s (.cells cl) = some (l, i, s')) :
    ∃ cv c', (Instr.buildSlice t n qs).run P c.w = .ok cv c'.w ∧ Inv K c' s' ∧ Ext c c' ∧ VR c'.vw (.os l i 0 n e) cv := by
  obtain ⟨cs, h1, h2⟩ := run_bsl (P := P) (w := c.w) hst hie hz he hsm hn he0 h hl hp
  obtain ⟨c', h3, h4, h5, h6⟩ := r_new (P := P) hI hnew h1.cp el
  have hw : c'.w = c.w.alloc (.cells cs el) := by
    unfold newRow at h3
    simp only [Sem.run_bind, run_newObj, Result.andThen_ok, Sem.run_pure] at h3
    injection h3 with _ h3
    exact h3.symm
  exact ⟨_, c', by rw [h2, hw], h4, h5, .os l i 0 n e _ 0 n h6 (.inr rfl) (Nat.le_refl _) he0⟩

/-- make of a slice. -/
theorem r_mksl {t el by' : Nat} {z : List AV} {ie : TyI} {n m v : AV} {nv mv : Value} {s' : St} (hI : Inv K c s) (hst : P.underlying t = some (.slice el)) (hie : TyOK P el ie) (hz : cellsOf ie.z = some z) (hz0 : 0 < z.length)
    (hby : ie.bytes = by') (hb0 : 0 < by') (h : mkslAt s z by' n m = some (v, s')) (hn : VR c.vw n nv) (hm : VR c.vw m mv) :
    ∃ cv c', (Instr.makeSlice t nv mv).run P c.w = .ok cv c'.w ∧ Inv K c' s' ∧ Ext c c' ∧ VR c'.vw v cv := by
  obtain ⟨j, hj, hj1, hj2, zv, hz1, hz2⟩ := hie.info
  have hcz : CR c.vw z zv.cells := cr_zero hz2 hz
  have hzs : zv.cells.size = z.length := hcz.len.symm
  have hes : ie.size = z.length := by obtain ⟨l, h1, h2⟩ := hie.zs; rw [hz] at h1; cases h1; exact h2.symm
  cases hn <;> simp only [mkslAt, reduceCtorEq] at h
  cases hm <;> simp only [reduceCtorEq] at h
  rename_i k n k' m
  split at h
  case isFalse => cases h
  rename_i hcond
  obtain ⟨rfl, rfl, h0, rfl, hb⟩ := hcond
  simp only [Option.map_eq_some_iff] at h
  obtain ⟨⟨l, i, s1⟩, hnew, h⟩ := h
  cases h
  obtain ⟨c', h3, h4, h5, h6⟩ := r_new (P := P) hI hnew (cr_replicate hcz n.toNat).cp el
  refine ⟨.slice (some ⟨c.w.heap.size, 0, none⟩) n.toNat n.toNat, c', ?_, h4, h5, .os l i 0 _ _ _ 0 _ h6 (.inr rfl) (Nat.le_refl _) hz0⟩
  obtain ⟨q, rfl⟩ : ∃ q : Nat, n = (q : Int) := ⟨n.toNat, by omega⟩
  have hcomm : (j.bytes : Int) * (q : Int) ≤ 140737488355328 := by rw [Int.mul_comm, hj2, hby]; exact hb
  have hq : q * by' ≤ 140737488355328 := by
    have e1 : ((q * by' : Nat) : Int) = (q : Int) * (by' : Int) := Int.natCast_mul q by'
    omega
  have hq1 : q * 1 ≤ q * by' := Nat.mul_le_mul_left _ hb0
  rw [Int.toNat_natCast] at h3
  have hr := run_make (P := P) c.w t el j zv hst hj hz1 .i64 .i64 (q : Int) (q : Int) (by omega) (Int.le_refl _) (by omega) (by omega)
  have hw : c'.w = c.w.alloc (.cells ((Array.range (q * zv.cells.size)).map fun i => zv.cells[i % zv.cells.size]!) el) := by
    unfold newRow at h3
    simp only [Sem.run_bind, run_newObj, Result.andThen_ok, Sem.run_pure] at h3
    injection h3 with _ h3
    exact h3.symm
  rw [hr, hw, Int.toNat_natCast, hzs, hj1, hes]
  simp only [madeCells, hzs]

/-! ### maps -/

theorem r_mkmap {l i t : Nat} {r : Option Value} {s' : St} (hr : r = none) (hI : Inv K c s) (h : newObj s (.map []) = some (l, i, s')) :
    ∃ cv c', (Instr.makeMap t r).run P c.w = .ok cv c'.w ∧ Inv K c' s' ∧ Ext c c' ∧ VR c'.vw (.mp l i) cv := by
  subst hr
  obtain ⟨c', hc', h1, h2⟩ := inv_new (ob := .map #[] 0) hI h (fun p hp => by cases hp) (by simp) (fun _ _ _ h => by cases h) (fun c' hc' hE => by
    subst hc'
    exact ⟨#[], 0, alloc_new, rfl, by simp⟩)
  refine ⟨.map (some c.w.heap.size), c', ?_, h1, h2, .mp l i _ (by subst hc'; simp [Cf.vw])⟩
  subst hc'
  unfold Instr.makeMap
  simp only [Sem.run_bind, run_newObj, Result.andThen_ok, Sem.run_pure]
  rfl

/-- The entries of a map, told. -/
structure ME (V : Vw) (es : List (AV × AV)) (ents : List MapEntry) : Prop where
  len : ents.length = es.length
  get : ∀ (i : Nat) (k v : AV), es[i]? = some (k, v) → ∃ m, ents[i]? = some m ∧ VR V k m.key ∧ VR V v m.val ∧ pur k = true

theorem ME.cons {k v : AV} {es : List (AV × AV)} {ents : List MapEntry} (h : ME V ((k, v) :: es) ents) : ∃ m r, ents = m :: r ∧ VR V k m.key ∧ VR V v m.val ∧ pur k = true ∧ ME V es r := by
  obtain ⟨m, h1, h2, h3, h4⟩ := h.get 0 k v rfl
  cases ents with
  | nil => simp at h1
  | cons m' r =>
    simp at h1; subst h1
    refine ⟨m', r, rfl, h2, h3, h4, ?_, fun i k v hi => ?_⟩
    · have := h.len; simpa using this
    · obtain ⟨m, h5, h6⟩ := h.get (i + 1) k v (by simpa using hi)
      exact ⟨m, by simpa using h5, h6⟩

theorem map_at {m : AV} {mv : Value} {es : List (AV × AV)} (hI : Inv K c s) (h : mapAt s m = some es) (hm : VR c.vw m mv) :
    (mv = .map none ∧ es = []) ∨ ∃ b ents clk, mv = .map (some b) ∧ c.w.heap[b]? = some (.map ents clk) ∧ ME c.vw es ents.toList := by
  cases hm <;> simp only [mapAt, reduceCtorEq, Option.some.injEq] at h
  · exact .inl ⟨rfl, h.symm⟩
  · rename_i l i b hsg
    cases hg : getObj s l i with
    | none => simp [hg] at h
    | some ob =>
      cases ob <;> simp [hg] at h
      subst h
      obtain ⟨b', h1, ents, clk, h2, h3, h4⟩ := hI.obj l i _ hg rfl
      have : b' = b := by have := hsg; simp only [Cf.vw] at this; rw [h1] at this; cases this; rfl
      subst this
      refine .inr ⟨b', ents, clk, rfl, h2, by simpa using h3, fun i k v hi => ?_⟩
      have hlt : i < ents.size := by
        rw [h3]
        rcases Nat.lt_or_ge i (by assumption : List (AV × AV)).length with hl | hl
        · exact hl
        · rw [List.getElem?_eq_none hl] at hi; cases hi
      obtain ⟨h5, h6, h7⟩ := h4 i k v hi
      simp only [Array.getD, hlt, dite_true] at h5 h6
      exact ⟨ents[i], by simp [hlt], h5, h6, h7⟩
  · rename_i es' b ents clk hb ho hl hk hv hp
    subst h
    refine .inr ⟨b, ents, clk, rfl, hb, by simpa using hl, fun i k v hi => ?_⟩
    have hlt : i < ents.size := by
      rw [hl]
      rcases Nat.lt_or_ge i es'.length with hl | hl
      · exact hl
      · rw [List.getElem?_eq_none hl] at hi; cases hi
    have h5 := hk i k v hi
    have h6 := hv i k v hi
    simp only [Array.getD, hlt, dite_true] at h5 h6
    exact ⟨ents[i], by simp [hlt], h5, h6, (hp i k v hi).1⟩

theorem check_flat {T : Nat → Option TyI} (hTab : TabOK P T) (em : Bool) : ∀ (n t : Nat) (l : List SK), flatT T n t = some l → ∀ (d : Nat), n ≤ d → ∀ (cx : List AV) (x : Value) (i : TyI), T t = some i →
    Told V (isAggK i.k) cx x → cx.length = l.length → (∀ v ∈ cx, pur v = true) → (Instr.checkKey em d t x).run P w = .ok () w := by
  intro n
  induction n with
  | zero => intro t l h; simp [flatT] at h
  | succ n ih =>
    intro t l h d hd cx x i hi hx hlx hpx
    obtain ⟨d, rfl⟩ : ∃ m, d = m + 1 := ⟨d - 1, by omega⟩
    have hok := hTab t i hi
    obtain ⟨ds, hu, hk⟩ := hok.und
    simp only [flatT, hi, Option.bind_some, Option.bind_eq_some_iff] at h
    obtain ⟨l', h1, h2⟩ := h
    split at h2
    case isFalse => cases h2
    rename_i hsz
    cases h2
    have hsub : ∀ t' l', flatT T n t' = some l' → ∃ i', T t' = some i' ∧ i'.size = l'.length ∧ (isAggK i'.k = false → i'.size = 1) := by
      intro t' l' h'
      cases n with
      | zero => simp [flatT] at h'
      | succ n =>
        simp only [flatT, Option.bind_eq_some_iff] at h'
        obtain ⟨i', h3, l3, h4, h5⟩ := h'
        split at h5
        case isFalse => cases h5
        rename_i h6
        cases h5
        refine ⟨i', h3, h6, fun h7 => ?_⟩
        cases hik : i'.k <;> rw [hik] at h4 h7 <;> simp [isAggK] at h4 h7 <;> subst h4 <;> simpa using h6
    cases hik : i.k <;> rw [hik] at h1 hk hx <;> simp only [reduceCtorEq, Option.some.injEq, Option.map_eq_some_iff] at h1 <;> cases ds <;> simp [tkOK] at hk
    case bool.bool => simp [Instr.checkKey, run_und hu]
    case int.int => simp [Instr.checkKey, run_und hu]
    case str.string => simp [Instr.checkKey, run_und hu]
    case st.struct fs fa =>
      simp only [Told, isAggK, if_true] at hx
      cases hx with
      | agg _ xs hx1 hx2 hx3 =>
        obtain ⟨hk1, hk2⟩ := hk
        subst hk1
        rw [Instr.checkKey]
        simp only [Sem.run_bind, run_und hu, Result.andThen_ok]
        rw [← Array.forIn_toList]
        have key : ∀ (fl : List Field) (k : Nat) (l : List SK), flatF (flatT T n) (fl.map fun f => (f.type, f.offset)) k = some l → k + l.length = cx.length → ∀ r,
            r = fl → (Sem.run P (forIn r PUnit.unit fun f __r =>
              if f.name ≠ "_" then do
                let __do_lift ← part f.type xs f.offset
                Instr.checkKey em d f.type __do_lift
                pure (ForInStep.yield PUnit.unit)
              else pure (ForInStep.yield PUnit.unit)) w) = .ok PUnit.unit w := by
          intro fl
          induction fl with
          | nil => intro k l _ _ r hr; subst hr; simp
          | cons f fl ihf =>
            intro k l h1 h2 r hr
            subst hr
            simp only [List.map_cons, flatF] at h1
            split at h1
            case isFalse => cases h1
            rename_i hoff
            simp only [Option.bind_eq_some_iff, Option.map_eq_some_iff] at h1
            obtain ⟨l1, h5, l2, h6, rfl⟩ := h1
            simp only [List.length_append] at h2
            obtain ⟨i', hi', hs', hag'⟩ := hsub _ _ h5
            obtain ⟨a, ha1, ha2⟩ := told_part (P := P) (w := w) (off := k) (hTab _ _ hi') hag' hx1 hx2 hx3 (by omega)
            rw [hs'] at ha2
            have h10 := ih _ _ h5 d (by omega) _ a i' hi' ha2 (by simp; omega) (fun v hv => hpx v (List.mem_of_mem_drop (List.mem_of_mem_take hv)))
            rw [List.forIn_cons]
            simp only [Sem.run_bind, Sem.run_ite, hoff, ha1, h10, Result.andThen_ok, Sem.run_pure]
            split
            · simpa using ihf (k + l1.length) l2 h6 (by omega) fl rfl
            · simpa using ihf (k + l1.length) l2 h6 (by omega) fl rfl
        rw [key fa.toList 0 _ h1 (by omega) _ rfl]
        simp
    case arr.array m e m' e' =>
      obtain ⟨rfl, rfl⟩ := hk
      obtain ⟨l0, h3, rfl⟩ := h1
      simp only [Told, isAggK, if_true] at hx
      cases hx with
      | agg _ xs hx1 hx2 hx3 =>
        obtain ⟨i', hi', hs', hag'⟩ := hsub _ _ h3
        simp only [List.length_flatten, List.map_replicate, List.sum_replicate_nat] at hlx
        rw [Instr.checkKey]
        simp only [Sem.run_bind, run_und hu, Result.andThen_ok]
        simp only [Std.Legacy.Range.forIn_eq_forIn_range', Std.Legacy.Range.size, Nat.sub_zero, Nat.add_one_sub_one, Nat.div_one]
        have each : ∀ j ∈ List.range' 0 m, j < m := by intro j hj; simp [List.mem_range'] at hj; omega
        generalize List.range' 0 m = is at each
        induction is with
        | nil => simp
        | cons k is ihi =>
          have hkm := each k (by simp)
          have hb : (k + 1) * l0.length ≤ m * l0.length := Nat.mul_le_mul_right _ (by omega)
          have hb' : (k + 1) * l0.length = k * l0.length + l0.length := by rw [Nat.add_mul]; omega
          obtain ⟨a, ha1, ha2⟩ := told_part (P := P) (w := w) (off := k * l0.length) (hTab _ _ hi') hag' hx1 hx2 hx3 (by omega)
          rw [hs'] at ha2
          have h10 := ih _ _ h3 d (by omega) _ a i' hi' ha2 (by simp; omega) (fun v hv => hpx v (List.mem_of_mem_drop (List.mem_of_mem_take hv)))
          simp only [List.forIn_cons, Sem.run_bind, (hTab _ _ hi').size, hs', Result.andThen_ok, ha1, h10, Sem.run_pure]
          exact ihi (fun y hy => each y (by simp [hy]))

def idxE (kk : EqK) (k : AV) : List (AV × AV) → Option (Option Nat)
  | [] => some none
  | (k', _) :: r => (eqK kk k k').bind fun t => if t = true then some (some 0) else (idxE kk k r).map fun o => o.map (· + 1)

theorem lookE_idx {kk : EqK} {k : AV} : ∀ {es : List (AV × AV)} {r : Option AV}, lookE kk k es = some r → ∃ oi, idxE kk k es = some oi ∧ r = oi.bind fun i => (es[i]?).map (·.2)
  | [], r, h => by simp [lookE] at h; subst h; exact ⟨none, rfl, rfl⟩
  | (k', v) :: es, r, h => by
    simp only [lookE, Option.bind_eq_some_iff] at h
    obtain ⟨t, h1, h2⟩ := h
    simp only [idxE, h1, Option.bind_some]
    cases t with
    | true => simp at h2; subst h2; exact ⟨some 0, rfl, by simp⟩
    | false =>
      simp at h2
      obtain ⟨oi, h3, h4⟩ := lookE_idx h2
      refine ⟨oi.map (· + 1), by simp [h3], ?_⟩
      rw [h4]; cases oi <;> simp

theorem setE_idx {kk : EqK} {k v : AV} : ∀ {es es' : List (AV × AV)}, setE kk k v es = some es' → ∃ oi, idxE kk k es = some oi ∧ es' = (match oi with | none => es ++ [(k, v)] | some i => es.set i (k, v)) ∧ ∀ i, oi = some i → i < es.length
  | [], es', h => by simp [setE] at h; subst h; exact ⟨none, rfl, rfl, by simp⟩
  | (k', v') :: es, es', h => by
    simp only [setE, Option.bind_eq_some_iff] at h
    obtain ⟨t, h1, h2⟩ := h
    simp only [idxE, h1, Option.bind_some]
    cases t with
    | true => simp at h2; subst h2; exact ⟨some 0, rfl, rfl, by simp⟩
    | false =>
      simp only [Bool.false_eq_true, if_false, Option.map_eq_some_iff] at h2
      obtain ⟨es1, h3, rfl⟩ := h2
      obtain ⟨oi, h4, h5, h6⟩ := setE_idx h3
      refine ⟨oi.map (· + 1), by simp [h4], ?_, ?_⟩
      · rw [h5]; cases oi <;> simp
      · intro i hi
        cases oi with
        | none => simp at hi
        | some j => simp at hi; subst hi; have := h6 j rfl; simp; omega

theorem find_asking {T : Nat → Option TyI} (hTab : TabOK P T) {kk : EqK} {t : Nat} (hk : EqT P T kk t) {k : AV} {kv : Value} (hkv : VR V k kv) : ∀ (es : List (AV × AV)) (ents : List MapEntry) (n : Nat) (oi : Option Nat),
    idxE kk k es = some oi → ME V es ents → (Instr.findAsking t kv ents n).run P w = .ok (oi.bind fun i => (ents[i]?).map fun m => (n + i, m.val)) w
  | [], ents, n, oi, h, hm => by
    have : ents = [] := by have := hm.len; simpa using this
    subst this
    simp [idxE] at h; subst h
    simp [Instr.findAsking]
  | (k', v) :: es, ents, n, oi, h, hm => by
    obtain ⟨m, r, rfl, h1, h2, h3, h4⟩ := hm.cons
    simp only [idxE, Option.bind_eq_some_iff] at h
    obtain ⟨b, h5, h6⟩ := h
    have he := r_equal (P := P) (w := w) hTab hk h5 hkv h1
    simp only [Instr.findAsking, Sem.run_bind, he, Result.andThen_ok]
    cases b with
    | true => simp at h6; subst h6; simp
    | false =>
      simp only [Bool.false_eq_true, if_false, Option.map_eq_some_iff] at h6
      obtain ⟨o, h7, rfl⟩ := h6
      have := find_asking hTab hk hkv es r (n + 1) o h7 h4
      simp only [Bool.false_eq_true, if_false, this]
      cases o with
      | none => rfl
      | some j => simp [Nat.add_assoc, Nat.add_comm 1 j]

theorem find_key {T : Nat → Option TyI} (hTab : TabOK P T) {kk : EqK} {t : Nat} (hk : EqT P T kk t) {k : AV} {kv : Value} (hkv : VR V k kv) (es : List (AV × AV)) (ents : List MapEntry) (oi : Option Nat)
    (h : idxE kk k es = some oi) (hm : ME V es ents) (hnil : ∀ q, kk ≠ .nil q) : (Instr.findKey t kv ents).run P w = .ok (oi.bind fun i => (ents[i]?).map fun m => (i, m.val)) w := by
  have scalar : ∀ d, P.underlying t = some d → (∀ k' m b, eqK kk k k' = some b → VR V k' m → Instr.sameNow d kv m = some b) →
      ∀ (es : List (AV × AV)) (ents : List MapEntry) (n : Nat) (oi : Option Nat), idxE kk k es = some oi → ME V es ents → Instr.findNow d kv ents n = some (oi.bind fun i => (ents[i]?).map fun m => (n + i, m.val)) := by
    intro d hd hs es
    induction es with
    | nil =>
      intro ents n oi h hm
      have : ents = [] := by have := hm.len; simpa using this
      subst this
      simp [idxE] at h; subst h
      simp [Instr.findNow]
    | cons p es ih =>
      obtain ⟨k', v⟩ := p
      intro ents n oi h hm
      obtain ⟨m, r, rfl, h1, h2, h3, h4⟩ := hm.cons
      simp only [idxE, Option.bind_eq_some_iff] at h
      obtain ⟨b, h5, h6⟩ := h
      simp only [Instr.findNow, hs k' m.key b h5 h1]
      cases b with
      | true => simp at h6; subst h6; simp
      | false =>
        simp only [Bool.false_eq_true, if_false, Option.map_eq_some_iff] at h6
        obtain ⟨o, h7, rfl⟩ := h6
        rw [ih r (n + 1) o h7 h4]
        cases o with
        | none => rfl
        | some j => simp [Nat.add_assoc, Nat.add_comm 1 j]
  have fin : ∀ d, P.underlying t = some d → Instr.findNow d kv ents 0 = some (oi.bind fun i => (ents[i]?).map fun m => (0 + i, m.val)) → (Instr.findKey t kv ents).run P w = .ok (oi.bind fun i => (ents[i]?).map fun m => (i, m.val)) w := by
    intro d hd h1
    unfold Instr.findKey
    simp only [Sem.run_bind, run_und hd, Result.andThen_ok, h1, Sem.run_pure, Nat.zero_add]
  cases hk with
  | bool _ h0 =>
    refine fin _ h0 (scalar _ h0 (fun k' m b he hv => ?_) es ents 0 oi h hm)
    simp only [eqK] at he
    cases hkv <;> cases hv <;> simp [eqS] at he
    subst he; rfl
  | int _ q h0 =>
    refine fin _ h0 (scalar _ h0 (fun k' m b he hv => ?_) es ents 0 oi h hm)
    simp only [eqK] at he
    cases hkv <;> cases hv <;> simp [eqS] at he
    obtain ⟨rfl, rfl⟩ := he; simp [Instr.sameNow]
  | str _ h0 =>
    refine fin _ h0 (scalar _ h0 (fun k' m b he hv => ?_) es ents 0 oi h hm)
    simp only [eqK] at he
    cases hkv <;> cases hv <;> simp [eqS] at he
    subst he
    simp only [Instr.sameNow]
    rw [beq_toListBytes, ByteArray.toList_mk, ByteArray.toList_mk]
  | agg _ n l i h0 hn hi ha hg =>
    obtain ⟨d, hd, hdk⟩ := (hTab _ _ hi).und
    cases es with
    | nil =>
      have : ents = [] := by have := hm.len; simpa using this
      subst this
      simp [idxE] at h; subst h
      exact fin d hd rfl
    | cons p es =>
      obtain ⟨m, r, rfl, h1, h2, h3, h4⟩ := hm.cons
      have hnone : Instr.findNow d kv (m :: r) 0 = none := by
        have hs : Instr.sameNow d kv m.key = none := by
          cases hik : i.k <;> rw [hik] at ha hdk <;> simp [isAggK] at ha <;> cases d <;> simp [tkOK] at hdk <;> rfl
        simp [Instr.findNow, hs]
      have := find_asking (P := P) (w := w) hTab (EqT.agg t n l i h0 hn hi ha hg) hkv (p :: es) (m :: r) 0 oi h hm
      unfold Instr.findKey
      simp only [Sem.run_bind, run_und hd, Result.andThen_ok, hnone, this, Nat.zero_add]
  | sl _ e h0 => exact absurd rfl (hnil _)
  | ptr _ e h0 => exact absurd rfl (hnil _)
  | map _ a e h0 => exact absurd rfl (hnil _)
  | fn _ a b v h0 => exact absurd rfl (hnil _)

theorem check_key {T : Nat → Option TyI} (hTab : TabOK P T) {kk : EqK} {t : Nat} (hk : EqT P T kk t) {k : AV} {kv : Value} (hkv : VR V k kv) (hpk : pur k = true) (em : Bool) (hf : ∀ l, kk = .agg l → ∃ c, k = .agg c ∧ c.length = l.length) (hnil : ∀ q, kk ≠ .nil q) :
    (Instr.checkKey em 10000 t kv).run P w = .ok () w := by
  suffices ∀ d, 9999 ≤ d → (Instr.checkKey em (d + 1) t kv).run P w = .ok () w from this 9999 (Nat.le_refl _)
  intro d hd
  cases hk with
  | bool _ h0 => simp [Instr.checkKey, run_und h0]
  | int _ q h0 => simp [Instr.checkKey, run_und h0]
  | str _ h0 => simp [Instr.checkKey, run_und h0]
  | agg _ n l i h0 hn hi ha hg =>
    obtain ⟨c, rfl, hl⟩ := hf l rfl
    exact check_flat hTab em n t l h0 (d + 1) (by omega) c kv i hi (by simpa [Told, ha] using hkv) hl (fun v hv => pures_mem (by simpa [pur] using hpk) v hv)
  | sl _ e h0 => exact absurd rfl (hnil _)
  | ptr _ e h0 => exact absurd rfl (hnil _)
  | map _ a e h0 => exact absurd rfl (hnil _)
  | fn _ a b v h0 => exact absurd rfl (hnil _)

theorem keyOK_spec {kk : EqK} {k : AV} (h : keyOK kk k = true) : pur k = true ∧ (∀ l, kk = .agg l → ∃ c, k = .agg c ∧ c.length = l.length) ∧ ∀ q, kk ≠ .nil q := by
  simp only [keyOK, Bool.and_eq_true] at h
  obtain ⟨h1, h2⟩ := h
  refine ⟨h1, ?_, ?_⟩
  · rintro l rfl
    cases k <;> simp at h2
    exact ⟨_, rfl, h2⟩
  · rintro q rfl; cases k <;> simp at h2

theorem r_lookup {T : Nat → Option TyI} (hTab : TabOK P T) {kk : EqK} {t kt el : Nat} {z m k : AV} {mv kv : Value} {ie : TyI} {es : List (AV × AV)} {r : Option AV} {ok : Bool} (hI : Inv K c s) (hT : P.underlying t = some (.map kt el)) (hk : EqT P T kk kt) (hie : TyOK P el ie) (hz : ie.z = z)
    (h1 : mapAt s m = some es) (h2 : keyOK kk k = true) (h3 : lookE kk k es = some r) (hm : VR c.vw m mv) (hkv : VR c.vw k kv) :
    ∃ cv, (Instr.lookup t mv kv ok).run P c.w = .ok cv c.w ∧ VR c.vw (if ok = true then .tup [r.getD z, .bool r.isSome] else r.getD z) cv := by
  obtain ⟨j, hj, hj1, hj2, zv, hz1, hz2⟩ := hie.info
  obtain ⟨p1, p2, p3⟩ := keyOK_spec h2
  obtain ⟨oi, h4, rfl⟩ := lookE_idx h3
  have main : ∀ (ents : Array MapEntry), ME c.vw es ents.toList → ∃ res : Option (Nat × Value), (Instr.checkKey ents.isEmpty 10000 kt kv).run P c.w = .ok () c.w ∧ (Instr.findKey kt kv ents.toList).run P c.w = .ok res c.w ∧
      ((res = none ∧ (oi.bind fun i => (es[i]?).map (·.2)) = none) ∨ ∃ i x v, res = some (i, x) ∧ (oi.bind fun i => (es[i]?).map (·.2)) = some v ∧ VR c.vw v x) := by
    intro ents hme
    have hc := check_key (P := P) (w := c.w) hTab hk hkv p1 ents.isEmpty p2 p3
    have hf := find_key (P := P) (w := c.w) hTab hk hkv es ents.toList oi h4 hme p3
    refine ⟨_, hc, hf, ?_⟩
    cases oi with
    | none => exact .inl ⟨rfl, rfl⟩
    | some i =>
      cases he : es[i]? with
      | none =>
        have : ents.toList[i]? = none := by
          rw [List.getElem?_eq_none_iff] at he ⊢
          have := hme.len; omega
        exact .inl ⟨by simp only [Option.bind_some, this, Option.map_none], by simp [he]⟩
      | some p =>
        obtain ⟨m, e1, _, e2, _⟩ := hme.get i p.1 p.2 he
        exact .inr ⟨i, m.val, p.2, by simp only [Option.bind_some, e1, Option.map_some], by simp [he], e2⟩
  have fin : ∀ (v : AV) (x : Value) (b : Bool), VR c.vw v x → VR c.vw (if ok = true then .tup [v, .bool b] else v) (if ok = true then .tuple #[x, .bool b] else x) := by
    intro v x b hv
    cases ok with
    | true =>
      refine .tup _ _ rfl fun j w hj => ?_
      cases j with
      | zero => simp at hj; subst hj; simpa using hv
      | succ j => cases j with
        | zero => simp at hj; subst hj; simpa using VR.bool b
        | succ j => simp at hj
    | false => simpa using hv
  have hz' : VR c.vw z zv := hz ▸ chkV_ok _ _ hz2
  rcases map_at hI h1 hm with ⟨rfl, rfl⟩ | ⟨b, ents, clk, rfl, hb, hme⟩
  · obtain ⟨res, h5, h6, h7⟩ := main #[] ⟨rfl, by simp⟩
    unfold Instr.lookup
    simp only [Sem.run_bind, run_und hT, Result.andThen_ok, Sem.run_pure, h5, h6]
    rcases h7 with ⟨rfl, h7⟩ | ⟨i, x, v, rfl, h7, h8⟩
    · rw [h7]
      simp only [Sem.run_bind, run_zero hj hz1, Result.andThen_ok, Sem.run_pure]
      exact ⟨_, rfl, fin _ _ _ hz'⟩
    · rw [h7]
      simp only [Sem.run_bind, Result.andThen_ok, Sem.run_pure]
      exact ⟨_, rfl, fin _ _ _ h8⟩
  · obtain ⟨res, h5, h6, h7⟩ := main ents hme
    have hg : (Go.getObj b).run P c.w = .ok (.map ents clk) c.w := by simp [Go.getObj, Sem.run, hb]
    unfold Instr.lookup
    simp only [Sem.run_bind, run_und hT, Result.andThen_ok, hg, Sem.run_pure, h5, h6]
    rcases h7 with ⟨rfl, h7⟩ | ⟨i, x, v, rfl, h7, h8⟩
    · rw [h7]
      simp only [Sem.run_bind, run_zero hj hz1, Result.andThen_ok, Sem.run_pure]
      exact ⟨_, rfl, fin _ _ _ hz'⟩
    · rw [h7]
      simp only [Sem.run_bind, Result.andThen_ok, Sem.run_pure]
      exact ⟨_, rfl, fin _ _ _ h8⟩

/-- Equal keys have the same bits. -/
theorem sameBits_eq {kk : EqK} {k k' : AV} {a b : Value} (h : eqK kk k k' = some true) (ha : VR V k a) (hb : VR V k' b) (hnil : ∀ q, kk ≠ .nil q) : Instr.sameBits 10000 b a = true := by
  have scal : ∀ q (x y : AV) (a b : Value) (n : Nat), eqS q x y = some true → VR V x a → VR V y b → Instr.sameBits n b a = true := by
    intro q x y a b n h1 h2 h3
    cases q <;> cases h2 <;> cases h3 <;> simp [eqS] at h1
    · obtain ⟨rfl, rfl⟩ := h1; simp [Instr.sameBits]
    · subst h1; simp [Instr.sameBits]
    · subst h1; simp only [Instr.sameBits]; rw [beq_toListBytes]; simp
  cases kk with
  | s q => exact scal q k k' a b 10000 h ha hb
  | agg l =>
    cases k <;> simp only [eqK, reduceCtorEq] at h
    cases k' <;> simp only [reduceCtorEq] at h
    split at h
    case isFalse => cases h
    rename_i x y hl
    simp only [Bool.and_eq_true, beq_iff_eq] at hl
    cases ha with
    | agg _ xs x1 x2 x3 =>
      cases hb with
      | agg _ ys y1 y2 y3 =>
        have key : ∀ (l : List SK) (x y : List AV) (xs ys : List Value), eqL l x y = some true → x.length = xs.length → y.length = ys.length → (∀ j v, x[j]? = some v → VR V v (xs.getD j Go.undef)) → (∀ j v, y[j]? = some v → VR V v (ys.getD j Go.undef)) →
            (ys.zip xs).all (fun (p : Value × Value) => Instr.sameBits 9999 p.1 p.2) = true := by
          intro l
          induction l with
          | nil =>
            intro x y xs ys h1 h2 h3 h4 h5
            cases x <;> cases y <;> simp [eqL] at h1
            cases xs <;> simp at h2
            cases ys <;> simp at h3
            rfl
          | cons q l ih =>
            intro x y xs ys h1 h2 h3 h4 h5
            cases x with
            | nil => simp [eqL] at h1
            | cons v x =>
              cases y with
              | nil => simp [eqL] at h1
              | cons u y =>
                simp only [eqL, Option.bind_eq_some_iff] at h1
                obtain ⟨t, h6, h7⟩ := h1
                cases t with
                | false => simp at h7
                | true =>
                  simp only [if_true] at h7
                  cases xs with
                  | nil => simp at h2
                  | cons a xs =>
                    cases ys with
                    | nil => simp at h3
                    | cons b ys =>
                      simp only [List.zip_cons_cons, List.all_cons, Bool.and_eq_true]
                      refine ⟨scal q v u a b 9999 h6 (by simpa using h4 0 v rfl) (by simpa using h5 0 u rfl), ?_⟩
                      exact ih x y xs ys h7 (by simpa using h2) (by simpa using h3) (fun j v hj => by simpa using h4 (j + 1) v (by simpa using hj)) (fun j v hj => by simpa using h5 (j + 1) v (by simpa using hj))
        have := key l x y xs.toList ys.toList h (by simpa using x1) (by simpa using y1) (fun j v hj => by simpa using x2 j v hj) (fun j v hj => by simpa using y2 j v hj)
        show Instr.sameBits (9999 + 1) (.agg ys) (.agg xs) = true
        simp only [Instr.sameBits, Bool.and_eq_true, beq_iff_eq]
        exact ⟨by omega, this⟩
  | nil q => exact absurd rfl (hnil q)

theorem idxE_eq {kk : EqK} {k : AV} : ∀ {es : List (AV × AV)} {i : Nat}, idxE kk k es = some (some i) → ∃ k' v', es[i]? = some (k', v') ∧ eqK kk k k' = some true
  | [], i, h => by simp [idxE] at h
  | (k', v) :: es, i, h => by
    simp only [idxE, Option.bind_eq_some_iff] at h
    obtain ⟨t, h1, h2⟩ := h
    cases t with
    | true => simp at h2; subst h2; exact ⟨k', v, rfl, h1⟩
    | false =>
      simp only [Bool.false_eq_true, if_false, Option.map_eq_some_iff] at h2
      obtain ⟨o, h3, h4⟩ := h2
      cases o with
      | none => simp at h4
      | some j =>
        simp at h4; subst h4
        obtain ⟨k2, v2, h5, h6⟩ := idxE_eq h3
        exact ⟨k2, v2, by simpa using h5, h6⟩

theorem r_upd {T : Nat → Option TyI} (hTab : TabOK P T) {kk : EqK} {t kt el : Nat} {m k x : AV} {mv kv xv : Value} {s' : St} (hI : Inv K c s) (hT : P.underlying t = some (.map kt el)) (hk : EqT P T kk kt)
    (h : updAt kk s m k x = some s') (hm : VR c.vw m mv) (hkv : VR c.vw k kv) (hxv : VR c.vw x xv) :
    ∃ c', (Instr.mapUpdate t mv kv xv).run P c.w = .ok () c'.w ∧ Inv K c' s' ∧ Ext c c' := by
  cases hm <;> simp only [updAt, reduceCtorEq] at h
  rename_i l i b hsg
  cases hg : getObj s l i with
  | none => simp [hg] at h
  | some ob =>
    cases ob <;> simp only [hg, reduceCtorEq] at h
    rename_i es
    split at h
    case isFalse => cases h
    rename_i hko
    simp only [Option.bind_eq_some_iff, Option.map_eq_some_iff] at h
    obtain ⟨x', h1, es', h2, rfl⟩ := h
    obtain ⟨p1, p2, p3⟩ := keyOK_spec hko
    rcases map_at (m := .mp l i) (es := es) hI (by simp [mapAt, hg]) (.mp l i b hsg) with ⟨h3, _⟩ | ⟨b', ents, clk, h3, hb, hme⟩
    · cases h3
    cases h3
    obtain ⟨oi, h4, h5, h6⟩ := setE_idx h2
    have hc := check_key (P := P) (w := c.w) hTab hk hkv p1 false p2 p3
    have hf := find_key (P := P) (w := c.w) hTab hk hkv es ents.toList oi h4 hme p3
    have hx' : VR c.vw x' xv := clamp_vr h1 hxv
    have hgo : (Go.getObj b).run P c.w = .ok (.map ents clk) c.w := by simp [Go.getObj, Sem.run, hb]
    have hlt := heap_lt hb
    have hset : ∀ o, (Go.setObj b o).run P c.w = .ok () (c.w.putObj b o) := fun o => by simp [Go.setObj, Sem.run, hb, World.putObj]
    have hlo : Ab.lowO l (.map es') := fun p hp => by
      have := hI.lowO _ _ _ hg
      rw [h5] at hp
      cases oi with
      | none =>
        rcases List.mem_append.1 hp with hp | hp
        · exact this p hp
        · simp at hp; subst hp; exact clamp_low h1
      | some i0 =>
        rcases List.mem_or_eq_of_mem_set hp with hp | rfl
        · exact this p hp
        · exact clamp_low h1
    have done : ∀ (ents' : Array MapEntry) (clk' : Nat), ME c.vw es' ents'.toList → Inv K { c with w := c.w.putObj b (.map ents' clk') } (setObj s l i (.map es')) ∧ Ext c { c with w := c.w.putObj b (.map ents' clk') } := by
      intro ents' clk' hme'
      refine inv_set hI hlo (by simp) hsg hg (sameIO_put hb (by simp) (by simp)) (fun b' hne => World.putObj_heap_other hne) World.putObj_size (fun r hr => by rw [hb] at hr; cases hr) fun hE => ?_
      refine ⟨ents', clk', World.putObj_heap_same hlt, by simpa using hme'.len, fun j k v hj => ?_⟩
      obtain ⟨m, m1, m2, m3, m4⟩ := hme'.get j k v hj
      have hjl : j < ents'.size := by
        rcases Nat.lt_or_ge j ents'.toList.length with hl | hl
        · simpa using hl
        · rw [List.getElem?_eq_none hl] at m1; cases m1
      have hm : ents'.getD j default = m := by
        simp only [Array.getD, hjl, dite_true]
        simpa [hjl] using m1
      rw [hm]
      exact ⟨m2.ext hE, m3.ext hE, m4⟩
    cases oi with
    | none =>
      simp only at h5
      obtain ⟨g1, g2⟩ := done (ents.push { key := kv, val := xv, born := clk }) (clk + 1) (by
        rw [h5]
        refine ⟨by have := hme.len; simp at this ⊢; omega, fun j k2 v hj => ?_⟩
        rw [List.getElem?_append] at hj
        split at hj
        · rename_i hjl
          obtain ⟨m, m1, m2⟩ := hme.get j k2 v hj
          refine ⟨m, ?_, m2⟩
          have : j < ents.size := by have := hme.len; simp at this; omega
          simp only [Array.toList_push]
          rw [List.getElem?_append_left (by simpa using this)]; exact m1
        · rename_i hjl
          have hj0 : j - es.length = 0 := by
            rcases Nat.eq_zero_or_pos (j - es.length) with h | h
            · exact h
            · rw [List.getElem?_eq_none (by simp; omega)] at hj; cases hj
          rw [hj0] at hj
          simp at hj
          obtain ⟨rfl, rfl⟩ := hj
          refine ⟨{ key := kv, val := xv, born := clk }, ?_, hkv, hx', p1⟩
          have : j = ents.toList.length := by have := hme.len; omega
          simp [this])
      refine ⟨_, ?_, g1, g2⟩
      unfold Instr.mapUpdate
      simp only [Sem.run_bind, run_und hT, Result.andThen_ok, hgo, hc, hf, Option.bind_none, hset]
    | some i0 =>
      simp only at h5
      have hi0 := h6 i0 rfl
      obtain ⟨k', v', e1, e2⟩ := idxE_eq h4
      obtain ⟨m, m1, m2, m3, m4⟩ := hme.get i0 k' v' e1
      have hil : i0 < ents.size := by have := hme.len; simp at this; omega
      have hm : ents[i0]? = some m := by simpa using m1
      have hsb := sameBits_eq e2 hkv m2 p3
      have hkt : (Instr.keyThatStays (((ents[i0]?).map (·.key)).getD kv) kv).run P c.w = .ok kv c.w := by
        rw [hm]
        unfold Instr.keyThatStays
        simp only [Option.map_some, Option.getD_some, hsb, if_true, Sem.run_pure]
      obtain ⟨g1, g2⟩ := done (ents.modify i0 fun e => { e with key := kv, val := xv }) clk (by
        rw [h5]
        refine ⟨by have := hme.len; simp at this ⊢; omega, fun j k2 v hj => ?_⟩
        rw [List.getElem?_set] at hj
        by_cases hji : i0 = j
        · subst hji
          rw [if_pos rfl, if_pos hi0] at hj
          cases hj
          refine ⟨{ m with key := kv, val := xv }, ?_, hkv, hx', p1⟩
          rw [Array.getElem?_toList, Array.getElem?_modify, if_pos rfl, hm]; rfl
        · rw [if_neg hji] at hj
          obtain ⟨m', n1, n2⟩ := hme.get j k2 v hj
          refine ⟨m', ?_, n2⟩
          rw [Array.getElem?_toList, Array.getElem?_modify, if_neg hji]
          simpa using n1)
      refine ⟨_, ?_, g1, g2⟩
      unfold Instr.mapUpdate
      simp only [Sem.run_bind, run_und hT, Result.andThen_ok, hgo, hc, hf, Option.bind_some, m1, Option.map_some, hkt, hset]

theorem r_lenm {x v : AV} {xv : Value} {t kt el : Nat} {ts : Array TypeId} {ty : TypeId} (hI : Inv K c s) (hT : P.underlying t = some (.map kt el)) (ht : ts[0]? = some t)
    (h : lenmAt s x = some v) (hx : VR c.vw x xv) : ∃ cv, (Builtin.len_ ts ty #[xv]).run P c.w = .ok cv c.w ∧ VR c.vw v cv := by
  simp only [lenmAt, Option.map_eq_some_iff] at h
  obtain ⟨es, h1, rfl⟩ := h
  have e0 : ∀ q : Value, (#[q] : Array Value)[0]? = some q := fun _ => rfl
  rcases map_at hI h1 hx with ⟨rfl, rfl⟩ | ⟨b, ents, clk, rfl, hb, hme⟩
  · refine ⟨.int .i64 0, ?_, by simpa using VR.int .i64 0⟩
    unfold Builtin.len_
    simp [ht, run_und hT, goInt]
  · have hgo : (Go.getObj b).run P c.w = .ok (.map ents clk) c.w := by simp [Go.getObj, Sem.run, hb]
    refine ⟨.int .i64 ents.size, ?_, ?_⟩
    · unfold Builtin.len_
      simp [ht, run_und hT, goInt, hgo]
    · have := hme.len
      simp only [Array.length_toList] at this
      rw [this]; exact .int _ _

/-- append into a new array that the call owns. -/
theorem r_appo {e by' : Nat} {x y v : AV} {xv yv : Value} {s' : St} {ts : Array TypeId} {ty st el yt : Nat} {ie : TyI} {dy : TypeDesc} (hI : Inv K c s)
    (h0 : ts[0]? = some st) (hst : P.underlying st = some (.slice el)) (hie : TyOK P el ie) (he : ie.size = e) (hby : ie.bytes = by') (hb0 : 0 < by') (he0 : 0 < e)
    (h1 : ts[1]? = some yt) (hyt : P.underlying yt = some dy) (hni : ∀ k, dy ≠ .int k)
    (ha : appoAt s e by' x y = some (v, s')) (hx : VR c.vw x xv) (hy : VR c.vw y yv) :
    ∃ cv c', (Builtin.append_ ts ty #[xv, yv]).run P c.w = .ok cv c'.w ∧ Inv K c' s' ∧ Ext c c' ∧ VR c'.vw v cv := by
  cases x <;> simp only [appoAt, reduceCtorEq] at ha
  rename_i r t
  split at ha
  case isFalse => cases ha
  rename_i ht
  simp only [Option.bind_eq_some_iff] at ha
  obtain ⟨ys, hys, ha⟩ := ha
  split at ha
  · -- nothing is appended
    rename_i hemp
    cases ha
    have hys0 : ys = [] := by simpa using hemp
    subst hys0
    have hxs : ∃ (base : Option Addr) (cap : Nat), xv = .slice base r.length cap ∧ r.length ≤ cap := by
      cases hx with
      | slnil => exact ⟨none, 0, rfl, Nat.le_refl _⟩
      | sl _ _ b o cap e0 f he0 ht hr hcap => exact ⟨_, _, rfl, hcap⟩
    obtain ⟨base, cap, rfl, hle⟩ := hxs
    obtain ⟨g1, g2, cs, g3, g4⟩ := first_cells (P := P) hI hys rfl he0 hy
    have hcs : cs = #[] := by
      have := g4.len
      simp at this
      exact Array.eq_empty_of_size_eq_zero this.symm
    subst hcs
    refine ⟨_, c, run_append_fits h0 hst hie he h1 hyt hni g1 (g3 _ rfl) (by simpa using hle) (w' := c.w) ?_, hI, Ext.refl _, by simpa using hx⟩
    cases base <;> simp [storeCells]
  rename_i hemp
  split at ha
  case isFalse => cases ha
  rename_i hcond
  simp only [Bool.and_eq_true, decide_eq_true_eq] at hcond
  obtain ⟨⟨⟨hf1, hf2⟩, _⟩, hbd⟩ := hcond
  simp only [Option.map_eq_some_iff] at ha
  obtain ⟨⟨l, i, s1⟩, hnew, ha⟩ := ha
  cases ha
  have hpos : 0 < ys.length := by cases ys <;> simp_all
  obtain ⟨g1, g2, cs, g3, g4⟩ := first_cells (P := P) hI hys hf2 he0 hy
  obtain ⟨o1, o2, oc, o3, o4⟩ := first_cells (P := P) (y := .sl r t) (e := e) hI rfl hf1 he0 hx
  have hxs : ∃ (base : Option Addr) (cap : Nat), xv = .slice base r.length cap ∧ cap = r.length := by
    cases hx with
    | slnil => exact ⟨none, 0, rfl, rfl⟩
    | sl _ _ b o cap e1 f he1 htn hr hcap hfull =>
      rcases ht with rfl | rfl
      · exact absurd rfl htn
      · exact ⟨_, _, rfl, hfull rfl⟩
  obtain ⟨base, cap, rfl, hcap⟩ := hxs
  obtain ⟨nc, w1, zs, n1, n2, n3, n4⟩ := run_append_grows (ty := ty) h0 hst hie he hby h1 hyt hni g1 (by omega) hbd hb0 g3 o3
  obtain ⟨n2, n2'⟩ := n2
  obtain ⟨i1, e1⟩ := inv_heap (w' := w1) n2' n2 hI
  have hcr : CR c.vw (r ++ ys).flatten (oc ++ cs) := by rw [List.flatten_append]; exact o4.append g4
  have hcp : CP (Cf.vw { c with w := w1 }) (r ++ ys).flatten (oc ++ cs ++ zs) := by
    refine ⟨by have := hcr.len; simp only [Array.size_append] at this ⊢; omega, fun j v hj => ?_, hcr.one⟩
    have hjl : j < (oc ++ cs).size := by
      have := hcr.len
      rcases Nat.lt_or_ge j (r ++ ys).flatten.length with hl | hl
      · omega
      · rw [List.getElem?_eq_none hl] at hj; cases hj
    rw [getD_app hjl]
    exact (hcr.get j v hj).ext e1
  obtain ⟨c', h3, h4, h5, h6⟩ := r_new (P := P) i1 hnew hcp el
  have hw : c'.w = w1.alloc (.cells (oc ++ cs ++ zs) el) := by
    unfold newRow at h3
    simp only [Sem.run_bind, run_newObj, Result.andThen_ok, Sem.run_pure] at h3
    injection h3 with _ h3
    exact h3.symm
  have h6' : c'.sg l i = some c.w.heap.size := by rw [h6]; simp [n2]
  exact ⟨_, c', by rw [n4, hw], h4, e1.trans h5, .os l i 0 _ e _ 0 nc h6' (.inr rfl) n1 he0⟩
end
end Go.Ab
