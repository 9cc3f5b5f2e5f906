/-
  Places kept free: an object that is laid at such a place, and its first contents.
-/
import Derived.Test.YthbekoofiienjaaDoorAbMem
namespace Go.Ab
open Go

section
variable {K : Nat → C → Code → Prop} {P : Program} {c : Cf} {s s' : St}

theorem rsv_get {ns : List Nat} (h : rsvAt ns s = some s') : s'.length = s.length ∧ (∀ l p, getTok s' l p = getTok s l p) ∧
    ∀ l i, getObj s' l i = getObj s l i ∨ (getObj s l i = none ∧ ∃ n, getObj s' l i = some (.free n)) := by
  unfold rsvAt at h
  split at h
  · cases h
  rename_i os t r
  cases h
  refine ⟨rfl, fun l p => ?_, fun l i => ?_⟩
  · simp only [getTok, getFr]
    by_cases h : l = r.length <;> simp [h]
  · simp only [getObj, getFr]
    by_cases h : l = r.length
    · simp only [h, if_true, Option.bind_some, getO_eq]
      rw [List.getElem?_append]
      split
      · exact .inl rfl
      · rename_i hi
        rw [List.getElem?_eq_none (by omega : os.length ≤ i)]
        cases hg : (ns.map AObj.free)[i - os.length]? with
        | none => exact .inl rfl
        | some o =>
          simp only [List.getElem?_map, Option.map_eq_some_iff] at hg
          obtain ⟨n, _, rfl⟩ := hg
          exact .inr ⟨rfl, n, rfl⟩
    · simp [h]

theorem inv_rsv {ns : List Nat} (hI : Inv K c s) (h : rsvAt ns s = some s') : Inv K c s' := by
  obtain ⟨h1, h2, h3⟩ := rsv_get h
  exact { hI with
    obj := fun l i o ho hd => by
      rcases h3 l i with h | ⟨_, n, h⟩
      · exact hI.obj l i o (by rw [← h]; exact ho) hd
      · rw [h] at ho; cases ho; cases hd
    lowO := fun l i o ho => by
      rcases h3 l i with h | ⟨_, n, h⟩
      · exact hI.lowO l i o (by rw [← h]; exact ho)
      · rw [h] at ho; cases ho; trivial
    free := fun l i n ho => by
      rcases h3 l i with h | ⟨h', m, h⟩
      · exact hI.free l i n (by rw [← h]; exact ho)
      · cases hs : c.sg l i with
        | none => rfl
        | some b => obtain ⟨o, ho⟩ := hI.dom _ _ _ hs; rw [h'] at ho; cases ho
    dom := fun l i b hs => by
      obtain ⟨o, ho⟩ := hI.dom _ _ _ hs
      rcases h3 l i with h | ⟨h', m, h⟩
      · exact ⟨o, by rw [h]; exact ho⟩
      · exact ⟨_, h⟩
    tok := fun l p r h => by rw [h2, h1]; exact hI.tok l p r h
    tokn := fun l p h => by rw [h2]; exact hI.tokn l p h }

/-- A place that was free is taken: a new block. -/
theorem inv_slot {l i n : Nat} {cs : Array Value} {el : TypeId} (hI : Inv K c s) (h0 : getObj s l i = some (.free n)) (hn : n ≤ cs.size) :
    Inv K { c with w := c.w.alloc (.cells cs el), sg := fun l' i' => if l = l' ∧ i = i' then some c.w.heap.size else c.sg l' i' } (setObj s l i (.got n)) ∧
    Ext c { c with w := c.w.alloc (.cells cs el), sg := fun l' i' => if l = l' ∧ i = i' then some c.w.heap.size else c.sg l' i' } := by
  have hsgn : c.sg l i = none := hI.free _ _ _ h0
  have hE : Ext c { c with w := c.w.alloc (.cells cs el), sg := fun l' i' => if l = l' ∧ i = i' then some c.w.heap.size else c.sg l' i' } := {
      X := rfl
      k1 := fun b hb _ => alloc_old hb
      k2 := fun b o x hx _ => alloc_cell hx
      k3 := by simp [World.alloc_heap]
      ow := fun b o hb h => by
        rcases h with ⟨l', i', h⟩ | h | h
        · dsimp only at h
          split at h
          · cases h; omega
          · exact .inl ⟨l', i', h⟩
        · exact .inr (.inl h)
        · exact .inr (.inr h)
      sg := fun l' i' b h => by
        dsimp only
        split
        · rename_i he; obtain ⟨rfl, rfl⟩ := he; rw [hsgn] at h; cases h
        · exact h
      tk := fun l p r h => ⟨r, h, .inl rfl⟩
      io := sameIO_alloc (fun _ _ _ h => by cases h; rfl)
      df := rfl
      lp := fun b r h => ⟨r, by rw [show (World.alloc _ _).heap[b]? = _ from alloc_old (heap_lt h)]; exact h⟩ }
  refine ⟨?_, hE⟩
  exact {
    obj := fun l' i' o' ho hd => by
      rw [getObj_setObj] at ho
      dsimp only
      by_cases he : l = l' ∧ i = i'
      · obtain ⟨rfl, rfl⟩ := he
        rw [if_pos ⟨rfl, rfl⟩, h0] at ho
        cases ho
        rw [if_pos ⟨rfl, rfl⟩]
        exact ⟨_, rfl, cs, el, alloc_new, hn⟩
      · rw [if_neg he] at ho
        rw [if_neg he]
        obtain ⟨b, h1, h2⟩ := hI.obj l' i' o' ho hd
        exact ⟨b, h1, h2.mono (fun v x hv => hv.ext hE) (alloc_old (hI.sgw _ _ _ h1))⟩
    lowO := fun l' i' o' ho => by
      rw [getObj_setObj] at ho
      by_cases he : l = l' ∧ i = i'
      · rw [if_pos he, ← he.1, ← he.2, h0] at ho; cases ho; trivial
      · rw [if_neg he] at ho; exact hI.lowO _ _ _ ho
    free := fun l' i' n' ho => by
      rw [getObj_setObj] at ho
      by_cases he : l = l' ∧ i = i'
      · rw [if_pos he, ← he.1, ← he.2, h0] at ho; cases ho
      · rw [if_neg he] at ho; dsimp only; rw [if_neg he]; exact hI.free _ _ _ ho
    dom := fun l' i' b h => by
      rw [getObj_setObj]
      dsimp only at h
      split at h
      · rename_i he; rw [if_pos he, ← he.1, ← he.2, h0]; exact ⟨_, rfl⟩
      · rename_i he; rw [if_neg he]; exact hI.dom _ _ _ h
    inj := fun l1 i1 l2 i2 b h1 h2 => by
      dsimp only at h1 h2
      split at h1 <;> split at h2
      · rename_i e1 e2; exact ⟨e1.1.symm.trans e2.1, e1.2.symm.trans e2.2⟩
      · cases h1; have := hI.sgw _ _ _ h2; omega
      · cases h2; have := hI.sgw _ _ _ h1; omega
      · exact hI.inj _ _ _ _ _ h1 h2
    Xw := fun b o h => by have := hI.Xw b o h; simp only [World.alloc_heap, Array.size_push]; omega
    sgX := fun l' i' b o h => by
      dsimp only at h
      split at h
      · cases h; exact fun hx => Nat.lt_irrefl _ (hI.Xw _ _ hx)
      · exact hI.sgX _ _ _ o h
    sgw := fun l' i' b h => by
      dsimp only at h
      simp only [World.alloc_heap, Array.size_push]
      split at h
      · cases h; omega
      · have := hI.sgw _ _ _ h; omega
    tok := fun l' p r h => by rw [getTok_setObj, setObj_length]; exact hI.tok l' p r h
    tokn := fun l' p h => by rw [getTok_setObj]; exact hI.tokn l' p h
    tkb := fun l' p r h he => by
      obtain ⟨cs, el, h1, h2, h3, h4⟩ := hI.tkb l' p r h he
      have hlt := heap_lt h1
      refine ⟨cs, el, by rw [alloc_old hlt]; exact h1, h2, fun l2 i2 h => ?_, h4⟩
      dsimp only at h
      split at h
      · injection h with h; omega
      · exact h3 _ _ h
    tkinj := hI.tkinj
    dfw := fun d hd => by
      obtain ⟨h1, h2, h3⟩ := hI.dfw d hd
      have hlt := heap_lt h1
      refine ⟨by rw [alloc_old hlt]; exact h1, fun l2 i2 h => ?_, h3⟩
      dsimp only at h
      split at h
      · cases h; omega
      · exact h2 _ _ h
    dfn := hI.dfn }

theorem r_als {k n t : Nat} {v : AV} {ti : TyI} (hI : Inv K c s) (hT : TyOK P t ti) (hn : ti.size = n) (h : alsAt k n s = some (v, s')) :
    ∃ cv c', (Instr.alloc t true (.tuple #[])).run P c.w = .ok cv c'.w ∧ Inv K c' s' ∧ Ext c c' ∧ VR c'.vw v cv := by
  obtain ⟨j, hj, hj1, hj2, zv, hz1, hz2⟩ := hT.info
  obtain ⟨z, hz, hzl⟩ := hT.zs
  have hsz := (cr_zero (V := c.vw) hz2 hz).len
  unfold alsAt at h
  split at h
  · cases h
  rename_i os tt r
  split at h
  case h_2 => cases h
  rename_i m hg
  split at h
  case isFalse => cases h
  rename_i hm
  subst hm
  simp only [fNat_eq, Option.some.injEq, Prod.mk.injEq] at h
  obtain ⟨rfl, rfl⟩ := h
  have h0 : getObj (⟨os, tt⟩ :: r) r.length (os.length - 1 - k) = some (.free m) := by
    simp only [getObj, getFr, if_true, Option.bind_some]
    exact hg
  obtain ⟨i1, e1⟩ := inv_slot (cs := zv.cells) (el := t) hI h0 (by omega)
  refine ⟨.pointer (some ⟨c.w.heap.size, 0, none⟩), _, ?_, i1, e1, .ptr _ _ 0 _ (by simp [Cf.vw])⟩
  unfold Instr.alloc
  simp only [Sem.run_bind, run_zero hj hz1, Result.andThen_ok, newVar, newRow, run_newObj, Sem.run_pure]
  rfl

theorem r_fst {n t : Nat} {a x : AV} {av xv : Value} {i : TyI} (hI : Inv K c s) (hT : TyOK P t i) (hn : i.size = n)
    (h : fstAt s n a x = some s') (ha : VR c.vw a av) (hx : VR c.vw x xv) : ∃ c', (Instr.storeAt t av xv).run P c.w = .ok () c'.w ∧ Inv K c' s' ∧ Ext c c' := by
  unfold fstAt at h
  split at h
  case h_2 => cases h
  rename_i l i0
  split at h
  case h_2 => cases h
  rename_i m hg
  simp only [Option.bind_eq_some_iff] at h
  obtain ⟨xs, h1, h⟩ := h
  split at h
  case isFalse => cases h
  rename_i hlen
  obtain ⟨h2, rfl, h4⟩ := hlen
  cases h
  cases ha
  rename_i b hsg
  obtain ⟨b', hb', cs, el, h3, h5⟩ := hI.obj l i0 _ hg rfl
  have : b' = b := by have := hsg; simp only [Cf.vw] at this; rw [hb'] at this; cases this; rfl
  subst this
  have h3 : c.w.heap[b']? = some (.cells cs el (0, 0)) := h3
  have hxc := cr_of_cellsOf h1 hx
  have hx1 := hxc.len
  have hone : ∀ v ∈ xv.cells.toList, v.oneCell' = true := by
    intro v hv
    obtain ⟨j, hj, rfl⟩ := List.getElem_of_mem hv
    have hj' : j < xs.length := by simpa [hx1] using hj
    have := oneCell_val (hxc.get j xs[j] (by simp [hj'])) (hxc.one _ (by simp))
    rw [getD_lt (by omega)] at this
    simpa using this
  obtain ⟨w', cs', r1, r2, r3, r4, r5, r6, r7⟩ := run_storeCells P b' 0 xv.cells.toList 0 c.w cs el h3 (by simp; omega) hone
  have hlo : Ab.lowO l (.cells xs) := fun v hv => by
    obtain ⟨j, hj, rfl⟩ := List.getElem_of_mem hv
    have := (hxc.get j _ (List.getElem?_eq_getElem hj)).low hI
    rwa [show s.length - 1 = l by omega] at this
  obtain ⟨hi, he⟩ := inv_set (w' := w') hI hlo (by simp) hb' hg r7 r5 r4 (fun r hr => by rw [h3] at hr; cases hr) (o := .cells xs) (fun hE => by
    refine ⟨cs', el, r2, by omega, fun j v hj => ?_, hxc.one⟩
    have hjl : j < xs.length := by
      rcases Nat.lt_or_ge j xs.length with h | h
      · exact h
      · rw [List.getElem?_eq_none h] at hj; cases hj
    have hv := (hxc.get j v hj).ext hE
    rw [getD_eq] at hv ⊢
    rw [r6]
    rw [if_pos (by simp; omega)]
    simpa using hv)
  refine ⟨_, ?_, hi, he⟩
  unfold Instr.storeAt storeVar
  simp only [Instr.sureAddr, Sem.run_bind, Sem.run_pure, Result.andThen_ok, hT.size]
  rw [Sem.run_ite, if_neg (by omega)]
  exact r1
end
end Go.Ab
