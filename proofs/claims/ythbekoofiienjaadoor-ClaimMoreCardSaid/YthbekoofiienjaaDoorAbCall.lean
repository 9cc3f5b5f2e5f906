/-
  Calls: what is asked of what calls; a call that sees nothing of the frames.
-/
import Derived.Test.YthbekoofiienjaaDoorAbDo
import Derived.RangeFuncCalls
namespace Go.Ab
open Go

/-- A list of values, told. -/
def VRs (V : Vw) (l : List AV) (cs : Array Value) : Prop := l.length = cs.size ∧ ∀ (j : Nat) (v : AV), l[j]? = some v → VR V v (cs.getD j Go.undef)

/-- The known variables are what is said. -/
def Glb (G : Nat → List AV) (gl : List Nat) (V : Vw) : Prop := ∀ g ∈ gl, VR V (.rp (G g)) (.pointer (some ⟨g, 0, none⟩))

theorem Glb.ext {G : Nat → List AV} {gl : List Nat} {c c' : Cf} (h : Ext c c') (hg : Glb G gl c.vw) : Glb G gl c'.vw := fun g hm => (hg g hm).ext h

/-- A call's end. -/
def Ret (K : Nat → C → Code → Prop) (c : Cf) (s' : St) (r : AV) : Ending → World → Prop
  | .returned v, w' => ∃ c', c'.w = w' ∧ Inv K c' s' ∧ Ext c c' ∧ VR c'.vw r v
  | _, _ => False

/-- What calls is sound. -/
def CallOK (K : Nat → C → Code → Prop) (P : Program) (G : Nat → List AV) (gl : List Nat) (cl : Call) : Prop :=
  ∀ (k : Nat) (args : List AV) (s s' : St) (r : AV) (c : Cf) (cargs : Array Value), cl k args s = some (r, s') → Inv K c s → VRs c.vw args cargs → Glb G gl c.vw →
    s'.length = s.length ∧ (∃ fn, P.funcs[k % 1000]? = some fn ∧ fn.body.isSome = true ∧ fn.name ≠ "runtime.NumGoroutine") ∧ Calls P (k % 1000) cargs c.w (Ret K c s' r)

/-- What runs a round is sound. -/
def RoundOK (K : Nat → C → Code → Prop) (P : Program) (G : Nat → List AV) (gl : List Nat) (rd : Round) : Prop :=
  ∀ (l i : Nat) (args : List AV) (s s' : St) (r : AV) (c : Cf) (b : Nat) (cargs : Array Value), rd l i args s = some (r, s') → Inv K c s → c.sg l i = some b → VRs c.vw args cargs → Glb G gl c.vw →
    ∃ L : Loop, c.w.heap[b]? = some (.loop L) ∧ cargs.size = L.params.size ∧
      ∀ n, RoundIn Fence.wide n P b L.fn ((L.params.zip cargs).foldl (fun tmps (t, a) => tmps.setIfInBounds t a) L.tmps) L.assign L.body c.w (Ret K c s' r)

section
variable {K : Nat → C → Code → Prop} {P : Program} {G : Nat → List AV} {gl : List Nat} {c : Cf} {s s' : St}

theorem VRs.append {V : Vw} {a b : List AV} {x y : Array Value} (h1 : VRs V a x) (h2 : VRs V b y) : VRs V (a ++ b) (x ++ y) := by
  refine ⟨by simp [h1.1, h2.1], fun j v hj => ?_⟩
  rw [List.getElem?_append] at hj
  have := h1.1
  simp only [getD_eq, Array.getElem?_append]
  split at hj
  · rw [if_pos (by omega)]
    have := h1.2 j v hj
    rwa [getD_eq] at this
  · rw [if_neg (by omega)]
    have := h2.2 _ v hj
    rw [getD_eq] at this
    rw [← h1.1]
    exact this

theorem VRs.ext {c' : Cf} {l : List AV} {cs : Array Value} (h : Ext c c') (hv : VRs c.vw l cs) : VRs c'.vw l cs := ⟨hv.1, fun j v hj => (hv.2 j v hj).ext h⟩

theorem VRs.erases {V : Vw} {l : List AV} {cs : Array Value} (h : VRs V l cs) : VRs V (erases l) cs := erases_vr h.1 h.2

/-- A look in which nothing that is handed on is owned. -/
structure Bare (c : Cf) (V : Vw) (br : Bool) : Prop where
  w : V.w = c.w
  own : ∀ b o, V.own b o → c.own b o
  none : br = true → ∀ b o, ¬ V.own b o

theorem Bare.keeps {V : Vw} {br : Bool} (h : Bare c V br) : Keeps c.vw V where
  cell b o x hx ho := ⟨by rw [h.w]; exact hx, fun hn => ho (h.own b o hn)⟩
  map b e k hb ho := ⟨by rw [h.w]; exact hb, fun o hn => ho o (h.own b o hn)⟩

mutual
theorem hand_vr {V : Vw} {br : Bool} (hI : Inv K c s) (hB : Bare c V br) (v v' : AV) (x : Value) (h : hand s v = some v') (hx : VR c.vw v x) (hp : pur v' = true) (hb : br = true ∨ borrows v = false) : VR V v' x := by
  cases v with
  | undef => simp [hand] at h
  | sl r t =>
    simp only [hand, Option.some.injEq] at h
    subst h
    exact (vr_erase_tok hx).keep hB.keeps hp
  | os l i o n e =>
    rcases hb with hb | hb
    case inr => simp [borrows] at hb
    simp only [hand] at h
    cases hg : getObj s l i with
    | none => simp [hg] at h
    | some ob =>
      cases ob <;> simp only [hg, reduceCtorEq] at h
      rename_i cl
      rw [Option.ite_none_right_eq_some] at h
      obtain ⟨h1, h2⟩ := h
      simp only [Bool.and_eq_true, decide_eq_true_eq] at h1
      obtain ⟨⟨g1, g2⟩, g3⟩ := h1
      simp only [Option.some.injEq] at h2
      subst h2
      obtain ⟨b, cs, el, k1, k2, k3⟩ := or_cells hI hg
      cases hx
      rename_i b' o' cap hsg hcap ho _
      have : b' = b := by have := hsg; simp only [Cf.vw] at this; rw [k1] at this; cases this; rfl
      subst this
      have hrow : ∀ i r, (rowsOf e n (cl.drop o))[i]? = some r → i < n ∧ r = ((cl.drop o).drop (i * e)).take e := by
        intro i r hr
        have hi : i < n := by
          rcases Nat.lt_or_ge i n with h | h
          · exact h
          · rw [List.getElem?_eq_none (by rw [rowsOf_len]; exact h)] at hr; cases hr
        rw [rowsOf_get e n _ i hi] at hr
        cases hr
        exact ⟨hi, rfl⟩
      have hmul : ∀ i, i < n → i * e + e ≤ n * e := fun i hi => by
        have := Nat.mul_le_mul_right e (show i + 1 ≤ n from hi)
        rw [Nat.succ_mul] at this; exact this
      have k4 := k3.len
      have hpu := pures_mem g2
      suffices hgoal : VR V (.sl (rowsOf e n (cl.drop o)) .any) (.slice (some ⟨b', o', none⟩) (rowsOf e n (cl.drop o)).length cap) by rwa [rowsOf_len] at hgoal
      refine .sl (rowsOf e n (cl.drop o)) .any b' o' cap e (fun i j => cs.getD (o + i * e + j) Go.undef) g3 (by simp) (fun i r hr => ?_) (by rw [rowsOf_len]; exact hcap) (by simp) ?_ ?_ ?_ trivial
      · obtain ⟨hi, rfl⟩ := hrow i r hr
        have := hmul i hi
        simp; omega
      · intro i j hi hj
        rw [rowsOf_len] at hi
        have := hmul i hi
        have hoo : o' = o := by
          rcases ho with h | h
          · omega
          · exact h
        subst hoo
        refine ⟨?_, hB.none hb _ _⟩
        rw [hB.w, cell_of k2, getD_eq]
        have hlt : o' + i * e + j < cs.size := by omega
        simp [hlt]
      · intro i r j v hr hj
        obtain ⟨hi, rfl⟩ := hrow i r hr
        have hj' : j < e := by
          rcases Nat.lt_or_ge j e with h | h
          · exact h
          · rw [List.getElem?_eq_none (by simp; omega)] at hj; cases hj
        rw [List.getElem?_take_of_lt hj', List.getElem?_drop, List.getElem?_drop] at hj
        have := hmul i hi
        refine (k3.get (o + i * e + j) v (by rw [← hj]; congr 1; omega)).keep hB.keeps ?_
        refine hpu v ?_
        refine List.mem_of_getElem? (i := i * e + j) ?_
        rw [List.getElem?_take_of_lt (by omega), List.getElem?_drop, ← hj]
      · intro i r hr
        obtain ⟨hi, rfl⟩ := hrow i r hr
        have hmem : ∀ v ∈ ((cl.drop o).drop (i * e)).take e, v ∈ (cl.drop o).take (n * e) := by
          intro v hv
          obtain ⟨j, hj, rfl⟩ := List.getElem_of_mem hv
          have := hmul i hi
          simp only [List.length_take, List.length_drop] at hj
          refine List.mem_of_getElem? (i := i * e + j) ?_
          rw [List.getElem?_take_of_lt (by omega), List.getElem?_drop, List.getElem_take, List.getElem_drop, List.getElem_drop, List.getElem?_eq_getElem (by omega)]
        refine ⟨pures_of fun v hv => hpu v (hmem v hv), fun v hv => k3.one v ?_⟩
        exact List.mem_of_mem_drop (List.mem_of_mem_take (hmem v hv))
  | fn f a b =>
    simp only [hand, Option.bind_eq_some_iff, Option.map_eq_some_iff] at h
    obtain ⟨a', h1, b', h2, rfl⟩ := h
    simp only [pur, Bool.and_eq_true] at hp
    cases hx
    rename_i fc cc g1 g3 g2 g4
    have hb1 : br = true ∨ borrowss a = false := by rcases hb with h | h; exact .inl h; simp [borrows] at h; exact .inr h.1
    have hb2 : br = true ∨ borrowss b = false := by rcases hb with h | h; exact .inl h; simp [borrows] at h; exact .inr h.2
    obtain ⟨k1, k2⟩ := hands_vr hI hB a a' fc h1 g1 g3 hp.1 hb1
    obtain ⟨k3, k4⟩ := hands_vr hI hB b b' cc h2 g2 g4 hp.2 hb2
    exact .fn f a' b' fc cc k1 k3 k2 k4
  | agg l =>
    simp only [hand, Option.map_eq_some_iff] at h
    obtain ⟨a', h1, rfl⟩ := h
    simp only [pur] at hp
    cases hx
    rename_i cs g1 g2 g3
    have hb1 : br = true ∨ borrowss l = false := by rcases hb with h | h; exact .inl h; simp [borrows] at h; exact .inr h
    obtain ⟨k1, k2⟩ := hands_vr hI hB l a' cs h1 g1 g2 hp hb1
    refine .agg a' cs k1 k2 (hands_one l a' h1 g3)
  | tup l =>
    simp only [hand, Option.map_eq_some_iff] at h
    obtain ⟨a', h1, rfl⟩ := h
    simp only [pur] at hp
    cases hx
    rename_i cs g1 g2
    have hb1 : br = true ∨ borrowss l = false := by rcases hb with h | h; exact .inl h; simp [borrows] at h; exact .inr h
    obtain ⟨k1, k2⟩ := hands_vr hI hB l a' cs h1 g1 g2 hp hb1
    exact .tup a' cs k1 k2
  | _ =>
    simp only [hand, Option.some.injEq] at h
    subst h
    exact hx.keep hB.keeps hp
theorem hands_vr {V : Vw} {br : Bool} (hI : Inv K c s) (hB : Bare c V br) (l l' : List AV) (cs : Array Value) (h : hands s l = some l') (h1 : l.length = cs.size) (h2 : ∀ (j : Nat) (v : AV), l[j]? = some v → VR c.vw v (cs.getD j Go.undef))
    (hp : purs l' = true) (hb : br = true ∨ borrowss l = false) : l'.length = cs.size ∧ ∀ (j : Nat) (v : AV), l'[j]? = some v → VR V v (cs.getD j Go.undef) := by
  cases l with
  | nil => simp [hands] at h; subst h; exact ⟨h1, by simp⟩
  | cons v r =>
    simp only [hands, Option.bind_eq_some_iff, Option.map_eq_some_iff] at h
    obtain ⟨v', g1, r', g2, rfl⟩ := h
    simp only [purs, Bool.and_eq_true] at hp
    have hb1 : br = true ∨ borrows v = false := by rcases hb with h | h; exact .inl h; simp [borrowss] at h; exact .inr h.1
    have hb2 : br = true ∨ borrowss r = false := by rcases hb with h | h; exact .inl h; simp [borrowss] at h; exact .inr h.2
    have k1 := hand_vr hI hB v v' _ g1 (h2 0 v (by simp)) hp.1 hb1
    obtain ⟨k2, k3⟩ := hands_vr hI hB r r' (cs.extract 1 cs.size) g2 (by simp at h1 ⊢; omega) (fun j v hj => by
      have := h2 (j + 1) v (by simpa using hj)
      rw [getD_eq] at this ⊢
      simp only [Array.getElem?_extract]
      have hlt : j < r.length := by
        rcases Nat.lt_or_ge j r.length with h | h
        · exact h
        · rw [List.getElem?_eq_none h] at hj; cases hj
      simp at h1
      rw [if_pos (by omega), Nat.add_comm]; exact this) hp.2 hb2
    refine ⟨by simp at h1 k2 ⊢; omega, fun j w hj => ?_⟩
    cases j with
    | zero => simp at hj; subst hj; exact k1
    | succ j =>
      have := k3 j w (by simpa using hj)
      rw [getD_eq] at this ⊢
      have hlt : j < r'.length := by
        rcases Nat.lt_or_ge j r'.length with h | h
        · exact h
        · rw [List.getElem?_eq_none (by simpa using h)] at hj; cases hj
      simp only [Array.getElem?_extract] at this
      rw [if_pos (by simp at h1 k2; omega), Nat.add_comm] at this; exact this
theorem hands_one (l l' : List AV) (h : hands s l = some l') (h1 : ∀ v ∈ l, oneCell v = true) : ∀ v ∈ l', oneCell v = true := by
  cases l with
  | nil => simp [hands] at h; subst h; simp
  | cons v r =>
    simp only [hands, Option.bind_eq_some_iff, Option.map_eq_some_iff] at h
    obtain ⟨v', g1, r', g2, rfl⟩ := h
    intro w hw
    rcases List.mem_cons.1 hw with rfl | hw
    · have := h1 v (by simp)
      cases v <;> simp only [hand, Option.some.injEq, reduceCtorEq, oneCell, Bool.false_eq_true] at g1 this <;> try (subst g1; rfl)
      · split at g1
        · rw [Option.ite_none_right_eq_some] at g1; obtain ⟨_, g1⟩ := g1; cases g1; rfl
        · cases g1
      · simp only [Option.bind_eq_some_iff, Option.map_eq_some_iff] at g1
        obtain ⟨_, _, _, _, rfl⟩ := g1; rfl
    · exact hands_one r r' g2 (fun v hv => h1 v (by simp [hv])) w hw
end

theorem flats_mem {l : List AV} (h : flats l = true) : ∀ v ∈ l, flat v = true := by
  induction l with
  | nil => intro v hv; cases hv
  | cons x l ih =>
    simp only [flats, Bool.and_eq_true] at h
    intro v hv
    rcases List.mem_cons.1 hv with rfl | hv
    · exact h.1
    · exact ih h.2 v hv

/-- What holds no pointer is told alike by whomever. -/
theorem flat_vr {V V' : Vw} {v : AV} {x : Value} (h : VR V v x) : flat v = true → VR V' v x := by
  induction h with
  | int => intro _; exact .int _ _
  | bool => intro _; exact .bool _
  | str => intro _; exact .str _
  | nilP => intro _; exact .nilP
  | nilM => intro _; exact .nilM
  | nilF => intro _; exact .nilF
  | nilI => intro _; exact .nilI
  | slnil t h => intro _; exact .slnil t h
  | sl rows t b o cap e f he ht =>
    intro hf
    unfold flat at hf
    split at hf <;> first | contradiction | skip
    all_goals simp_all
  | agg cells cs h1 h2 h3 ih =>
    intro hf
    simp only [flat] at hf
    exact .agg cells cs h1 (fun j v hj => ih j v hj (flats_mem hf v (List.mem_of_getElem? hj))) h3
  | tup cells cs h1 h2 ih =>
    intro hf
    simp only [flat] at hf
    exact .tup cells cs h1 (fun j v hj => ih j v hj (flats_mem hf v (List.mem_of_getElem? hj)))
  | _ => intro hf; simp [flat] at hf

/-- Without frames nothing that is told is of a frame. -/
theorem bare_vr {c1 : Cf} {V : Vw} (hI : Inv K c1 []) (hk : Keeps c1.vw V) {v : AV} {x : Value} (h : VR c1.vw v x) : VR V v x := by
  have nosg : ∀ l i b, c1.sg l i ≠ some b := fun l i b h => by have := hI.lt h; simp at this
  induction h with
  | undef => exact .undef _
  | int => exact .int _ _
  | bool => exact .bool _
  | str => exact .str _
  | nilP => exact .nilP
  | nilM => exact .nilM
  | nilF => exact .nilF
  | nilI => exact .nilI
  | slnil t h => exact .slnil t h
  | sl rows t b o cap e f he ht hr hcap hfull hc hv hp hs ih =>
    refine .sl rows t b o cap e f he ht hr hcap hfull (fun i j hi hj => hk.cell _ _ _ (hc i j hi hj).1 (hc i j hi hj).2) (fun i r j v h1 h2 => ih i r j v h1 h2) hp ?_
    cases t with
    | site l p g =>
      obtain ⟨_, r, hr, _⟩ := hs
      have := (hI.tok _ _ _ hr).2
      simp at this
    | _ => trivial
  | rp cells b o f hc hv hp ih => exact .rp cells b o f (fun j hj => hk.cell _ _ _ (hc j hj).1 (hc j hj).2) (fun j v h => ih j v h) hp
  | ptr l i o b h => exact absurd h (nosg l i b)
  | os l i o n e b o' cap h => exact absurd h (nosg l i b)
  | mp l i b h => exact absurd h (nosg l i b)
  | pm es b ents clk hb ho hl hk' hv hp ihk ihv =>
    obtain ⟨h1, h2⟩ := hk.map b ents clk hb ho
    exact .pm es b ents clk h1 h2 hl (fun i k v h => ihk i k v h) (fun i k v h => ihv i k v h) hp
  | fn f first caps fc cc h1 h2 h3 h4 ih3 ih4 => exact .fn f first caps fc cc h1 h2 (fun j v h => ih3 j v h) (fun j v h => ih4 j v h)
  | yl l i b h => exact absurd h (nosg l i b)
  | agg cells cs h1 h2 h3 ih => exact .agg cells cs h1 (fun j v h => ih j v h) h3
  | tup cells cs h1 h2 ih => exact .tup cells cs h1 (fun j v h => ih j v h)

theorem Inv.own_lt (hI : Inv K c s) {b o : Nat} (h : c.own b o) : b < c.w.heap.size := by
  rcases h with h | ⟨l, i, h⟩ | ⟨l, p, r, h, rfl, h2, h3⟩ | h
  · exact hI.Xw _ _ h
  · exact hI.sgw _ _ _ h
  · obtain ⟨cs, el, h4, _⟩ := hI.tkb _ _ _ h (by omega); exact heap_lt h4
  · exact heap_lt (hI.dfw _ h).1

/-- New blocks behind the old ones. -/
theorem inv_grow {w' : World} (hio : SameIO c.w w') (hI : Inv K c s) (hsz : c.w.heap.size ≤ w'.heap.size) (hh : ∀ b, b < c.w.heap.size → w'.heap[b]? = c.w.heap[b]?) : Inv K { c with w := w' } s ∧ Ext c { c with w := w' } := by
  have hE : Ext c { c with w := w' } := {
      X := rfl
      k1 := fun b hb _ => hh b hb
      k2 := fun b o x hx _ => by
        have := cell_lt hx
        show w'.cell? _ = _
        unfold World.cell? at *
        rw [hh b this]; exact hx
      k3 := hsz
      ow := fun b o hb h => h
      sg := fun l' i' b h => h
      tk := fun l p r h => ⟨r, h, .inl rfl⟩
      io := hio
      df := rfl
      lp := fun b r h => ⟨r, by show w'.heap[b]? = _; rw [hh b (heap_lt h)]; exact h⟩ }
  refine ⟨?_, hE⟩
  exact { hI with
    obj := fun l' i' o' ho hd => by
      obtain ⟨b, h1, h2⟩ := hI.obj l' i' o' ho hd
      exact ⟨b, h1, h2.mono (fun v x hv => hv.ext hE) (hh b (hI.sgw _ _ _ h1))⟩
    Xw := fun b o h => Nat.lt_of_lt_of_le (hI.Xw b o h) hsz
    sgw := fun l' i' b h => Nat.lt_of_lt_of_le (hI.sgw _ _ _ h) hsz
    tkb := fun l' p r h he => by
      obtain ⟨cs, el, h1, h2, h3, h4⟩ := hI.tkb l' p r h he
      exact ⟨cs, el, by show w'.heap[r.b]? = _; rw [hh _ (heap_lt h1)]; exact h1, h2, h3, h4⟩
    dfw := fun d hd => by
      obtain ⟨h1, h2, h3⟩ := hI.dfw d hd
      exact ⟨by show w'.heap[d]? = _; rw [hh _ (heap_lt h1)]; exact h1, h2, h3⟩ }

theorem inv_bare {w : World} {X : Nat → Nat → Prop} (hX : ∀ b o, X b o → b < w.heap.size) : Inv K ⟨w, X, fun _ _ => none, fun _ _ => none, []⟩ [] where
  obj l i o h := by simp [getObj, getFr] at h
  lowO l i o h := by simp [getObj, getFr] at h
  free l i n h := rfl
  dom l i b h := by cases h
  inj l i l' i' b h := by cases h
  Xw := hX
  sgX l i b o h := by cases h
  sgw l i b h := by cases h
  tok l p r h := by cases h
  tokn l p h := rfl
  tkb l p r h := by cases h
  tkinj l p r l' p' r' h := by cases h
  dfw d h := by cases h
  dfn := List.nodup_nil

theorem r_pcall {cl : Call} (hC : CallOK K P G gl cl) (hI : Inv K c s) (hG : Glb G gl c.vw) {f v : AV} {args : List AV} {fv : Value} {av : Array Value} (h : pcallV cl s f args = some (v, s')) (hf : VR c.vw f fv) (ha : VRs c.vw args av) :
    s' = s ∧ ∃ k first caps, fv = .func (.func k) first caps ∧ (∃ fn, P.funcs[k]? = some fn ∧ fn.body.isSome = true ∧ fn.name ≠ "runtime.NumGoroutine") ∧ Calls P k (first ++ av ++ caps) c.w (Ret K c s v) := by
  unfold pcallV at h
  split at h
  case h_2 => cases h
  rename_i f first caps
  simp only [Option.bind_eq_some_iff] at h
  obtain ⟨as, h1, h⟩ := h
  rw [Option.ite_none_right_eq_some] at h
  obtain ⟨h2, h⟩ := h
  simp only [Bool.and_eq_true] at h2
  simp only [Option.bind_eq_some_iff, Prod.exists] at h
  obtain ⟨v', s0, h3, h⟩ := h
  rw [Option.ite_none_right_eq_some] at h
  obtain ⟨h4, h⟩ := h
  simp only [Option.some.injEq, Prod.mk.injEq] at h
  obtain ⟨rfl, rfl⟩ := h
  refine ⟨rfl, ?_⟩
  cases hf
  rename_i fc cc g1 g3 g2 g4
  refine ⟨_, fc, cc, rfl, ?_⟩
  generalize hbr : borrowss (first ++ args) = br at *
  let c0 : Cf := ⟨c.w, fun b o => br = false ∧ c.own b o, fun _ _ => none, fun _ _ => none, []⟩
  have hown : ∀ b o, c0.own b o → br = false ∧ c.own b o := by
    intro b o h
    rcases h with h | ⟨l, i, h⟩ | ⟨l, p, r, h, _⟩ | h
    · exact h
    · cases h
    · cases h
    · cases h
  have hB : Bare c c0.vw br := ⟨rfl, fun b o h => (hown b o h).2, fun hb b o h => by have := (hown b o h).1; rw [hb] at this; cases this⟩
  have hI0 : Inv K c0 [] := inv_bare fun b o h => hI.own_lt h.2
  have hVas : VRs c0.vw as (fc ++ av) := by
    have hv := VRs.append ⟨g1, g3⟩ ha
    exact hands_vr hI hB (first ++ args) as (fc ++ av) h1 hv.1 hv.2 h2.1 (by rw [hbr]; cases br <;> simp)
  have hVc : VRs c0.vw caps cc := ⟨g2, fun j w hj => (g4 j w hj).keep hB.keeps (pures_get h2.2 hj)⟩
  obtain ⟨hl, hfn, hcall⟩ := hC f (as ++ caps) [] s0 v' c0 _ h3 hI0 (hVas.append hVc) (fun g hg => (hG g hg).keep hB.keeps rfl)
  refine ⟨hfn, Calls.mono hcall ?_⟩
  intro e w' hr
  cases e with
  | panicked _ => exact hr
  | outgrown => exact hr
  | returned cv =>
    obtain ⟨c1, rfl, i1, e1, v1⟩ := hr
    have hs0 : s0 = [] := List.eq_nil_of_length_eq_zero (by simpa using hl)
    subst hs0
    have hold : ∀ b, b < c.w.heap.size → c1.w.heap[b]? = c.w.heap[b]? := fun b hb => e1.k1 b hb fun o hm => by
      rcases hm with ⟨l, i, h⟩ | ⟨l, p, r, h, _⟩ | h
      · cases h
      · cases h
      · cases h
    obtain ⟨i2, e2⟩ := inv_grow (w' := c1.w) (show SameIO c.w c1.w from e1.io) hI e1.k3 hold
    refine ⟨{ c with w := c1.w }, rfl, i2, e2, ?_⟩
    cases hb : br with
    | true =>
      rw [hb] at h4
      simp at h4
      exact flat_vr v1 h4
    | false =>
      refine bare_vr (V := Cf.vw { c with w := c1.w }) i1 ⟨fun b o x hx ho => ⟨hx, fun hn => ho (.inl ?_)⟩, fun b e k hx ho => ⟨hx, fun o hn => ho o (.inl ?_)⟩⟩ v1
      · rw [e1.X]; exact ⟨hb, hn⟩
      · rw [e1.X]; exact ⟨hb, hn⟩
end
end Go.Ab
