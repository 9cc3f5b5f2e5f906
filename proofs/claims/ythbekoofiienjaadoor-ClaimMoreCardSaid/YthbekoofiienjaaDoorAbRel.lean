/-
  The abstract machine's values against Go's memory: what it means that a value of memory is told by an abstract one, and that this stays so.
-/
import Derived.Test.YthbekoofiienjaaDoorAb
import Derived.RangeFuncRecord
import Derived.RangeFuncIn
import Derived.LoopNIn
import Derived.Laws.World
namespace Go.Ab

/-- A right to append: its turn, the length it stands behind, the block, and the cells of room. -/
structure TR where
  g : Nat
  n : Nat
  b : Nat
  e : Nat
  c : Nat

/-- A look at memory: the world, which cells are owned, where the frames' objects lie, and the rights. -/
structure Vw where
  w : World
  own : Nat → Nat → Prop
  sg : Nat → Nat → Option Nat
  tk : Nat → Nat → Option TR

def tokOK (V : Vw) (t : Tok) (n b e c : Nat) : Prop :=
  match t with
  | .site l p g => 0 < n ∧ ∃ r, V.tk l p = some r ∧ (g < r.g ∨ (g = r.g ∧ n < r.n) ∨ (g = r.g ∧ n = r.n ∧ r.b = b ∧ r.e = e ∧ r.c = c))
  | _ => True

inductive VR (V : Vw) : AV → Value → Prop
  | undef (c : Value) : VR V .undef c
  | int (k : IntKind) (n : Int) : VR V (.int k n) (.int k n)
  | bool (b : Bool) : VR V (.bool b) (.bool b)
  | str (s : List UInt8) : VR V (.str s) (.string ⟨s.toArray⟩)
  | nilP : VR V .nilP (.pointer none)
  | nilM : VR V .nilM (.map none)
  | nilF : VR V .nilF .nilFunc
  | nilI : VR V .nilI .nilIface
  | slnil (t : Tok) (h : t = .nil ∨ t = .any ∨ t = .full) : VR V (.sl [] t) (.slice none 0 0)
  | sl (rows : List (List AV)) (t : Tok) (b o cap e : Nat) (f : Nat → Nat → Value) (he : 0 < e) (ht : t ≠ .nil)
      (hr : ∀ (i : Nat) (r : List AV), rows[i]? = some r → r.length = e) (hcap : rows.length ≤ cap) (hfull : t = .full → cap = rows.length)
      (hc : ∀ i j, i < rows.length → j < e → V.w.cell? ⟨b, o + i * e + j, none⟩ = some (f i j) ∧ ¬ V.own b (o + i * e + j))
      (hv : ∀ (i : Nat) (r : List AV) (j : Nat) (v : AV), rows[i]? = some r → r[j]? = some v → VR V v (f i j))
      (hp : ∀ (i : Nat) (r : List AV), rows[i]? = some r → purs r = true ∧ ∀ v ∈ r, oneCell v = true)
      (hs : tokOK V t rows.length b (o + rows.length * e) (o + cap * e)) :
      VR V (.sl rows t) (.slice (some ⟨b, o, none⟩) rows.length cap)
  | rp (cells : List AV) (b o : Nat) (f : Nat → Value)
      (hc : ∀ j, j < cells.length → V.w.cell? ⟨b, o + j, none⟩ = some (f j) ∧ ¬ V.own b (o + j))
      (hv : ∀ (j : Nat) (v : AV), cells[j]? = some v → VR V v (f j)) (hp : purs cells = true ∧ ∀ v ∈ cells, oneCell v = true) : VR V (.rp cells) (.pointer (some ⟨b, o, none⟩))
  | ptr (l i o b : Nat) (h : V.sg l i = some b) : VR V (.ptr l i o) (.pointer (some ⟨b, o, none⟩))
  | os (l i o n e b o' cap : Nat) (h : V.sg l i = some b) (ho : n = 0 ∨ o' = o) (hcap : n ≤ cap) (he : 0 < e) : VR V (.os l i o n e) (.slice (some ⟨b, o', none⟩) n cap)
  | mp (l i b : Nat) (h : V.sg l i = some b) : VR V (.mp l i) (.map (some b))
  | pm (es : List (AV × AV)) (b : Nat) (ents : Array MapEntry) (clk : Nat) (hb : V.w.heap[b]? = some (.map ents clk)) (ho : ∀ o, ¬ V.own b o)
      (hl : ents.size = es.length) (hk : ∀ (i : Nat) (k v : AV), es[i]? = some (k, v) → VR V k (ents.getD i default).key) (hv : ∀ (i : Nat) (k v : AV), es[i]? = some (k, v) → VR V v (ents.getD i default).val)
      (hp : ∀ (i : Nat) (k v : AV), es[i]? = some (k, v) → pur k = true ∧ pur v = true) : VR V (.pm es) (.map (some b))
  | fn (f : Nat) (first caps : List AV) (fc cc : Array Value) (h1 : first.length = fc.size) (h2 : caps.length = cc.size)
      (h3 : ∀ (j : Nat) (v : AV), first[j]? = some v → VR V v (fc.getD j undef)) (h4 : ∀ (j : Nat) (v : AV), caps[j]? = some v → VR V v (cc.getD j undef)) : VR V (.fn f first caps) (.func (.func (f % 1000)) fc cc)
  | yl (l i b : Nat) (h : V.sg l i = some b) : VR V (.yl l i) (.func (.yield b) #[] #[])
  | agg (cells : List AV) (cs : Array Value) (h1 : cells.length = cs.size) (h2 : ∀ (j : Nat) (v : AV), cells[j]? = some v → VR V v (cs.getD j undef)) (h3 : ∀ v, v ∈ cells → oneCell v = true) : VR V (.agg cells) (.agg cs)
  | tup (vs : List AV) (cs : Array Value) (h1 : vs.length = cs.size) (h2 : ∀ (j : Nat) (v : AV), vs[j]? = some v → VR V v (cs.getD j undef)) : VR V (.tup vs) (.tuple cs)

/-- What nobody owns stays: cells and maps. -/
structure Keeps (V V' : Vw) : Prop where
  cell : ∀ b o x, V.w.cell? ⟨b, o, none⟩ = some x → ¬ V.own b o → V'.w.cell? ⟨b, o, none⟩ = some x ∧ ¬ V'.own b o
  map : ∀ b ents clk, V.w.heap[b]? = some (.map ents clk) → (∀ o, ¬ V.own b o) → V'.w.heap[b]? = some (.map ents clk) ∧ ∀ o, ¬ V'.own b o

theorem pures_mem {l : List AV} (h : purs l = true) : ∀ v ∈ l, pur v = true := by
  induction l with
  | nil => intro v hv; cases hv
  | cons x l ih =>
    simp only [purs, Bool.and_eq_true] at h
    intro v hv
    rcases List.mem_cons.1 hv with rfl | hv
    · exact h.1
    · exact ih h.2 v hv
theorem pures_get {l : List AV} (h : purs l = true) {j : Nat} {v : AV} (hv : l[j]? = some v) : pur v = true := pures_mem h v (List.mem_of_getElem? hv)
theorem pures_of {l : List AV} (h : ∀ v ∈ l, pur v = true) : purs l = true := by
  induction l with
  | nil => rfl
  | cons x l ih => simp only [purs, Bool.and_eq_true]; exact ⟨h x (by simp), ih fun v hv => h v (by simp [hv])⟩

/-- A pur value is told alike by whoever keeps what nobody owns. -/
theorem VR.keep {V V' : Vw} (hk : Keeps V V') {v : AV} {c : Value} (h : VR V v c) : pur v = true → VR V' v c := by
  induction h with
  | undef => intro h; simp [pur] at h
  | int => intro _; exact .int _ _
  | bool => intro _; exact .bool _
  | str => intro _; exact .str _
  | nilP => intro _; exact .nilP
  | nilM => intro _; exact .nilM
  | nilF => intro _; exact .nilF
  | nilI => intro _; exact .nilI
  | slnil t h => intro _; exact .slnil t h
  | sl rows t b o cap e f he ht hr hcap hfull hc hv hp hs ih =>
    intro hpu
    refine .sl rows t b o cap e f he ht hr hcap hfull (fun i j hi hj => hk.cell _ _ _ (hc i j hi hj).1 (hc i j hi hj).2) (fun i r j v h1 h2 => ih i r j v h1 h2 (pures_get (hp i r h1).1 h2)) hp ?_
    cases t <;> simp_all [tokOK, pur, purTok]
  | rp cells b o f hc hv hp ih =>
    intro _
    exact .rp cells b o f (fun j hj => hk.cell _ _ _ (hc j hj).1 (hc j hj).2) (fun j v h => ih j v h (pures_get hp.1 h)) hp
  | ptr => intro h; simp [pur] at h
  | os => intro h; simp [pur] at h
  | mp => intro h; simp [pur] at h
  | pm es b ents clk hb ho hl hk' hv hp ihk ihv =>
    intro _
    obtain ⟨h1, h2⟩ := hk.map b ents clk hb ho
    exact .pm es b ents clk h1 h2 hl (fun i k v h => ihk i k v h (hp i k v h).1) (fun i k v h => ihv i k v h (hp i k v h).2) hp
  | fn f first caps fc cc h1 h2 h3 h4 ih3 ih4 =>
    intro hpu
    simp only [pur, Bool.and_eq_true] at hpu
    exact .fn f first caps fc cc h1 h2 (fun j v h => ih3 j v h (pures_get hpu.1 h)) (fun j v h => ih4 j v h (pures_get hpu.2 h))
  | yl => intro h; simp [pur] at h
  | agg cells cs h1 h2 h3 ih =>
    intro hpu
    exact .agg cells cs h1 (fun j v h => ih j v h (pures_get (by simpa [pur] using hpu) h)) h3
  | tup cells cs h1 h2 ih =>
    intro hpu
    exact .tup cells cs h1 (fun j v h => ih j v h (pures_get (by simpa [pur] using hpu) h))

/-- One look behind another one, as far as a level: nothing that was told is lost. -/
structure Le (l : Nat) (V V' : Vw) : Prop extends Keeps V V' where
  sg : ∀ l' i b, l' ≤ l → V.sg l' i = some b → V'.sg l' i = some b
  tk : ∀ l' p r, l' ≤ l → V.tk l' p = some r → ∃ r', V'.tk l' p = some r' ∧ (r' = r ∨ r.g < r'.g ∨ (r.g = r'.g ∧ r.n < r'.n))

theorem tokOK.le {l : Nat} {V V' : Vw} (h : Le l V V') {t : Tok} {n b e c : Nat} (hl : ∀ l' p g, t = .site l' p g → l' ≤ l) (ht : tokOK V t n b e c) : tokOK V' t n b e c := by
  cases t with
  | site l' p g =>
    obtain ⟨h0, r, hr, h1⟩ := ht
    obtain ⟨r', hr', h2⟩ := h.tk l' p r (hl _ _ _ rfl) hr
    refine ⟨h0, r', hr', ?_⟩
    rcases h2 with rfl | h2 | ⟨h2, h3⟩
    · exact h1
    · rcases h1 with h1 | ⟨h1, _⟩ | ⟨h1, _⟩ <;> exact .inl (by omega)
    · rcases h1 with h1 | ⟨h1, h4⟩ | ⟨h1, h4, _⟩
      · exact .inl (by omega)
      · exact .inr (.inl ⟨by omega, by omega⟩)
      · exact .inr (.inl ⟨by omega, by omega⟩)
  | nil => trivial
  | any => trivial
  | full => trivial

def lowTok (l : Nat) : Tok → Bool
  | .site l' _ _ => decide (l' ≤ l)
  | _ => true

mutual
/-- Nothing of a frame above a level. -/
def low (l : Nat) : AV → Bool
  | .sl _ t => lowTok l t
  | .ptr l' _ _ => decide (l' ≤ l)
  | .os l' _ _ _ _ => decide (l' ≤ l)
  | .mp l' _ => decide (l' ≤ l)
  | .yl l' _ => decide (l' ≤ l)
  | .fn _ a b => lows l a && lows l b
  | .agg c => lows l c
  | .tup c => lows l c
  | _ => true
def lows (l : Nat) : List AV → Bool
  | [] => true
  | v :: r => low l v && lows l r
end

theorem lows_mem {l : Nat} {c : List AV} (h : lows l c = true) : ∀ v ∈ c, low l v = true := by
  induction c with
  | nil => intro v hv; cases hv
  | cons x c ih =>
    simp only [lows, Bool.and_eq_true] at h
    intro v hv
    rcases List.mem_cons.1 hv with rfl | hv
    · exact h.1
    · exact ih h.2 v hv
theorem lows_get {l : Nat} {c : List AV} (h : lows l c = true) {j : Nat} {v : AV} (hv : c[j]? = some v) : low l v = true := lows_mem h v (List.mem_of_getElem? hv)
theorem lows_of {l : Nat} {c : List AV} (h : ∀ v ∈ c, low l v = true) : lows l c = true := by
  induction c with
  | nil => rfl
  | cons x c ih => simp only [lows, Bool.and_eq_true]; exact ⟨h x (by simp), ih fun v hv => h v (by simp [hv])⟩

theorem VR.le {l : Nat} {V V' : Vw} (hL : Le l V V') {v : AV} {c : Value} (h : VR V v c) : low l v = true → VR V' v c := by
  induction h with
  | undef => intro _; exact .undef _
  | int => intro _; exact .int _ _
  | bool => intro _; exact .bool _
  | str => intro _; exact .str _
  | nilP => intro _; exact .nilP
  | nilM => intro _; exact .nilM
  | nilF => intro _; exact .nilF
  | nilI => intro _; exact .nilI
  | slnil t h => intro _; exact .slnil t h
  | sl rows t b o cap e f he ht hr hcap hfull hc hv hp hs ih =>
    intro hlo
    exact .sl rows t b o cap e f he ht hr hcap hfull (fun i j hi hj => hL.cell _ _ _ (hc i j hi hj).1 (hc i j hi hj).2)
      (fun i r j v h1 h2 => (hv i r j v h1 h2).keep hL.toKeeps (pures_get (hp i r h1).1 h2)) hp (hs.le hL fun l' p g ht => by subst ht; simpa [low, lowTok] using hlo)
  | rp cells b o f hc hv hp ih =>
    intro _
    exact .rp cells b o f (fun j hj => hL.cell _ _ _ (hc j hj).1 (hc j hj).2) (fun j v h => (hv j v h).keep hL.toKeeps (pures_get hp.1 h)) hp
  | ptr l' i o b h => intro hlo; exact .ptr l' i o b (hL.sg _ _ _ (by simpa [low] using hlo) h)
  | os l' i o n e b o' cap h ho hcap he => intro hlo; exact .os l' i o n e b o' cap (hL.sg _ _ _ (by simpa [low] using hlo) h) ho hcap he
  | mp l' i b h => intro hlo; exact .mp l' i b (hL.sg _ _ _ (by simpa [low] using hlo) h)
  | pm es b ents clk hb ho hl hk' hv hp ihk ihv =>
    intro _
    obtain ⟨h1, h2⟩ := hL.map b ents clk hb ho
    exact .pm es b ents clk h1 h2 hl (fun i k v h => (hk' i k v h).keep hL.toKeeps (hp i k v h).1) (fun i k v h => (hv i k v h).keep hL.toKeeps (hp i k v h).2) hp
  | fn f first caps fc cc h1 h2 h3 h4 ih3 ih4 =>
    intro hlo
    simp only [low, Bool.and_eq_true] at hlo
    exact .fn f first caps fc cc h1 h2 (fun j v h => ih3 j v h (lows_get hlo.1 h)) (fun j v h => ih4 j v h (lows_get hlo.2 h))
  | yl l' i b h => intro hlo; exact .yl l' i b (hL.sg _ _ _ (by simpa [low] using hlo) h)
  | agg cells cs h1 h2 h3 ih =>
    intro hlo
    exact .agg cells cs h1 (fun j v h => ih j v h (lows_get (by simpa [low] using hlo) h)) h3
  | tup cells cs h1 h2 ih =>
    intro hlo
    exact .tup cells cs h1 (fun j v h => ih j v h (lows_get (by simpa [low] using hlo) h))

/-! ### configurations -/

/-- A world, with what is not ours, where the frames' objects lie, the rights, and the blocks for deferred calls. -/
structure Cf where
  w : World
  X : Nat → Nat → Prop
  sg : Nat → Nat → Option Nat
  tk : Nat → Nat → Option TR
  df : List Nat

def Cf.mine (c : Cf) (b o : Nat) : Prop :=
  (∃ l i, c.sg l i = some b) ∨ (∃ l p r, c.tk l p = some r ∧ r.b = b ∧ r.e ≤ o ∧ o < r.c) ∨ b ∈ c.df
def Cf.own (c : Cf) (b o : Nat) : Prop := c.X b o ∨ c.mine b o
def Cf.vw (c : Cf) : Vw := ⟨c.w, c.own, c.sg, c.tk⟩

/-- The temporaries are told by an environment. -/
def ER (V : Vw) (e : Env) (tmps : Array Value) : Prop := ∀ t, VR V (e.get t) (tmps.getD t undef)

/-- How a way out of a round lies in the loop's record. -/
def exCode : Ex → Option Code
  | .nrm => none
  | .exit i => some (.exit i)
  | .ret => some .ret

/-- What an object of a frame is in memory, at block b. 'K' ties the abstract code to the program's. -/
def OR (K : Nat → C → Code → Prop) (V : Vw) (b : Nat) : AObj → Prop
  | .cells l => ∃ cs el, V.w.heap[b]? = some (.cells cs el (0, 0)) ∧ l.length ≤ cs.size ∧ (∀ j v, l[j]? = some v → VR V v (cs.getD j undef)) ∧ ∀ v ∈ l, oneCell v = true
  | .map es => ∃ ents clk, V.w.heap[b]? = some (.map ents clk) ∧ ents.size = es.length ∧
      (∀ i k v, es[i]? = some (k, v) → VR V k (ents.getD i default).key ∧ VR V v (ents.getD i default).val ∧ pur k = true)
  | .loop env _ ps asg body ready pend => ∃ L : Loop, V.w.heap[b]? = some (.loop L) ∧
      L.state = (if ready = true then .ready else if pend = .nrm then .busy else .done) ∧ L.pending = exCode pend ∧ (ready = true → pend = .nrm) ∧
      L.params.toList = ps ∧ ER V env L.tmps ∧ K L.tmps.size asg L.assign ∧ K L.tmps.size body L.body ∧ ∀ p ∈ ps, p < L.tmps.size
  | .dead => True
  | .free _ => True
  | .got n => ∃ cs el, V.w.heap[b]? = some (.cells cs el (0, 0)) ∧ n ≤ cs.size

/-- An object of a level holds nothing of a frame above it. -/
def lowO (l : Nat) : AObj → Prop
  | .cells c => ∀ v ∈ c, low l v = true
  | .map es => ∀ p ∈ es, low l p.2 = true
  | .loop env h _ _ _ _ _ => (∀ t, low l (Env.get env t) = true) ∧ h ≤ l
  | .dead => True
  | .free _ => True
  | .got _ => True

structure Inv (K : Nat → C → Code → Prop) (c : Cf) (s : St) : Prop where
  obj : ∀ l i o, getObj s l i = some o → liveO o = true → ∃ b, c.sg l i = some b ∧ OR K c.vw b o
  lowO : ∀ l i o, getObj s l i = some o → lowO l o
  free : ∀ l i n, getObj s l i = some (.free n) → c.sg l i = none
  dom : ∀ l i b, c.sg l i = some b → ∃ o, getObj s l i = some o
  inj : ∀ l i l' i' b, c.sg l i = some b → c.sg l' i' = some b → l = l' ∧ i = i'
  Xw : ∀ b o, c.X b o → b < c.w.heap.size
  sgX : ∀ l i b o, c.sg l i = some b → ¬ c.X b o
  sgw : ∀ l i b, c.sg l i = some b → b < c.w.heap.size
  tok : ∀ l p r, c.tk l p = some r → getTok s l p = (r.g, r.n) ∧ l < s.length
  tokn : ∀ l p, c.tk l p = none → getTok s l p = (0, 0)
  tkb : ∀ l p r, c.tk l p = some r → r.e < r.c → ∃ cs el, c.w.heap[r.b]? = some (.cells cs el (0, 0)) ∧ r.c ≤ cs.size ∧ (∀ l i, c.sg l i ≠ some r.b) ∧ ∀ o, r.e ≤ o → o < r.c → ¬ c.X r.b o
  tkinj : ∀ l p r l' p' r', c.tk l p = some r → c.tk l' p' = some r' → r.e < r.c → r'.e < r'.c → r.b = r'.b → l = l' ∧ p = p'
  dfw : ∀ d ∈ c.df, c.w.heap[d]? = some (.deferred (some [])) ∧ (∀ l i, c.sg l i ≠ some d) ∧ ∀ o, ¬ c.X d o
  dfn : c.df.Nodup

/-- The outer world, and what is frozen, stay. -/
structure SameIO (w w' : World) : Prop where
  os : w'.os = w.os
  output : w'.output = w.output
  tape : w'.tape = w.tape
  fz : ∀ a, w'.frozen? a = w.frozen? a

theorem SameIO.rfl' {w : World} : SameIO w w := ⟨rfl, rfl, rfl, fun _ => rfl⟩
theorem SameIO.trans {a b c : World} (h : SameIO a b) (h' : SameIO b c) : SameIO a c := ⟨h'.os.trans h.os, h'.output.trans h.output, h'.tape.trans h.tape, fun x => (h'.fz x).trans (h.fz x)⟩

def unfrozen (ob : Obj) : Prop := ∀ cs el fr, ob = .cells cs el fr → fr = (0, 0)

theorem sameIO_alloc {w : World} {ob : Obj} (h : unfrozen ob) : SameIO w (w.alloc ob) := by
  refine ⟨rfl, rfl, rfl, fun a => ?_⟩
  unfold World.frozen?
  show (match (w.heap.push ob)[a.block]? with | some (.cells _ _ (lo, hi)) => decide (lo ≤ a.off) && decide (a.off < hi) | _ => false) = _
  rw [Array.getElem?_push]
  by_cases hb : a.block = w.heap.size
  · rw [if_pos hb, Array.getElem?_eq_none (by omega)]
    cases ob with
    | cells cs el fr =>
      have := h cs el fr rfl
      subst this
      simp
    | _ => rfl
  · rw [if_neg hb]; rfl

theorem sameIO_put {w : World} {b : Nat} {o o' : Obj} (h : w.heap[b]? = some o) (h1 : ∀ cs el fr, o ≠ .cells cs el fr) (h2 : ∀ cs el fr, o' ≠ .cells cs el fr) : SameIO w (w.putObj b o') := by
  refine ⟨rfl, rfl, rfl, fun a => ?_⟩
  unfold World.frozen?
  by_cases hb : a.block = b
  · have hlt : b < w.heap.size := by
      rcases Nat.lt_or_ge b w.heap.size with hb | hb
      · exact hb
      · simp [Array.getElem?_eq_none hb] at h
    rw [hb, World.putObj_heap_same hlt, h]
    cases o <;> cases o' <;> first | rfl | (exact absurd rfl (h1 _ _ _)) | (exact absurd rfl (h2 _ _ _))
  · rw [World.putObj_heap_other hb]

/-- What code may do. -/
structure ExtB (c c' : Cf) : Prop where
  X : c'.X = c.X
  k1 : ∀ b, b < c.w.heap.size → (∀ o, ¬ c.mine b o) → c'.w.heap[b]? = c.w.heap[b]?
  k2 : ∀ b o x, c.w.cell? ⟨b, o, none⟩ = some x → ¬ c.mine b o → c'.w.cell? ⟨b, o, none⟩ = some x
  k3 : c.w.heap.size ≤ c'.w.heap.size
  ow : ∀ b o, b < c.w.heap.size → c'.mine b o → c.mine b o
  sg : ∀ l i b, c.sg l i = some b → c'.sg l i = some b
  tk : ∀ l p r, c.tk l p = some r → ∃ r', c'.tk l p = some r' ∧ (r' = r ∨ r.g < r'.g ∨ (r.g = r'.g ∧ r.n < r'.n))
  lp : ∀ (b : Nat) (r : Loop), c.w.heap[b]? = some (Obj.loop r) → ∃ r' : Loop, c'.w.heap[b]? = some (Obj.loop r')
  io : SameIO c.w c'.w

/-- What a step may do. -/
structure Ext (c c' : Cf) : Prop extends ExtB c c' where
  df : c'.df = c.df

theorem ExtB.refl (c : Cf) : ExtB c c := ⟨rfl, fun _ _ _ => rfl, fun _ _ _ h _ => h, Nat.le_refl _, fun _ _ _ h => h, fun _ _ _ h => h, fun _ _ r h => ⟨r, h, .inl rfl⟩, fun _ r h => ⟨r, h⟩, .rfl'⟩
theorem Ext.refl (c : Cf) : Ext c c := ⟨.refl c, rfl⟩

theorem cell_lt {w : World} {b o : Nat} {x : Value} (h : w.cell? ⟨b, o, none⟩ = some x) : b < w.heap.size := by
  rcases Nat.lt_or_ge b w.heap.size with hb | hb
  · exact hb
  · simp [World.cell?, Array.getElem?_eq_none hb] at h
theorem heap_lt {w : World} {b : Nat} {x : Obj} (h : w.heap[b]? = some x) : b < w.heap.size := by
  rcases Nat.lt_or_ge b w.heap.size with hb | hb
  · exact hb
  · simp [Array.getElem?_eq_none hb] at h

theorem ExtB.trans {a b c : Cf} (h : ExtB a b) (h' : ExtB b c) : ExtB a c where
  X := h'.X.trans h.X
  k1 n hn ho := by rw [h'.k1 n (Nat.lt_of_lt_of_le hn h.k3) (fun o x => ho o (h.ow n o hn x)), h.k1 n hn ho]
  k2 n o x hx ho := h'.k2 n o x (h.k2 n o x hx ho) fun y => ho (h.ow n o (cell_lt hx) y)
  k3 := Nat.le_trans h.k3 h'.k3
  ow n o hn x := h.ow n o hn (h'.ow n o (Nat.lt_of_lt_of_le hn h.k3) x)
  sg l i b x := h'.sg l i b (h.sg l i b x)
  tk l p r x := by
    obtain ⟨r1, h1, h2⟩ := h.tk l p r x
    obtain ⟨r2, h3, h4⟩ := h'.tk l p r1 h1
    refine ⟨r2, h3, ?_⟩
    rcases h2 with rfl | h2 | ⟨h2, h5⟩ <;> rcases h4 with rfl | h4 | ⟨h4, h6⟩
    · exact .inl rfl
    · exact .inr (.inl h4)
    · exact .inr (.inr ⟨h4, h6⟩)
    · exact .inr (.inl h2)
    · exact .inr (.inl (by omega))
    · exact .inr (.inl (by omega))
    · exact .inr (.inr ⟨h2, h5⟩)
    · exact .inr (.inl (by omega))
    · exact .inr (.inr ⟨by omega, by omega⟩)
  lp b r hb := by obtain ⟨r1, h1⟩ := h.lp b r hb; exact h'.lp b r1 h1
  io := h.io.trans h'.io

theorem Ext.trans {a b c : Cf} (h : Ext a b) (h' : Ext b c) : Ext a c := ⟨h.toExtB.trans h'.toExtB, h'.df.trans h.df⟩

theorem ExtB.owo {c c' : Cf} (h : ExtB c c') (b o : Nat) (hb : b < c.w.heap.size) (x : c'.own b o) : c.own b o := by
  rcases x with x | x
  · rw [h.X] at x; exact .inl x
  · exact .inr (h.ow b o hb x)

theorem ExtB.keeps {c c' : Cf} (h : ExtB c c') : Keeps c.vw c'.vw where
  cell b o x hx ho := ⟨h.k2 b o x hx fun y => ho (.inr y), fun y => ho (h.owo b o (cell_lt hx) y)⟩
  map b ents clk hb ho := ⟨by rw [show c'.vw.w.heap[b]? = c.vw.w.heap[b]? from h.k1 b (heap_lt hb) fun o y => ho o (.inr y)]; exact hb, fun o y => ho o (h.owo b o (heap_lt hb) y)⟩

theorem ExtB.le {c c' : Cf} (h : ExtB c c') (l : Nat) : Le l c.vw c'.vw :=
  { h.keeps with sg := fun l' i b _ hb => h.sg l' i b hb, tk := fun l' p r _ hr => h.tk l' p r hr }

mutual
theorem low_exists (v : AV) : ∃ l, ∀ l', l ≤ l' → low l' v = true := by
  cases v with
  | sl r t => cases t with
    | site l p g => exact ⟨l, fun l' h => by simp [low, lowTok]; exact h⟩
    | _ => exact ⟨0, fun _ _ => rfl⟩
  | ptr l i o => exact ⟨l, fun l' h => by simp [low]; exact h⟩
  | os l i o n e => exact ⟨l, fun l' h => by simp [low]; exact h⟩
  | mp l i => exact ⟨l, fun l' h => by simp [low]; exact h⟩
  | yl l i => exact ⟨l, fun l' h => by simp [low]; exact h⟩
  | fn f a b =>
    obtain ⟨l1, h1⟩ := lows_exists a
    obtain ⟨l2, h2⟩ := lows_exists b
    exact ⟨max l1 l2, fun l' h => by simp [low, h1 l' (by omega), h2 l' (by omega)]⟩
  | agg c => obtain ⟨l1, h1⟩ := lows_exists c; exact ⟨l1, fun l' h => by simp [low, h1 l' h]⟩
  | tup c => obtain ⟨l1, h1⟩ := lows_exists c; exact ⟨l1, fun l' h => by simp [low, h1 l' h]⟩
  | _ => exact ⟨0, fun _ _ => rfl⟩
theorem lows_exists (c : List AV) : ∃ l, ∀ l', l ≤ l' → lows l' c = true := by
  cases c with
  | nil => exact ⟨0, fun _ _ => rfl⟩
  | cons v r =>
    obtain ⟨l1, h1⟩ := low_exists v
    obtain ⟨l2, h2⟩ := lows_exists r
    exact ⟨max l1 l2, fun l' h => by simp [lows, h1 l' (by omega), h2 l' (by omega)]⟩
end

theorem VR.extB {c c' : Cf} (h : ExtB c c') {v : AV} {x : Value} (hv : VR c.vw v x) : VR c'.vw v x := by
  obtain ⟨l, hl⟩ := low_exists v
  exact hv.le (h.le l) (hl l (Nat.le_refl _))

theorem VR.ext {c c' : Cf} (h : Ext c c') {v : AV} {x : Value} (hv : VR c.vw v x) : VR c'.vw v x := hv.extB h.toExtB

theorem ER.ext {c c' : Cf} (h : Ext c c') {e : Env} {t : Array Value} (hv : ER c.vw e t) : ER c'.vw e t := fun i => (hv i).ext h

theorem getD_set {tmps : Array Value} {d t : Nat} {x : Value} (hd : d < tmps.size) :
    (tmps.setIfInBounds d x).getD t undef = if d = t then x else tmps.getD t undef := by
  simp only [Array.getD_eq_getD_getElem?, Array.getElem?_setIfInBounds]
  by_cases h : d = t
  · subst h; simp [hd]
  · simp [h]

theorem ER.put {V : Vw} {e : Env} {tmps : Array Value} {d : Option Nat} {v : AV} {x : Value} (h : ER V e tmps) (hv : VR V v x) (hd : ∀ t, d = some t → t < tmps.size) :
    ER V (e.put d v) ((match d with | some t => tmps.setIfInBounds t x | none => tmps)) := by
  cases d with
  | none => exact h
  | some d =>
    intro t
    have := hd d rfl
    simp only [Env.put, Env.get]
    rw [getD_set this]
    by_cases e1 : d = t
    · subst e1; simp; exact hv
    · rw [if_neg e1, if_neg (by simpa [Nat.beq_eq] using e1)]; exact h t

/-! ### frames -/

theorem getFr_cons_top (f : Fr) (s : St) : getFr (f :: s) s.length = some f := by simp [getFr]
theorem getFr_lt {s : St} {l : Nat} {f : Fr} (h : getFr s l = some f) : l < s.length := by
  induction s with
  | nil => simp [getFr] at h
  | cons g s ih =>
    simp only [getFr] at h
    split at h
    · simp [*]
    · have := ih h; simp; omega
theorem getFr_cons_lt {f : Fr} {s : St} {l : Nat} (h : l < s.length) : getFr (f :: s) l = getFr s l := by simp [getFr, Nat.ne_of_lt h]
theorem getFr_none {s : St} {l : Nat} (h : s.length ≤ l) : getFr s l = none := by
  cases hg : getFr s l with
  | none => rfl
  | some f => have := getFr_lt hg; omega
theorem getFr_some {s : St} {l : Nat} (h : l < s.length) : ∃ f, getFr s l = some f := by
  induction s with
  | nil => simp at h
  | cons g s ih =>
    simp only [getFr]
    split
    · exact ⟨g, rfl⟩
    · exact ih (by simp at h; omega)
theorem modFr_length (g : Fr → Fr) (s : St) (l : Nat) : (modFr g s l).length = s.length := by
  induction s with
  | nil => rfl
  | cons f s ih => simp only [modFr]; split <;> simp [ih]
theorem getFr_modFr (g : Fr → Fr) (s : St) (l l' : Nat) : getFr (modFr g s l) l' = if l = l' then (getFr s l').map g else getFr s l' := by
  induction s with
  | nil => simp [modFr, getFr]
  | cons f s ih =>
    simp only [modFr]
    by_cases h : l = s.length
    · subst h
      simp only [if_true, getFr]
      by_cases h' : l' = s.length
      · subst h'; simp
      · have : ¬ s.length = l' := fun h => h' h.symm
        simp [h', this]
    · simp only [h, if_false, getFr, modFr_length]
      by_cases h' : l' = s.length
      · subst h'; simp [h]
      · simp only [h', if_false]; exact ih

theorem getO_eq (l : List AObj) (i : Nat) : getO l i = l[i]? := by
  induction l generalizing i with
  | nil => simp [getO]
  | cons o l ih => cases i <;> simp [getO, ih]

theorem setO_eq (i : Nat) (o : AObj) (f : Fr) : setO i o f = ⟨f.objs.set i o, f.toks⟩ := by cases f; simp [setO]

theorem getObj_setObj (s : St) (l i l' i' : Nat) (o : AObj) :
    getObj (setObj s l i o) l' i' = if l = l' ∧ i = i' then (getObj s l' i').map (fun _ => o) else getObj s l' i' := by
  simp only [getObj, setObj, getFr_modFr]
  by_cases h : l = l'
  · subst h
    simp only [if_true, true_and]
    cases hf : getFr s l with
    | none => simp
    | some f =>
      simp only [Option.map_some, Option.bind_some, setO_eq, getO_eq, List.getElem?_set]
      by_cases h : i = i'
      · subst h
        by_cases hlt : i < f.objs.length
        · simp [hlt]
        · simp [hlt]
      · simp [h]
  · simp [h]

theorem getTok_modObjs (s : St) (l l' p : Nat) (g : Fr → Fr) (h : ∀ f, (g f).toks = f.toks) : getTok (modFr g s l) l' p = getTok s l' p := by
  simp only [getTok, getFr_modFr]
  by_cases hl : l = l'
  · subst hl
    simp only [if_true]
    cases getFr s l with
    | none => rfl
    | some f => simp [h]
  · simp [hl]
theorem getTok_setObj (s : St) (l i l' p : Nat) (o : AObj) : getTok (setObj s l i o) l' p = getTok s l' p := getTok_modObjs _ _ _ _ _ fun f => by simp [setO_eq]
theorem getObj_setTok (s : St) (l p l' i : Nat) (x : Nat × Nat) : getObj (setTok s l p x) l' i = getObj s l' i := by
  simp only [getObj, setTok, getFr_modFr]
  by_cases hl : l = l'
  · subst hl
    simp only [if_true]
    cases getFr s l <;> rfl
  · simp [hl]
theorem tokGet_set (t : List (Nat × Nat × Nat)) (p q : Nat) (x : Nat × Nat) : tokGet (tokSet t p x) q = if p = q then x else tokGet t q := by
  induction t with
  | nil => simp [tokSet, tokGet]
  | cons y t ih =>
    obtain ⟨r, y⟩ := y
    simp only [tokSet]
    by_cases h : r = p
    · subst h
      simp only [if_true, tokGet]
      split <;> rfl
    · simp only [h, if_false, tokGet]
      by_cases h' : r = q
      · subst h'; simp [Ne.symm h]
      · simp only [h', if_false]; exact ih
theorem getTok_setTok (s : St) (l p l' q : Nat) (x : Nat × Nat) (hl : l < s.length) : getTok (setTok s l p x) l' q = if l = l' ∧ p = q then x else getTok s l' q := by
  simp only [getTok, setTok, getFr_modFr]
  by_cases h : l = l'
  · subst h
    obtain ⟨f, hf⟩ := getFr_some hl
    simp only [hf, if_true, true_and, Option.map_some, tokGet_set]
  · simp [h]
theorem setObj_length (s : St) (l i : Nat) (o : AObj) : (setObj s l i o).length = s.length := modFr_length _ _ _
theorem setTok_length (s : St) (l p : Nat) (x : Nat × Nat) : (setTok s l p x).length = s.length := modFr_length _ _ _

theorem newObj_eq (s : St) (o : AObj) : newObj s o = match s with | [] => none | f :: s => some (s.length, f.objs.length, ⟨f.objs ++ [o], f.toks⟩ :: s) := by
  cases s with
  | nil => rfl
  | cons f s => cases f; simp [newObj]
theorem newObj_some {s s' : St} {o : AObj} {l i : Nat} (h : newObj s o = some (l, i, s')) :
    s'.length = s.length ∧ l < s.length ∧ getObj s l i = none ∧ (∀ l' i', getObj s' l' i' = if l = l' ∧ i = i' then some o else getObj s l' i') ∧ ∀ l' p, getTok s' l' p = getTok s l' p := by
  rw [newObj_eq] at h
  cases s with
  | nil => simp at h
  | cons f s =>
    simp only [Option.some.injEq, Prod.mk.injEq] at h
    obtain ⟨rfl, rfl, rfl⟩ := h
    refine ⟨by simp, by simp, by simp [getObj, getFr, getO_eq], fun l' i' => ?_, fun l' p => ?_⟩
    · simp only [getObj, getFr]
      by_cases h : l' = s.length
      · subst h
        simp only [if_true, Option.bind_some, getO_eq, true_and]
        by_cases h : f.objs.length = i'
        · subst h; simp
        · simp only [h, if_false]
          rw [List.getElem?_append]
          split
          · rfl
          · rename_i hge
            have hne : i' - f.objs.length ≠ 0 := by omega
            rw [List.getElem?_eq_none (by simp; omega), List.getElem?_eq_none (by omega)]
      · have : ¬ s.length = l' := fun h' => h h'.symm
        simp [h, this]
    · simp only [getTok, getFr]
      by_cases h : l' = s.length <;> simp [h]

theorem newObj_lev {s s' : St} {o : AObj} {l i : Nat} (h : newObj s o = some (l, i, s')) : l = s.length - 1 := by
  rw [newObj_eq] at h
  cases s with
  | nil => simp at h
  | cons f s =>
    simp only [Option.some.injEq, Prod.mk.injEq] at h
    obtain ⟨rfl, _⟩ := h
    simp

/-! ### what an operation does to a configuration -/

variable {K : Nat → C → Code → Prop}

theorem World.alloc_heap (w : World) (o : Obj) : (w.alloc o).heap = w.heap.push o := rfl
theorem alloc_old {w : World} {o : Obj} {b : Nat} (h : b < w.heap.size) : (w.alloc o).heap[b]? = w.heap[b]? := by
  rw [World.alloc_heap, Array.getElem?_push]; simp [Nat.ne_of_lt h]
theorem alloc_new {w : World} {o : Obj} : (w.alloc o).heap[w.heap.size]? = some o := by simp [World.alloc_heap]
theorem alloc_cell {w : World} {o : Obj} {b i : Nat} {x : Value} (h : w.cell? ⟨b, i, none⟩ = some x) : (w.alloc o).cell? ⟨b, i, none⟩ = some x := by
  have := cell_lt h
  unfold World.cell? at *
  rw [alloc_old this]; exact h

theorem OR.mono {V V' : Vw} {b : Nat} {o : AObj} (hv : ∀ v x, VR V v x → VR V' v x) (hb : V'.w.heap[b]? = V.w.heap[b]?) (h : OR K V b o) : OR K V' b o := by
  cases o with
  | cells l =>
    obtain ⟨cs, el, h1, h2, h3, h4⟩ := h
    exact ⟨cs, el, by rw [hb]; exact h1, h2, fun j v hj => hv _ _ (h3 j v hj), h4⟩
  | map es =>
    obtain ⟨cs, el, h1, h2, h3⟩ := h
    exact ⟨cs, el, by rw [hb]; exact h1, h2, fun j k v hj => ⟨hv _ _ (h3 j k v hj).1, hv _ _ (h3 j k v hj).2.1, (h3 j k v hj).2.2⟩⟩
  | loop env h ps asg body r p =>
    obtain ⟨L, h1, h2, h3, h4, h5, h6, h7, h8, h9⟩ := h
    exact ⟨L, by rw [hb]; exact h1, h2, h3, h4, h5, fun t => hv _ _ (h6 t), h7, h8, h9⟩
  | dead => trivial
  | free n => trivial
  | got n =>
    obtain ⟨cs, el, h1, h2⟩ := h
    exact ⟨cs, el, by rw [hb]; exact h1, h2⟩

/-- A new block, a new object. -/
theorem inv_new {c : Cf} {s s' : St} {o : AObj} {l i : Nat} {ob : Obj} (hI : Inv K c s) (hn : newObj s o = some (l, i, s')) (hlo : Ab.lowO l o) (hfo : ∀ n, o ≠ .free n) (hof : unfrozen ob)
    (hob : ∀ c', c' = { c with w := c.w.alloc ob, sg := fun l' i' => if l = l' ∧ i = i' then some c.w.heap.size else c.sg l' i' } → Ext c c' → OR K c'.vw c.w.heap.size o)
    : ∃ c', c' = { c with w := c.w.alloc ob, sg := fun l' i' => if l = l' ∧ i = i' then some c.w.heap.size else c.sg l' i' } ∧ Inv K c' s' ∧ Ext c c' := by
  obtain ⟨hlen, hl, hfree, hobj, htok⟩ := newObj_some hn
  have hsgn : c.sg l i = none := by
    cases h : c.sg l i with
    | none => rfl
    | some b => obtain ⟨o, ho⟩ := hI.dom _ _ _ h; rw [hfree] at ho; cases ho
  refine ⟨_, rfl, ?_, ?_⟩
  rotate_left
  · exact {
      X := rfl
      k1 := fun b hb _ => alloc_old hb
      k2 := fun b o x hx _ => alloc_cell hx
      k3 := by simp [World.alloc_heap]
      ow := fun b o hb h => by
        rcases h with ⟨l', i', h⟩ | h | h
        · dsimp only at h
          split at h
          · cases h; omega
          · exact .inl ⟨l', i', h⟩
        · exact .inr (.inl h)
        · exact .inr (.inr h)
      sg := fun l' i' b h => by
        dsimp only
        split
        · rename_i he; obtain ⟨rfl, rfl⟩ := he; rw [hsgn] at h; cases h
        · exact h
      tk := fun l p r h => ⟨r, h, .inl rfl⟩
      io := sameIO_alloc hof
      df := rfl
      lp := fun b r h => ⟨r, by rw [show (World.alloc _ _).heap[b]? = _ from alloc_old (heap_lt h)]; exact h⟩ }
  have hE : Ext c { c with w := c.w.alloc ob, sg := fun l' i' => if l = l' ∧ i = i' then some c.w.heap.size else c.sg l' i' } := {
      X := rfl
      k1 := fun b hb _ => alloc_old hb
      k2 := fun b o x hx _ => alloc_cell hx
      k3 := by simp [World.alloc_heap]
      ow := fun b o hb h => by
        rcases h with ⟨l', i', h⟩ | h | h
        · dsimp only at h
          split at h
          · cases h; omega
          · exact .inl ⟨l', i', h⟩
        · exact .inr (.inl h)
        · exact .inr (.inr h)
      sg := fun l' i' b h => by
        dsimp only
        split
        · rename_i he; obtain ⟨rfl, rfl⟩ := he; rw [hsgn] at h; cases h
        · exact h
      tk := fun l p r h => ⟨r, h, .inl rfl⟩
      io := sameIO_alloc hof
      df := rfl
      lp := fun b r h => ⟨r, by rw [show (World.alloc _ _).heap[b]? = _ from alloc_old (heap_lt h)]; exact h⟩ }
  exact {
    obj := fun l' i' o' ho hd => by
      rw [hobj] at ho
      dsimp only
      split at ho
      · rename_i he
        cases ho
        rw [if_pos he]
        exact ⟨_, rfl, hob _ rfl hE⟩
      · rename_i he
        rw [if_neg he]
        obtain ⟨b, h1, h2⟩ := hI.obj l' i' o' ho hd
        exact ⟨b, h1, h2.mono (fun v x hv => hv.ext hE) (alloc_old (hI.sgw _ _ _ h1))⟩
    lowO := fun l' i' o' ho => by
      rw [hobj] at ho
      split at ho
      · rename_i he; cases ho; rw [← he.1]; exact hlo
      · exact hI.lowO _ _ _ ho
    free := fun l' i' n ho => by
      rw [hobj] at ho
      dsimp only
      split at ho
      · cases ho; exact absurd rfl (hfo n)
      · rename_i he; rw [if_neg he]; exact hI.free _ _ _ ho
    dom := fun l' i' b h => by
      rw [hobj]
      dsimp only at h
      split at h
      · rename_i he; rw [if_pos he]; exact ⟨_, rfl⟩
      · rename_i he; rw [if_neg he]; exact hI.dom _ _ _ h
    inj := fun l1 i1 l2 i2 b h1 h2 => by
      dsimp only at h1 h2
      split at h1 <;> split at h2
      · rename_i e1 e2; exact ⟨e1.1.symm.trans e2.1, e1.2.symm.trans e2.2⟩
      · cases h1; have := hI.sgw _ _ _ h2; omega
      · cases h2; have := hI.sgw _ _ _ h1; omega
      · exact hI.inj _ _ _ _ _ h1 h2
    Xw := fun b o h => by have := hI.Xw b o h; simp only [World.alloc_heap, Array.size_push]; omega
    sgX := fun l' i' b o h => by
      dsimp only at h
      split at h
      · cases h; exact fun hx => Nat.lt_irrefl _ (hI.Xw _ _ hx)
      · exact hI.sgX _ _ _ o h
    sgw := fun l' i' b h => by
      dsimp only at h
      simp only [World.alloc_heap, Array.size_push]
      split at h
      · cases h; omega
      · have := hI.sgw _ _ _ h; omega
    tok := fun l' p r h => by rw [htok, hlen]; exact hI.tok l' p r h
    tokn := fun l' p h => by rw [htok]; exact hI.tokn l' p h
    tkb := fun l' p r h he => by
      obtain ⟨cs, el, h1, h2, h3, h4⟩ := hI.tkb l' p r h he
      have hlt := heap_lt h1
      refine ⟨cs, el, by rw [alloc_old hlt]; exact h1, h2, fun l2 i2 h => ?_, h4⟩
      dsimp only at h
      split at h
      · injection h with h; omega
      · exact h3 _ _ h
    tkinj := hI.tkinj
    dfw := fun d hd => by
      obtain ⟨h1, h2, h3⟩ := hI.dfw d hd
      have hlt := heap_lt h1
      refine ⟨by rw [alloc_old hlt]; exact h1, fun l2 i2 h => ?_, h3⟩
      dsimp only at h
      split at h
      · cases h; omega
      · exact h2 _ _ h
    dfn := hI.dfn }

/-- A new block that nobody owns. -/
theorem inv_alloc {c : Cf} {s : St} {ob : Obj} (hof : unfrozen ob) (hI : Inv K c s) : Inv K { c with w := c.w.alloc ob } s ∧ Ext c { c with w := c.w.alloc ob } := by
  have hE : Ext c { c with w := c.w.alloc ob } := {
      X := rfl
      k1 := fun b hb _ => alloc_old hb
      k2 := fun b o x hx _ => alloc_cell hx
      k3 := by simp [World.alloc_heap]
      ow := fun b o hb h => h
      sg := fun l' i' b h => h
      tk := fun l p r h => ⟨r, h, .inl rfl⟩
      io := sameIO_alloc hof
      df := rfl
      lp := fun b r h => ⟨r, by rw [show (World.alloc _ _).heap[b]? = _ from alloc_old (heap_lt h)]; exact h⟩ }
  refine ⟨?_, hE⟩
  exact { hI with
    obj := fun l' i' o' ho hd => by
      obtain ⟨b, h1, h2⟩ := hI.obj l' i' o' ho hd
      exact ⟨b, h1, h2.mono (fun v x hv => hv.ext hE) (alloc_old (hI.sgw _ _ _ h1))⟩
    Xw := fun b o h => by have := hI.Xw b o h; simp only [World.alloc_heap, Array.size_push]; omega
    sgw := fun l' i' b h => by
      have := hI.sgw _ _ _ h
      simp only [World.alloc_heap, Array.size_push]; omega
    tkb := fun l' p r h he => by
      obtain ⟨cs, el, h1, h2, h3, h4⟩ := hI.tkb l' p r h he
      exact ⟨cs, el, by rw [alloc_old (heap_lt h1)]; exact h1, h2, h3, h4⟩
    dfw := fun d hd => by
      obtain ⟨h1, h2, h3⟩ := hI.dfw d hd
      exact ⟨by rw [alloc_old (heap_lt h1)]; exact h1, h2, h3⟩ }

/-- A draw. -/
theorem inv_heap {c : Cf} {s : St} {w' : World} (hio : SameIO c.w w') (hh : w'.heap = c.w.heap) (hI : Inv K c s) : Inv K { c with w := w' } s ∧ Ext c { c with w := w' } := by
  have hc : ∀ a, w'.cell? a = c.w.cell? a := fun a => by simp [World.cell?, hh]
  have hE : Ext c { c with w := w' } := {
      X := rfl
      k1 := fun b hb _ => by rw [hh]
      k2 := fun b o x hx _ => by rw [hc]; exact hx
      k3 := by rw [hh]; exact Nat.le_refl _
      ow := fun b o hb h => h
      sg := fun l' i' b h => h
      tk := fun l p r h => ⟨r, h, .inl rfl⟩
      io := hio
      df := rfl
      lp := fun b r h => ⟨r, by show w'.heap[b]? = _; rw [hh]; exact h⟩ }
  refine ⟨?_, hE⟩
  exact { hI with
    obj := fun l' i' o' ho hd => by
      obtain ⟨b, h1, h2⟩ := hI.obj l' i' o' ho hd
      exact ⟨b, h1, h2.mono (fun v x hv => hv.ext hE) (by show w'.heap[b]? = _; rw [hh]; rfl)⟩
    Xw := fun b o h => by have := hI.Xw b o h; show b < w'.heap.size; rw [hh]; exact this
    sgw := fun l' i' b h => by
      have := hI.sgw _ _ _ h
      show b < w'.heap.size
      rw [hh]; exact this
    tkb := fun l' p r h he => by
      obtain ⟨cs, el, h1, h2, h3, h4⟩ := hI.tkb l' p r h he
      exact ⟨cs, el, by show w'.heap[r.b]? = _; rw [hh]; exact h1, h2, h3, h4⟩
    dfw := fun d hd => by
      obtain ⟨h1, h2, h3⟩ := hI.dfw d hd
      exact ⟨by show w'.heap[d]? = _; rw [hh]; exact h1, h2, h3⟩ }

/-- An owned block is written: the object there is another one. -/
theorem inv_set {c : Cf} {s : St} {l i b : Nat} {o o0 : AObj} {w' : World} (hI : Inv K c s) (hlo : Ab.lowO l o) (hfo : ∀ n, o ≠ .free n) (hsg : c.sg l i = some b) (h0 : getObj s l i = some o0) (hio : SameIO c.w w')
    (hh : ∀ b', b' ≠ b → w'.heap[b']? = c.w.heap[b']?) (hsz : w'.heap.size = c.w.heap.size)
    (hlp : ∀ r : Loop, c.w.heap[b]? = some (Obj.loop r) → ∃ r' : Loop, w'.heap[b]? = some (Obj.loop r'))
    (hob : Ext c { c with w := w' } → OR K (Cf.vw { c with w := w' }) b o) : Inv K { c with w := w' } (setObj s l i o) ∧ Ext c { c with w := w' } := by
  have hE : Ext c { c with w := w' } := {
      X := rfl
      k1 := fun b' hb ho => hh b' fun e => ho 0 (.inl ⟨l, i, by rw [e]; exact hsg⟩)
      k2 := fun b' o x hx ho => by
        have : b' ≠ b := fun e => ho (.inl ⟨l, i, by rw [e]; exact hsg⟩)
        show w'.cell? _ = _
        unfold World.cell? at *
        rw [hh b' this]; exact hx
      k3 := by show _ ≤ w'.heap.size; omega
      ow := fun b o hb h => h
      sg := fun l' i' b h => h
      tk := fun l p r h => ⟨r, h, .inl rfl⟩
      io := hio
      df := rfl
      lp := fun b' r h => by
        by_cases hb : b' = b
        · subst hb; exact hlp r h
        · exact ⟨r, by show w'.heap[b']? = _; rw [hh b' hb]; exact h⟩ }
  refine ⟨?_, hE⟩
  exact {
    obj := fun l' i' o' ho hd => by
      rw [getObj_setObj] at ho
      by_cases he : l = l' ∧ i = i'
      · obtain ⟨rfl, rfl⟩ := he
        rw [if_pos ⟨rfl, rfl⟩, h0] at ho
        cases ho
        exact ⟨b, hsg, hob hE⟩
      · rw [if_neg he] at ho
        obtain ⟨b', h1, h2⟩ := hI.obj l' i' o' ho hd
        exact ⟨b', h1, h2.mono (fun v x hv => hv.ext hE) (hh b' fun e => he (hI.inj _ _ _ _ _ hsg (e ▸ h1)))⟩
    lowO := fun l' i' o' ho => by
      rw [getObj_setObj] at ho
      by_cases he : l = l' ∧ i = i'
      · obtain ⟨rfl, rfl⟩ := he
        rw [if_pos ⟨rfl, rfl⟩, h0] at ho
        cases ho; exact hlo
      · rw [if_neg he] at ho; exact hI.lowO _ _ _ ho
    free := fun l' i' n ho => by
      rw [getObj_setObj] at ho
      by_cases he : l = l' ∧ i = i'
      · obtain ⟨rfl, rfl⟩ := he
        rw [if_pos ⟨rfl, rfl⟩, h0] at ho
        cases ho; exact absurd rfl (hfo n)
      · rw [if_neg he] at ho; exact hI.free _ _ _ ho
    dom := fun l' i' b' h => by
      obtain ⟨o1, h1⟩ := hI.dom _ _ _ h
      rw [getObj_setObj, h1]
      split <;> exact ⟨_, rfl⟩
    inj := hI.inj
    Xw := fun b o h => by have := hI.Xw b o h; show b < w'.heap.size; omega
    sgX := hI.sgX
    sgw := fun l' i' b' h => by have := hI.sgw _ _ _ h; show b' < w'.heap.size; omega
    tok := fun l' p r h => by rw [getTok_setObj, setObj_length]; exact hI.tok l' p r h
    tokn := fun l' p h => by rw [getTok_setObj]; exact hI.tokn l' p h
    tkb := fun l' p r h he => by
      obtain ⟨cs, el, h1, h2, h3, h4⟩ := hI.tkb l' p r h he
      exact ⟨cs, el, by rw [show w'.heap[r.b]? = c.w.heap[r.b]? from hh _ fun e => h3 l i (e ▸ hsg)]; exact h1, h2, h3, h4⟩
    tkinj := hI.tkinj
    dfw := fun d hd => by
      obtain ⟨h1, h2, h3⟩ := hI.dfw d hd
      exact ⟨by rw [show w'.heap[d]? = c.w.heap[d]? from hh _ fun e => h2 l i (e ▸ hsg)]; exact h1, h2, h3⟩
    dfn := hI.dfn }

/-- append into a new array: a new block, a new right. -/
theorem inv_app_new {c : Cf} {s : St} {h p : Nat} {r' : TR} {cs : Array Value} {el : TypeId} (hI : Inv K c s) (hh : h < s.length)
    (hb : r'.b = c.w.heap.size) (hc : r'.c ≤ cs.size) (hg : ∀ r, c.tk h p = some r → r.g < r'.g ∨ (r.g = r'.g ∧ r.n < r'.n)) :
    Inv K { c with w := c.w.alloc (.cells cs el), tk := fun l q => if h = l ∧ p = q then some r' else c.tk l q } (setTok s h p (r'.g, r'.n)) ∧
    Ext c { c with w := c.w.alloc (.cells cs el), tk := fun l q => if h = l ∧ p = q then some r' else c.tk l q } := by
  have hE : Ext c { c with w := c.w.alloc (.cells cs el), tk := fun l q => if h = l ∧ p = q then some r' else c.tk l q } := {
      X := rfl
      k1 := fun b hb _ => alloc_old hb
      k2 := fun b o x hx _ => alloc_cell hx
      k3 := by simp [World.alloc_heap]
      ow := fun b o hb' hx => by
        rcases hx with hx | ⟨l, q, r, h1, h2, h3⟩ | hx
        · exact .inl hx
        · dsimp only at h1
          split at h1
          · cases h1; omega
          · exact .inr (.inl ⟨l, q, r, h1, h2, h3⟩)
        · exact .inr (.inr hx)
      sg := fun l' i' b h => h
      tk := fun l q r hr => by
        dsimp only
        split
        · rename_i he; obtain ⟨rfl, rfl⟩ := he; exact ⟨r', rfl, .inr (hg r hr)⟩
        · exact ⟨r, hr, .inl rfl⟩
      io := sameIO_alloc (fun _ _ _ h => by cases h; rfl)
      df := rfl
      lp := fun b r h => ⟨r, by rw [show (World.alloc _ _).heap[b]? = _ from alloc_old (heap_lt h)]; exact h⟩ }
  refine ⟨?_, hE⟩
  exact {
    obj := fun l' i' o' ho hd => by
      rw [getObj_setTok] at ho
      obtain ⟨b, h1, h2⟩ := hI.obj l' i' o' ho hd
      exact ⟨b, h1, h2.mono (fun v x hv => hv.ext hE) (alloc_old (hI.sgw _ _ _ h1))⟩
    lowO := fun l' i' o' ho => by rw [getObj_setTok] at ho; exact hI.lowO _ _ _ ho
    free := fun l' i' n ho => by rw [getObj_setTok] at ho; exact hI.free _ _ _ ho
    dom := fun l' i' b hx => by rw [getObj_setTok]; exact hI.dom _ _ _ hx
    inj := hI.inj
    Xw := fun b o hx => by have := hI.Xw b o hx; simp only [World.alloc_heap, Array.size_push]; omega
    sgX := hI.sgX
    sgw := fun l' i' b hx => by have := hI.sgw _ _ _ hx; simp only [World.alloc_heap, Array.size_push]; omega
    tok := fun l q r hr => by
      rw [getTok_setTok _ _ _ _ _ _ hh, setTok_length]
      dsimp only at hr
      split at hr
      · rename_i he; cases hr; rw [if_pos he]; exact ⟨rfl, he.1 ▸ hh⟩
      · rename_i he; rw [if_neg he]; exact hI.tok l q r hr
    tokn := fun l q hr => by
      rw [getTok_setTok _ _ _ _ _ _ hh]
      dsimp only at hr
      split at hr
      · cases hr
      · rename_i he; rw [if_neg he]; exact hI.tokn l q hr
    tkb := fun l q r hr he => by
      dsimp only at hr
      split at hr
      · cases hr
        refine ⟨cs, el, by rw [hb]; exact alloc_new, hc, fun l i hx => ?_, fun o _ _ hx => ?_⟩
        · have := hI.sgw _ _ _ hx; omega
        · have := hI.Xw _ _ hx; omega
      · obtain ⟨cs', el', h1, h2, h3, h4⟩ := hI.tkb l q r hr he
        exact ⟨cs', el', by rw [alloc_old (heap_lt h1)]; exact h1, h2, h3, h4⟩
    tkinj := fun l1 p1 r1 l2 p2 r2 h1 h2 h3 h4 h5 => by
      dsimp only at h1 h2
      split at h1 <;> split at h2
      · rename_i e1 e2; exact ⟨e1.1.symm.trans e2.1, e1.2.symm.trans e2.2⟩
      · cases h1
        obtain ⟨_, _, h6, _⟩ := hI.tkb _ _ _ h2 h4
        have := heap_lt h6; omega
      · cases h2
        obtain ⟨_, _, h6, _⟩ := hI.tkb _ _ _ h1 h3
        have := heap_lt h6; omega
      · exact hI.tkinj _ _ _ _ _ _ h1 h2 h3 h4 h5
    dfw := fun d hd => by
      obtain ⟨h1, h2, h3⟩ := hI.dfw d hd
      exact ⟨by rw [alloc_old (heap_lt h1)]; exact h1, h2, h3⟩
    dfn := hI.dfn }

/-- A right is given up. -/
theorem inv_tok_drop {c : Cf} {s : St} {h p : Nat} {r : TR} (hI : Inv K c s) (hr : c.tk h p = some r) :
    Inv K { c with tk := fun l q => if h = l ∧ p = q then some { g := r.g + 1, n := 0, b := r.b, e := 0, c := 0 } else c.tk l q } (setTok s h p (r.g + 1, 0)) ∧
    Ext c { c with tk := fun l q => if h = l ∧ p = q then some { g := r.g + 1, n := 0, b := r.b, e := 0, c := 0 } else c.tk l q } := by
  have hh : h < s.length := (hI.tok _ _ _ hr).2
  have hE : Ext c { c with tk := fun l q => if h = l ∧ p = q then some { g := r.g + 1, n := 0, b := r.b, e := 0, c := 0 } else c.tk l q } := {
      X := rfl
      k1 := fun b hb _ => rfl
      k2 := fun b o x hx _ => hx
      k3 := Nat.le_refl _
      ow := fun b o hb' hx => by
        rcases hx with hx | ⟨l, q, r, h1, h2, h3, h4⟩ | hx
        · exact .inl hx
        · dsimp only at h1
          split at h1
          · cases h1; dsimp only at h4; omega
          · exact .inr (.inl ⟨l, q, r, h1, h2, h3, h4⟩)
        · exact .inr (.inr hx)
      sg := fun l' i' b h => h
      tk := fun l q r2 hr2 => by
        dsimp only
        split
        · rename_i he; obtain ⟨rfl, rfl⟩ := he; rw [hr] at hr2; cases hr2; exact ⟨_, rfl, .inr (.inl (by simp))⟩
        · exact ⟨r2, hr2, .inl rfl⟩
      io := .rfl'
      df := rfl
      lp := fun b r h => ⟨r, h⟩ }
  refine ⟨?_, hE⟩
  exact {
    obj := fun l' i' o' ho hd => by
      rw [getObj_setTok] at ho
      obtain ⟨b, h1, h2⟩ := hI.obj l' i' o' ho hd
      exact ⟨b, h1, h2.mono (fun v x hv => hv.ext hE) rfl⟩
    lowO := fun l' i' o' ho => by rw [getObj_setTok] at ho; exact hI.lowO _ _ _ ho
    free := fun l' i' n ho => by rw [getObj_setTok] at ho; exact hI.free _ _ _ ho
    dom := fun l' i' b hx => by rw [getObj_setTok]; exact hI.dom _ _ _ hx
    inj := hI.inj
    Xw := hI.Xw
    sgX := hI.sgX
    sgw := hI.sgw
    tok := fun l q r hr => by
      rw [getTok_setTok _ _ _ _ _ _ hh, setTok_length]
      dsimp only at hr
      split at hr
      · rename_i he; cases hr; rw [if_pos he]; exact ⟨rfl, he.1 ▸ hh⟩
      · rename_i he; rw [if_neg he]; exact hI.tok l q r hr
    tokn := fun l q hr => by
      rw [getTok_setTok _ _ _ _ _ _ hh]
      dsimp only at hr
      split at hr
      · cases hr
      · rename_i he; rw [if_neg he]; exact hI.tokn l q hr
    tkb := fun l q r hr he => by
      dsimp only at hr
      split at hr
      · cases hr; dsimp only at he; omega
      · exact hI.tkb l q r hr he
    tkinj := fun l1 p1 r1 l2 p2 r2 h1 h2 h3 h4 h5 => by
      dsimp only at h1 h2
      split at h1 <;> split at h2
      · cases h1; dsimp only at h3; omega
      · cases h1; dsimp only at h3; omega
      · cases h2; dsimp only at h4; omega
      · exact hI.tkinj _ _ _ _ _ _ h1 h2 h3 h4 h5
    dfw := hI.dfw
    dfn := hI.dfn }

/-- append in place: cells of the room behind a slice are written; the right stands behind them now. -/
theorem inv_app_in {c : Cf} {s : St} {h p : Nat} {r r' : TR} {w' : World} {cs cs' : Array Value} {el : TypeId} (hio : SameIO c.w w') (hI : Inv K c s) (hr : c.tk h p = some r)
    (hne : r.e < r.c) (hcs : c.w.heap[r.b]? = some (.cells cs el (0, 0))) (hcs' : w'.heap[r.b]? = some (.cells cs' el (0, 0))) (hsz : cs'.size = cs.size)
    (hsame : ∀ o, (o < r.e ∨ r.c ≤ o) → cs'[o]? = cs[o]?) (hoth : ∀ b, b ≠ r.b → w'.heap[b]? = c.w.heap[b]?) (hwsz : w'.heap.size = c.w.heap.size)
    (hg : r'.g = r.g) (hn : r.n < r'.n) (hb : r'.b = r.b) (he : r.e ≤ r'.e) (hc : r'.c = r.c) :
    Inv K { c with w := w', tk := fun l q => if h = l ∧ p = q then some r' else c.tk l q } (setTok s h p (r'.g, r'.n)) ∧
    Ext c { c with w := w', tk := fun l q => if h = l ∧ p = q then some r' else c.tk l q } := by
  have hh : h < s.length := (hI.tok _ _ _ hr).2
  obtain ⟨cs0, el0, k1, k2, k3, k4⟩ := hI.tkb _ _ _ hr hne
  rw [hcs] at k1; cases k1
  have hE : Ext c { c with w := w', tk := fun l q => if h = l ∧ p = q then some r' else c.tk l q } := {
      X := rfl
      k1 := fun b hb ho => hoth b fun e => ho r.e (.inr (.inl ⟨h, p, r, hr, e.symm, Nat.le_refl _, hne⟩))
      k2 := fun b o x hx ho => by
        by_cases hbb : b = r.b
        · subst hbb
          have ho' : o < r.e ∨ r.c ≤ o := by
            rcases Nat.lt_or_ge o r.e with h1 | h1
            · exact .inl h1
            · rcases Nat.lt_or_ge o r.c with h2 | h2
              · exact absurd (.inr (.inl ⟨h, p, r, hr, rfl, h1, h2⟩)) ho
              · exact .inr h2
          simp only [World.cell?, hcs, Option.isSome_none, Bool.false_eq_true, if_false] at hx
          simp only [World.cell?, hcs', Option.isSome_none, Bool.false_eq_true, if_false, hsame o ho']
          exact hx
        · unfold World.cell? at *
          dsimp only at *
          rw [hoth b hbb]; exact hx
      k3 := by show _ ≤ w'.heap.size; omega
      ow := fun b o hb' hx => by
        rcases hx with hx | ⟨l, q, r2, h1, h2, h3, h4⟩ | hx
        · exact .inl hx
        · dsimp only at h1
          split at h1
          · cases h1; exact .inr (.inl ⟨h, p, r, hr, by omega, by omega, by omega⟩)
          · exact .inr (.inl ⟨l, q, r2, h1, h2, h3, h4⟩)
        · exact .inr (.inr hx)
      sg := fun l' i' b h => h
      tk := fun l q r2 hr2 => by
        dsimp only
        split
        · rename_i he; obtain ⟨rfl, rfl⟩ := he; rw [hr] at hr2; cases hr2; exact ⟨r', rfl, .inr (.inr ⟨hg.symm, hn⟩)⟩
        · exact ⟨r2, hr2, .inl rfl⟩
      io := hio
      df := rfl
      lp := fun b q h => by
        by_cases hb : b = r.b
        · subst hb; rw [hcs] at h; cases h
        · exact ⟨q, by show w'.heap[b]? = _; rw [hoth b hb]; exact h⟩ }
  refine ⟨?_, hE⟩
  exact {
    obj := fun l' i' o' ho hd => by
      rw [getObj_setTok] at ho
      obtain ⟨b, h1, h2⟩ := hI.obj l' i' o' ho hd
      exact ⟨b, h1, h2.mono (fun v x hv => hv.ext hE) (hoth b fun e => k3 l' i' (e ▸ h1))⟩
    lowO := fun l' i' o' ho => by rw [getObj_setTok] at ho; exact hI.lowO _ _ _ ho
    free := fun l' i' n ho => by rw [getObj_setTok] at ho; exact hI.free _ _ _ ho
    dom := fun l' i' b hx => by rw [getObj_setTok]; exact hI.dom _ _ _ hx
    inj := hI.inj
    Xw := fun b o hx => by have := hI.Xw b o hx; show b < w'.heap.size; omega
    sgX := hI.sgX
    sgw := fun l' i' b hx => by have := hI.sgw _ _ _ hx; show b < w'.heap.size; omega
    tok := fun l q r hr => by
      rw [getTok_setTok _ _ _ _ _ _ hh, setTok_length]
      dsimp only at hr
      split at hr
      · rename_i he; cases hr; rw [if_pos he]; exact ⟨rfl, he.1 ▸ hh⟩
      · rename_i he; rw [if_neg he]; exact hI.tok l q r hr
    tokn := fun l q hr => by
      rw [getTok_setTok _ _ _ _ _ _ hh]
      dsimp only at hr
      split at hr
      · cases hr
      · rename_i he; rw [if_neg he]; exact hI.tokn l q hr
    tkb := fun l q r2 hr2 he2 => by
      dsimp only at hr2
      split at hr2
      · cases hr2
        exact ⟨cs', el, by rw [hb]; exact hcs', by omega, by rw [hb]; exact k3, fun o h1 h2 => by rw [hb]; exact k4 o (by omega) (by omega)⟩
      · rename_i hne2
        obtain ⟨cs2, el2, h1, h2, h3, h4⟩ := hI.tkb l q r2 hr2 he2
        refine ⟨cs2, el2, ?_, h2, h3, h4⟩
        rw [show w'.heap[r2.b]? = c.w.heap[r2.b]? from hoth _ fun e => hne2 (hI.tkinj _ _ _ _ _ _ hr hr2 hne he2 e.symm)]; exact h1
    tkinj := fun l1 p1 r1 l2 p2 r2 h1 h2 h3 h4 h5 => by
      dsimp only at h1 h2
      split at h1 <;> split at h2
      · rename_i e1 e2; exact ⟨e1.1.symm.trans e2.1, e1.2.symm.trans e2.2⟩
      · rename_i e1 _; cases h1
        obtain ⟨e3, e4⟩ := hI.tkinj _ _ _ _ _ _ hr h2 hne h4 (by omega)
        exact ⟨e1.1.symm.trans e3, e1.2.symm.trans e4⟩
      · rename_i _ e1; cases h2
        obtain ⟨e3, e4⟩ := hI.tkinj _ _ _ _ _ _ h1 hr h3 hne (by omega)
        exact ⟨e3.trans e1.1, e4.trans e1.2⟩
      · exact hI.tkinj _ _ _ _ _ _ h1 h2 h3 h4 h5
    dfw := fun d hd => by
      obtain ⟨h1, h2, h3⟩ := hI.dfw d hd
      exact ⟨by rw [show w'.heap[d]? = c.w.heap[d]? from hoth _ fun e => by subst e; rw [hcs] at h1; cases h1]; exact h1, h2, h3⟩
    dfn := hI.dfn }

/-! ### levels -/

theorem getObj_lt {s : St} {l i : Nat} {o : AObj} (h : getObj s l i = some o) : l < s.length := by
  unfold getObj at h
  cases hf : getFr s l with
  | none => simp [hf] at h
  | some f => exact getFr_lt hf

theorem Inv.lt {c : Cf} {s : St} (hI : Inv K c s) {l i b : Nat} (h : c.sg l i = some b) : l < s.length := by
  obtain ⟨o, ho⟩ := hI.dom _ _ _ h
  exact getObj_lt ho

theorem pur_low {l : Nat} {v : AV} (h : pur v = true) : low l v = true := by
  have key : ∀ (n : Nat) (v : AV), SizeOf.sizeOf v ≤ n → pur v = true → low l v = true := by
    intro n
    induction n with
    | zero => intro v hv; cases v <;> simp at hv
    | succ n ih =>
      intro v hv h
      have lst : ∀ c : List AV, SizeOf.sizeOf c ≤ n + 1 → purs c = true → lows l c = true := by
        intro c hc hp
        refine lows_of fun x hx => ih x ?_ (pures_mem hp x hx)
        have := List.sizeOf_lt_of_mem hx
        omega
      cases v <;> simp only [pur, Bool.false_eq_true] at h <;> simp only [low]
      case sl r t => cases t <;> simp [purTok] at h <;> rfl
      case fn f a b =>
        simp only [Bool.and_eq_true] at h
        simp at hv
        rw [lst a (by omega) h.1, lst b (by omega) h.2]; rfl
      case agg c => simp at hv; exact lst c (by omega) h
      case tup c => simp at hv; exact lst c (by omega) h
  exact key _ v (Nat.le_refl _) h

/-- What is told is of the frames there are. -/
theorem VR.low {c : Cf} {s : St} (hI : Inv K c s) {v : AV} {x : Value} (h : VR c.vw v x) : low (s.length - 1) v = true := by
  induction h with
  | sl rows t b o cap e f he ht hr hcap hfull hc hv hp hs ih =>
    cases t with
    | site l p g =>
      obtain ⟨_, r, hr, _⟩ := hs
      have := (hI.tok _ _ _ hr).2
      simp [Ab.low, lowTok]; omega
    | _ => rfl
  | slnil t h => rcases h with rfl | rfl | rfl <;> rfl
  | ptr l i o b h => have := hI.lt h; simp [Ab.low]; omega
  | os l i o n e b o' cap h ho hcap he => have := hI.lt h; simp [Ab.low]; omega
  | mp l i b h => have := hI.lt h; simp [Ab.low]; omega
  | yl l i b h => have := hI.lt h; simp [Ab.low]; omega
  | fn f first caps fc cc h1 h2 h3 h4 ih3 ih4 =>
    simp only [Ab.low, Bool.and_eq_true]
    exact ⟨lows_of fun v hv => by obtain ⟨j, hj, rfl⟩ := List.getElem_of_mem hv; exact ih3 j _ (List.getElem?_eq_getElem hj),
      lows_of fun v hv => by obtain ⟨j, hj, rfl⟩ := List.getElem_of_mem hv; exact ih4 j _ (List.getElem?_eq_getElem hj)⟩
  | agg cells cs h1 h2 h3 ih =>
    simp only [Ab.low]
    exact lows_of fun v hv => by obtain ⟨j, hj, rfl⟩ := List.getElem_of_mem hv; exact ih j _ (List.getElem?_eq_getElem hj)
  | tup cells cs h1 h2 ih =>
    simp only [Ab.low]
    exact lows_of fun v hv => by obtain ⟨j, hj, rfl⟩ := List.getElem_of_mem hv; exact ih j _ (List.getElem?_eq_getElem hj)
  | _ => rfl

/-- A frame is laid. -/
theorem inv_push {c : Cf} {s : St} (hI : Inv K c s) : Inv K c (⟨[], []⟩ :: s) := by
  have hobj : ∀ l i, getObj (⟨[], []⟩ :: s) l i = getObj s l i := by
    intro l i
    simp only [getObj, getFr]
    split
    · rename_i h; subst h; rw [getFr_none (Nat.le_refl _)]; rfl
    · rfl
  have htok : ∀ l p, getTok (⟨[], []⟩ :: s) l p = getTok s l p := by
    intro l p
    simp only [getTok, getFr]
    by_cases h : l = s.length
    · subst h; rw [getFr_none (Nat.le_refl _)]; simp [tokGet]
    · simp [h]
  exact { hI with
    obj := fun l i o h hd => hI.obj l i o (by rw [← hobj]; exact h) hd
    lowO := fun l i o h => hI.lowO l i o (by rw [← hobj]; exact h)
    free := fun l i n h => hI.free l i n (by rw [← hobj]; exact h)
    dom := fun l i b h => by rw [hobj]; exact hI.dom l i b h
    tok := fun l p r h => by rw [htok]; have := hI.tok l p r h; exact ⟨this.1, by simp; omega⟩
    tokn := fun l p h => by rw [htok]; exact hI.tokn l p h }

/-- What is of the levels below. -/
def Cf.below (c : Cf) (L : Nat) : Cf := { c with sg := fun l i => if l < L then c.sg l i else none, tk := fun l p => if l < L then c.tk l p else none }

theorem below_mine {c : Cf} {L b o : Nat} (h : (c.below L).mine b o) : c.mine b o := by
  rcases h with ⟨l, i, h⟩ | ⟨l, p, r, h, h2⟩ | h
  · simp only [Cf.below] at h
    split at h
    · exact .inl ⟨l, i, h⟩
    · cases h
  · simp only [Cf.below] at h
    split at h
    · exact .inr (.inl ⟨l, p, r, h, h2⟩)
    · cases h
  · exact .inr (.inr h)
theorem below_own {c : Cf} {L b o : Nat} (h : (c.below L).own b o) : c.own b o := by
  rcases h with h | h
  · exact .inl h
  · exact .inr (below_mine h)

theorem below_le {c : Cf} {L l : Nat} (h : l < L) : Le l c.vw (c.below L).vw where
  cell b o x hx ho := ⟨hx, fun hn => ho (below_own hn)⟩
  map b e k hb ho := ⟨hb, fun o hn => ho o (below_own hn)⟩
  sg l' i b hl hb := by simp only [Cf.below, Cf.vw]; rw [if_pos (by omega)]; exact hb
  tk l' p r hl hr := ⟨r, by simp only [Cf.below, Cf.vw]; rw [if_pos (by omega)]; exact hr, .inl rfl⟩

theorem OR.low {V V' : Vw} {l b : Nat} {o : AObj} (hL : Le l V V') (hb : V'.w.heap[b]? = V.w.heap[b]?) (hlo : Ab.lowO l o) (h : OR K V b o) : OR K V' b o := by
  cases o with
  | cells c =>
    obtain ⟨cs, el, h1, h2, h3, h4⟩ := h
    exact ⟨cs, el, by rw [hb]; exact h1, h2, fun j v hj => (h3 j v hj).le hL (hlo v (List.mem_of_getElem? hj)), h4⟩
  | map es =>
    obtain ⟨cs, el, h1, h2, h3⟩ := h
    exact ⟨cs, el, by rw [hb]; exact h1, h2, fun j k v hj => ⟨(h3 j k v hj).1.le hL (pur_low (h3 j k v hj).2.2), (h3 j k v hj).2.1.le hL (hlo (k, v) (List.mem_of_getElem? hj)), (h3 j k v hj).2.2⟩⟩
  | loop env h0 ps asg body r p =>
    obtain ⟨L, h1, h2, h3, h4, h5, h6, h7, h8, h9⟩ := h
    refine ⟨L, by rw [hb]; exact h1, h2, h3, h4, h5, fun t => (h6 t).le hL ?_, h7, h8, h9⟩
    exact hlo.1 t
  | dead => trivial
  | free n => trivial
  | got n =>
    obtain ⟨cs, el, h1, h2⟩ := h
    exact ⟨cs, el, by rw [hb]; exact h1, h2⟩

/-- A frame is struck. -/
theorem inv_pop {c : Cf} {f : Fr} {s : St} (hI : Inv K c (f :: s)) : Inv K (c.below s.length) s := by
  have hobj : ∀ l i o, getObj s l i = some o → l < s.length ∧ getObj (f :: s) l i = some o := by
    intro l i o h
    have hl := getObj_lt h
    refine ⟨hl, ?_⟩
    unfold getObj at *
    rw [getFr_cons_lt hl]; exact h
  have hsg : ∀ l i b, (c.below s.length).sg l i = some b → l < s.length ∧ c.sg l i = some b := by
    intro l i b h
    simp only [Cf.below] at h
    split at h
    · exact ⟨by assumption, h⟩
    · cases h
  have htk : ∀ l i r, (c.below s.length).tk l i = some r → l < s.length ∧ c.tk l i = some r := by
    intro l i b h
    simp only [Cf.below] at h
    split at h
    · exact ⟨by assumption, h⟩
    · cases h
  have htok : ∀ l p, l < s.length → getTok s l p = getTok (f :: s) l p := by
    intro l p hl
    simp only [getTok]
    rw [getFr_cons_lt hl]
  exact {
    obj := fun l i o h hd => by
      obtain ⟨hl, h1⟩ := hobj l i o h
      obtain ⟨b, h2, h3⟩ := hI.obj l i o h1 hd
      exact ⟨b, by simp only [Cf.below]; rw [if_pos hl]; exact h2, h3.low (below_le hl) rfl (hI.lowO l i o h1)⟩
    lowO := fun l i o h => hI.lowO l i o (hobj l i o h).2
    free := fun l i n h => by
      have := hI.free l i n (hobj l i _ h).2
      simp only [Cf.below]
      split
      · exact this
      · rfl
    dom := fun l i b h => by
      obtain ⟨hl, h1⟩ := hsg l i b h
      obtain ⟨o, h2⟩ := hI.dom l i b h1
      refine ⟨o, ?_⟩
      unfold getObj at *
      rw [getFr_cons_lt hl] at h2; exact h2
    inj := fun l i l' i' b h h' => hI.inj l i l' i' b (hsg _ _ _ h).2 (hsg _ _ _ h').2
    Xw := hI.Xw
    sgX := fun l i b o h => hI.sgX l i b o (hsg _ _ _ h).2
    sgw := fun l i b h => hI.sgw l i b (hsg _ _ _ h).2
    tok := fun l p r h => by
      obtain ⟨hl, h1⟩ := htk l p r h
      rw [htok l p hl]
      exact ⟨(hI.tok l p r h1).1, hl⟩
    tokn := fun l p h => by
      by_cases hl : l < s.length
      · rw [htok l p hl]
        simp only [Cf.below, if_pos hl] at h
        exact hI.tokn l p h
      · simp only [getTok]; rw [getFr_none (by omega)]
    tkb := fun l p r h he => by
      obtain ⟨cs, el, h1, h2, h3, h4⟩ := hI.tkb l p r (htk _ _ _ h).2 he
      exact ⟨cs, el, h1, h2, fun l i hx => h3 l i (hsg _ _ _ hx).2, h4⟩
    tkinj := fun l p r l' p' r' h h' => hI.tkinj l p r l' p' r' (htk _ _ _ h).2 (htk _ _ _ h').2
    dfw := fun d hd => by
      obtain ⟨h1, h2, h3⟩ := hI.dfw d hd
      exact ⟨h1, fun l i hx => h2 l i (hsg _ _ _ hx).2, h3⟩
    dfn := hI.dfn }

/-- Behind a frame that was laid and struck. -/
theorem extB_pop {c c' : Cf} {s : St} (hI : Inv K c s) (hE : ExtB c c') : ExtB c (c'.below s.length) where
  X := hE.X
  k1 := hE.k1
  k2 := hE.k2
  k3 := hE.k3
  ow b o hb h := hE.ow b o hb (below_mine h)
  sg l i b h := by simp only [Cf.below]; rw [if_pos (hI.lt h)]; exact hE.sg l i b h
  tk l p r h := by
    obtain ⟨r', h1, h2⟩ := hE.tk l p r h
    exact ⟨r', by simp only [Cf.below]; rw [if_pos (hI.tok _ _ _ h).2]; exact h1, h2⟩
  lp := hE.lp
  io := hE.io

theorem ext_pop {c c' : Cf} {s : St} (hI : Inv K c s) (hE : Ext c c') : Ext c (c'.below s.length) := ⟨extB_pop hI hE.toExtB, hE.df⟩
