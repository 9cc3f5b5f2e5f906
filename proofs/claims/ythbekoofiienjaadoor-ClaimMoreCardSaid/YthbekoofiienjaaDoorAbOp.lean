/-
  The abstract machine's operations against Go's: what is checked of an operation, and that it then does in memory what it does abstractly.
-/
import Derived.Test.YthbekoofiienjaaDoorAbRel
import Derived.Laws.Sem
import Derived.Laws.Cells
import Derived.Maps.Own
import Derived.Laws.StructEq
import Derived.DeepKeys
import Derived.IntWalk
import Derived.Laws.Strings
namespace Go.Ab
open Go

/-! ### types -/

inductive TK where
  | bool | int (k : IntKind) | str | ptr (e : Nat) | sl (e : Nat) | arr (n e : Nat) | map (k e : Nat) | st (fs : List (Nat × Nat)) | fn | other
  deriving DecidableEq, Inhabited

structure TyI where
  k : TK
  size : Nat
  bytes : Nat
  z : AV
  deriving Inhabited

mutual
/-- A value without memory, told by an abstract one. -/
def chkV : AV → Value → Bool
  | .int k n, .int k' n' => decide (k = k') && decide (n = n')
  | .bool a, .bool b => a == b
  | .str l, .string s => l == s.data.toList
  | .nilP, .pointer none => true
  | .nilM, .map none => true
  | .nilF, .nilFunc => true
  | .nilI, .nilIface => true
  | .sl [] .nil, .slice none 0 0 => true
  | .agg l, .agg cs => chkVs l cs.toList && l.all oneCell
  | .tup l, .tuple cs => chkVs l cs.toList
  | _, _ => false
def chkVs : List AV → List Value → Bool
  | [], [] => true
  | a :: l, b :: m => chkV a b && chkVs l m
  | _, _ => false
end

mutual
theorem chkV_ok {V : Vw} (v : AV) (c : Value) (h : chkV v c = true) : VR V v c := by
  cases v with
  | int k n => cases c <;> simp [chkV] at h; obtain ⟨rfl, rfl⟩ := h; exact .int _ _
  | bool b => cases c <;> simp [chkV] at h; subst h; exact .bool _
  | str l =>
    cases c <;> simp [chkV] at h
    rename_i s
    subst h
    have : s = ⟨s.data.toList.toArray⟩ := by cases s; simp
    exact this ▸ .str _
  | nilP =>
    cases c with
    | pointer a => cases a with
      | none => exact .nilP
      | some _ => simp [chkV] at h
    | _ => simp [chkV] at h
  | nilM =>
    cases c with
    | map a => cases a with
      | none => exact .nilM
      | some _ => simp [chkV] at h
    | _ => simp [chkV] at h
  | nilF => cases c <;> simp [chkV] at h; exact .nilF
  | nilI => cases c <;> simp [chkV] at h; exact .nilI
  | sl r t =>
    unfold chkV at h
    split at h <;> simp_all
    exact .slnil _ (.inl rfl)
  | agg l =>
    cases c <;> simp [chkV] at h
    rename_i cs
    obtain ⟨h1, h2⟩ := h
    obtain ⟨h3, h4⟩ := chkVs_ok (V := V) l _ h1
    exact .agg l cs (by simpa using h3) (fun j v hj => by simpa using h4 j v hj) h2
  | tup l =>
    cases c <;> simp [chkV] at h
    rename_i cs
    obtain ⟨h3, h4⟩ := chkVs_ok (V := V) l _ h
    exact .tup l cs (by simpa using h3) (fun j v hj => by simpa using h4 j v hj)
  | _ => simp [chkV] at h
theorem chkVs_ok {V : Vw} (l : List AV) (m : List Value) (h : chkVs l m = true) : l.length = m.length ∧ ∀ j v, l[j]? = some v → VR V v (m.toArray.getD j undef) := by
  cases l with
  | nil => cases m <;> simp_all [chkVs]
  | cons a l =>
    cases m with
    | nil => simp [chkVs] at h
    | cons b m =>
      simp only [chkVs, Bool.and_eq_true] at h
      obtain ⟨h1, h2⟩ := chkVs_ok (V := V) l m h.2
      refine ⟨by simp [h1], fun j v hj => ?_⟩
      cases j with
      | zero => simp at hj; subst hj; simpa using chkV_ok (V := V) a b h.1
      | succ j => simp at hj; simpa using h2 j v hj
end

def tkOK : TK → TypeDesc → Bool
  | .bool, .bool => true
  | .int k, .int k' => decide (k = k')
  | .str, .string => true
  | .ptr e, .pointer e' => e == e'
  | .sl e, .slice e' => e == e'
  | .arr n e, .array n' e' => n == n' && e == e'
  | .map k e, .map k' e' => k == k' && e == e'
  | .st fs, .struct fs' => decide (fs = fs'.toList.map fun f => (f.type, f.offset)) && fs'.toList.all fun f => f.name != "_"
  | .fn, .func .. => true
  | _, _ => false

/-- What the table says of a type is so. -/
structure TyOK (P : Program) (t : Nat) (i : TyI) : Prop where
  und : ∃ d, P.underlying t = some d ∧ tkOK i.k d = true
  st : ∀ fs, i.k = .st fs → P.stoodInHeld t = false
  zs : ∃ l, cellsOf i.z = some l ∧ l.length = i.size
  info : ∃ j, P.info? t = some j ∧ j.size = i.size ∧ j.bytes = i.bytes ∧ ∃ z, j.zero = some z ∧ chkV i.z z = true

def okTy (P : Program) (t : Nat) (i : TyI) : Bool :=
  match P.underlying t, P.info? t with
  | some d, some j => tkOK i.k d && (j.size == i.size) && (j.bytes == i.bytes) && (match j.zero with | some z => chkV i.z z | none => false) && (match i.k with | .st _ => !P.stoodInHeld t | _ => true) && (match cellsOf i.z with | some l => l.length == i.size | none => false)
  | _, _ => false

theorem okTy_ok {P : Program} {t : Nat} {i : TyI} (h : okTy P t i = true) : TyOK P t i := by
  unfold okTy at h
  split at h
  · rename_i d j h1 h2
    simp only [Bool.and_eq_true, beq_iff_eq] at h
    obtain ⟨⟨⟨⟨⟨h3, h4⟩, h5⟩, h6⟩, h7⟩, h8⟩ := h
    split at h6
    · rename_i z hz
      refine ⟨⟨d, h1, h3⟩, fun fs hfs => by rw [hfs] at h7; simpa using h7, ?_, j, h2, h4, h5, z, hz, h6⟩
      split at h8
      · rename_i l hl; exact ⟨l, hl, by simpa using h8⟩
      · cases h8
    · cases h6
  · cases h

/-- The program, its functions, the types' table, the known variables. -/
structure Env0 where
  P : Program
  T : Nat → Option TyI
  G : Nat → List AV
  fs : Nat → Option F
  gl : List Nat

section
variable {P : Program} {T : Nat → Option TyI}

def TabOK (P : Program) (T : Nat → Option TyI) : Prop := ∀ t i, T t = some i → TyOK P t i

theorem run_und {t : Nat} {d : TypeDesc} (h : P.underlying t = some d) (w : World) : (underlying t).run P w = .ok d w := by
  simp [underlying, h]
theorem run_size {t : Nat} {j : TypeInfo} (h : P.info? t = some j) (w : World) : (sizeOf t).run P w = .ok j.size w := by
  simp [sizeOf, typeInfo, h]
theorem run_info {t : Nat} {j : TypeInfo} (h : P.info? t = some j) (w : World) : (typeInfo t).run P w = .ok j w := by
  simp [typeInfo, h]
theorem run_zero {t : Nat} {j : TypeInfo} {z : Value} (h : P.info? t = some j) (hz : j.zero = some z) (w : World) : (zeroValue t).run P w = .ok z w := by
  simp [zeroValue, typeInfo, h, hz]

def isAggK : TK → Bool
  | .st _ => true
  | .arr .. => true
  | _ => false

theorem TyOK.size {t : Nat} {i : TyI} (h : TyOK P t i) (w : World) : (sizeOf t).run P w = .ok i.size w := by
  obtain ⟨j, h1, h2, _⟩ := h.info
  rw [run_size h1, h2]
theorem TyOK.agg {t : Nat} {i : TyI} (h : TyOK P t i) (w : World) : (isAgg t).run P w = .ok (isAggK i.k) w := by
  obtain ⟨d, h1, h2⟩ := h.und
  simp only [isAgg, Sem.run_bind, run_und h1, Result.andThen_ok]
  cases hk : i.k <;> rw [hk] at h2 <;> cases d <;> simp [tkOK] at h2 <;> simp [isAggK]
end

/-! ### operands -/

def chkX (gl : List Nat) : X → Operand → Bool
  | .t n, .tmp m => n == m
  | .c v, .const c => chkV v c
  | .f n, .func m => n % 1000 == m
  | .g n, .global m => n == m && gl.contains n
  | _, _ => false

theorem chkX_ok {V : Vw} {G : Nat → List AV} {gl : List Nat} {e : Env} {a : Act} {x : X} {o : Operand} (h : chkX gl x o = true) (hE : ER V e a.tmps)
    (hG : ∀ g ∈ gl, VR V (.rp (G g)) (.pointer (some ⟨g, 0, none⟩))) : VR V (x.ev G e) (a.eval o) := by
  cases x with
  | t n => cases o <;> simp [chkX] at h; subst h; exact hE n
  | c v => cases o <;> simp [chkX] at h; exact chkV_ok v _ h
  | f n => cases o <;> simp [chkX] at h; subst h; exact .fn n [] [] #[] #[] rfl rfl (by simp) (by simp)
  | g n => cases o <;> simp [chkX] at h; obtain ⟨rfl, h⟩ := h; exact hG _ h

/-! ### operations that touch no memory -/

theorem fits_wrap {k : IntKind} {n : Int} (h : fits k n = true) : k.wrap n = n := by
  cases k <;> cases n <;> simp only [fits, Bool.false_eq_true] at h <;> have h' := Nat.le_of_ble_eq_true h
  · exact IntWalk.i32_in _ (by simp only [Int.ofNat_eq_natCast]; omega)
  · exact IntWalk.i32_in _ (by omega)
  · exact IntWalk.i64_in _ (by simp only [Int.ofNat_eq_natCast]; omega)
  · exact IntWalk.i64_in _ (by omega)
  · exact IntWalk.u8_in _ (by simp only [Int.ofNat_eq_natCast]; omega)

theorem wrp_eq (k : IntKind) (n : Int) : wrp k n = k.wrap n := by
  unfold wrp
  cases h : fits k n with
  | true => simp [fits_wrap h]
  | false => rfl

section
variable {P : Program} {w : World} {V : Vw}

theorem r_pick {c a b v : AV} {xc xa xb : Value} (h : pickAV c a b = some v) (hc : VR V c xc) (ha : VR V a xa) (hb : VR V b xb) :
    ∃ cv, (do pure (if ← asBool xc then xa else xb) : Sem Value).run P w = .ok cv w ∧ VR V v cv := by
  cases hc <;> simp [pickAV] at h
  subst h
  rename_i t
  cases t
  · exact ⟨xb, by simp [asBool], hb⟩
  · exact ⟨xa, by simp [asBool], ha⟩

theorem r_int {op : BinOp} {k : IntKind} {a b : Int} {v : AV} (h : intBin op k a b = some v) (hs1 : op ≠ .shl) (hs2 : op ≠ .shr) (t : TypeId) :
    ∃ cv, (binOp op t (.int k a) (.int k b)).run P w = .ok cv w ∧ VR V v cv := by
  cases op <;> simp [intBin] at h <;> (first | subst h | (obtain ⟨hb, rfl⟩ := h)) <;> simp [binOp, Op.intArith, Op.intDiv, Op.intBits, Op.intCmp, wrp_eq, *] <;> first | exact .int _ _ | exact .bool _

theorem bytesLess_eq (a b : List UInt8) : bytesLess a b = Op.bytesLess a b := by
  induction a generalizing b with
  | nil => cases b <;> rfl
  | cons x a ih => cases b with
    | nil => rfl
    | cons y b => simp [bytesLess, Op.bytesLess, ih]

theorem r_str {op : BinOp} {a b : List UInt8} {v : AV} (h : strBin op a b = some v) (t : TypeId) :
    ∃ cv, (binOp op t (.string ⟨a.toArray⟩) (.string ⟨b.toArray⟩)).run P w = .ok cv w ∧ VR V v cv := by
  cases op <;> simp [strBin] at h <;> (first | subst h | (obtain ⟨hb, rfl⟩ := h)) <;>
    simp [binOp, Op.stringOp, ByteArray.toList_mk, ← bytesLess_eq] <;> (try exact .bool _)
  have h1 : ¬ ((9223372036854775807 : Int) < (a.length : Int) + (b.length : Int)) := by omega
  have h2 : (⟨a.toArray⟩ : ByteArray) ++ ⟨b.toArray⟩ = ⟨(a ++ b).toArray⟩ := by
    apply ByteArray.ext; simp
  simp only [ByteArray.size, List.size_toArray, h2]
  refine ⟨.string ⟨(a ++ b).toArray⟩, ?_, .str _⟩
  exact if_neg h1

theorem r_bin {op : BinOp} {x y v : AV} {xv yv : Value} (h : binAV op x y = some v) (hx : VR V x xv) (hy : VR V y yv) (t : TypeId) (o1 o2 : Operand) :
    ∃ cv, (do eqGuard op t o1 o2 xv yv; binOp op t xv yv : Sem Value).run P w = .ok cv w ∧ VR V v cv := by
  cases hx <;> cases hy <;> simp [binAV] at h
  · rename_i k a k' b
    have hg : (eqGuard op t o1 o2 (.int k a) (.int k' b)).run P w = .ok () w := by
      unfold eqGuard; simp
    simp only [Sem.run_bind, hg, Result.andThen_ok]
    by_cases h1 : op = .shl
    · subst h1
      simp at h
      obtain ⟨hb, rfl⟩ := h
      exact ⟨.int k (wrp k (a * 2 ^ (min b.toNat k.bits))), by simp [binOp, Op.shift, wrp_eq, Int.not_lt.2 hb], .int _ _⟩
    · by_cases h2 : op = .shr
      · subst h2
        simp at h
        obtain ⟨hb, rfl⟩ := h
        exact ⟨.int k (a.fdiv (2 ^ (min b.toNat k.bits))), by simp [binOp, Op.shift, Int.not_lt.2 hb], .int _ _⟩
      · have h3 : (if k = k' then intBin op k a b else none) = some v := by
          cases op <;> simp at h1 h2 <;> simpa using h
        split at h3
        · rename_i hk; subst hk; exact r_int h3 h1 h2 t
        · cases h3
  · rename_i a b
    have hg : (eqGuard op t o1 o2 (.string ⟨a.toArray⟩) (.string ⟨b.toArray⟩)).run P w = .ok () w := by
      unfold eqGuard; simp
    simp only [Sem.run_bind, hg, Result.andThen_ok]
    exact r_str h t

theorem r_not {x v : AV} {xv : Value} (h : notAV x = some v) (hx : VR V x xv) : ∃ cv, (Op.unary .not xv).run P w = .ok cv w ∧ VR V v cv := by
  cases hx <;> simp [notAV] at h
  subst h
  exact ⟨_, by simp [Op.unary], .bool _⟩

theorem r_neg {x v : AV} {xv : Value} (h : negAV x = some v) (hx : VR V x xv) : ∃ cv, (Op.unary .neg xv).run P w = .ok cv w ∧ VR V v cv := by
  cases hx <;> simp [negAV] at h
  subst h
  rename_i k n
  exact ⟨.int k (k.wrap (0 - n)), by simp [Op.unary, Op.intArith], by rw [wrp_eq, Int.zero_sub]; exact .int _ _⟩

theorem r_ext {x v : AV} {xv : Value} {i : Nat} (h : extAV x i = some v) (hx : VR V x xv) : ∃ cv, (Instr.extract xv i).run P w = .ok cv w ∧ VR V v cv := by
  cases hx <;> simp [extAV] at h
  rename_i vs cs h1 h2
  have hlt : i < cs.size := by
    rcases Nat.lt_or_ge i vs.length with hl | hl
    · omega
    · rw [List.getElem?_eq_none hl] at h; cases h
  have := h2 i v h
  simp only [Array.getD, hlt, dite_true] at this
  exact ⟨cs[i], by simp [Instr.extract, hlt], this⟩

theorem agg_get {cells : List AV} {cs : Array Value} (h : VR V (.agg cells) (.agg cs)) : cells.length = cs.size ∧ (∀ j v, cells[j]? = some v → VR V v (cs.getD j Go.undef)) ∧ ∀ v ∈ cells, oneCell v = true := by
  cases h with
  | agg _ _ h1 h2 h3 => exact ⟨h1, h2, h3⟩

theorem getD_lt {cs : Array Value} {j : Nat} (h : j < cs.size) : cs.getD j undef = cs[j] := by simp [Array.getD, h]

/-- Some cells of an aggregate, as a part of it. -/
theorem r_part {cells : List AV} {cs : Array Value} {off n : Nat} {ag : Bool} {v : AV} {t : Nat} {i : TyI} (hT : TyOK P t i) (hn : i.size = n) (hag : isAggK i.k = ag)
    (h1 : cells.length = cs.size) (h2 : ∀ j v, cells[j]? = some v → VR V v (cs.getD j undef)) (h3 : ∀ v ∈ cells, oneCell v = true)
    (h : ofCells n ag (cells.drop off) = some v) : ∃ cv, (part t cs off).run P w = .ok cv w ∧ VR V v cv := by
  unfold part
  simp only [Sem.run_bind, hT.agg, Result.andThen_ok]
  unfold ofCells at h
  simp only [hag]
  cases ag with
  | true =>
    simp only [if_true] at h ⊢
    split at h
    · rename_i hle
      cases h
      simp only [Sem.run_bind, hT.size, Result.andThen_ok, Sem.run_pure, hn]
      refine ⟨_, rfl, .agg _ _ ?_ ?_ ?_⟩
      · simp at hle; simp; omega
      · intro j v hj
        rw [List.getElem?_take] at hj
        split at hj
        case isFalse => cases hj
        rename_i hjn
        rw [List.getElem?_drop] at hj
        have := h2 _ _ hj
        have hlt : off + j < cs.size := by
          rcases Nat.lt_or_ge (off + j) cells.length with hl | hl
          · omega
          · rw [List.getElem?_eq_none hl] at hj; cases hj
        rw [getD_lt hlt] at this
        rw [getD_lt (by simp; omega)]
        simpa using this
      · intro v hv; exact h3 v (List.mem_of_mem_drop (List.mem_of_mem_take hv))
    · cases h
  | false =>
    simp only [Bool.false_eq_true, if_false] at h ⊢
    rw [List.head?_drop] at h
    have hlt : off < cs.size := by
      rcases Nat.lt_or_ge off cells.length with hl | hl
      · omega
      · rw [List.getElem?_eq_none hl] at h; cases h
    have := h2 _ _ h
    rw [getD_lt hlt] at this
    exact ⟨cs[off], by simp [hlt], this⟩

theorem r_cvt_int {k : IntKind} {x v : AV} {xv : Value} {s d : Nat} {ds : TypeDesc} (hs : P.underlying s = some ds) (hd : P.underlying d = some (.int k))
    (h : cvtAV (.int k) x = some v) (hx : VR V x xv) : ∃ cv, (convert s d xv).run P w = .ok cv w ∧ VR V v cv := by
  cases hx <;> simp [cvtAV] at h
  subst h
  refine ⟨_, ?_, .int _ _⟩
  unfold convert
  simp only [Sem.run_bind, run_und hs, run_und hd, Result.andThen_ok]
  cases ds <;> simp [Conv.intToInt, wrp_eq]

theorem r_cvt_str {x v : AV} {xv : Value} {s d : Nat} {ds : TypeDesc} (hs : P.underlying s = some ds) (hd : P.underlying d = some .string)
    (h : cvtAV .str x = some v) (hx : VR V x xv) : ∃ cv, (convert s d xv).run P w = .ok cv w ∧ VR V v cv := by
  cases hx <;> simp [cvtAV] at h
  subst h
  refine ⟨_, ?_, .str _⟩
  unfold convert
  simp only [Sem.run_bind, run_und hs, run_und hd, Result.andThen_ok]
  cases ds <;> simp

theorem r_cvt_rune {x v : AV} {xv : Value} {s d : Nat} {ds : TypeDesc} (hs : P.underlying s = some ds) (hd : P.underlying d = some .string)
    (h : cvtAV .rune x = some v) (hx : VR V x xv) : ∃ cv, (convert s d xv).run P w = .ok cv w ∧ VR V v cv := by
  cases hx <;> simp [cvtAV] at h
  rename_i k n
  obtain ⟨⟨h1, h2⟩, rfl⟩ := h
  refine ⟨.string ⟨#[n.toNat.toUInt8]⟩, ?_, .str [_]⟩
  have hv : Utf8.valid n = true := by
    simp [Utf8.valid]; omega
  have : Utf8.encode n = ⟨#[n.toNat.toUInt8]⟩ := by
    unfold Utf8.encode
    simp only [hv, if_true]
    rw [if_pos (by omega)]
  unfold convert
  simp only [Sem.run_bind, run_und hs, run_und hd, Result.andThen_ok]
  cases ds <;> simp [Conv.intToString, this]

theorem r_bound {m n k : Nat} {code : BoundsCode} {x : AV} {xv : Value} (h : bound m x = some n) (hx : VR V x xv) (hm : m ≤ k) : (Instr.sliceBound xv k code).run P w = .ok n w ∧ n ≤ m := by
  cases hx <;> simp [bound] at h
  obtain ⟨⟨h1, h2⟩, rfl⟩ := h
  rename_i q i
  exact ⟨by simp [Instr.sliceBound, asIntOf, h1]; omega, by omega⟩

inductive RelO (V : Vw) : Option AV → Option Value → Prop
  | none : RelO V none none
  | some (v : AV) (c : Value) (h : VR V v c) : RelO V (some v) (some c)

theorem add_eq (b o n : Nat) : (⟨b, o, none⟩ : Addr).add n = ⟨b, o + n, none⟩ := by
  unfold Addr.add
  split
  · rename_i h; subst h; rfl
  · rfl

theorem r_bounds {isS : Bool} {len cap m h l : Nat} {lo hi mx : Option AV} {lo' hi' mx' : Option Value} (hcap : len ≤ cap) (hlo : RelO V lo lo') (hhi : RelO V hi hi') (hmx : RelO V mx mx')
    (hm : match mx with | some x => bound len x = some m | none => m = cap) (hh : (match mx with | some _ => optBound m m hi | none => optBound len len hi) = some h) (hl : optBound h 0 lo = some l)
    (hmh : mx.isSome = true → hi.isSome = true) :
    (Instr.sliceBounds isS len cap lo' hi' mx').run P w = .ok (l, h, m) w ∧ l ≤ h ∧ h ≤ len ∧ h ≤ m ∧ (mx.isSome = true → m ≤ len) := by
  unfold Instr.sliceBounds
  cases hmx with
  | none =>
    dsimp only at hm hh
    subst hm
    cases hhi with
    | none =>
      simp only [optBound, Option.some.injEq] at hh
      subst hh
      cases hlo with
      | none => simp only [optBound, Option.some.injEq] at hl; subst hl; simp; omega
      | some v c hv =>
        obtain ⟨h1, h2⟩ := r_bound (P := P) (w := w) (code := .sliceB) (k := len) hl hv (Nat.le_refl _)
        simp [h1]; omega
    | some v c hv =>
      have hb : bound len v = some h := hh
      obtain ⟨h1, h2⟩ := r_bound (P := P) (w := w) (code := if isS then .sliceAcap else .sliceAlen) (k := m) hb hv hcap
      cases hlo with
      | none => simp only [optBound, Option.some.injEq] at hl; subst hl; simp [h1]; omega
      | some v' c' hv' =>
        obtain ⟨h3, h4⟩ := r_bound (P := P) (w := w) (code := .sliceB) (k := h) hl hv' (Nat.le_refl _)
        simp [h1, h3]; omega
  | some x xc hx =>
    dsimp only at hm hh
    obtain ⟨h5, h6⟩ := r_bound (P := P) (w := w) (code := if isS then .slice3Acap else .slice3Alen) (k := cap) hm hx hcap
    cases hhi with
    | none => simp at hmh
    | some v c hv =>
      have hb : bound m v = some h := hh
      obtain ⟨h1, h2⟩ := r_bound (P := P) (w := w) (code := .slice3B) (k := m) hb hv (Nat.le_refl _)
      cases hlo with
      | none => simp only [optBound, Option.some.injEq] at hl; subst hl; simp [h5, h1]; omega
      | some v' c' hv' =>
        obtain ⟨h3, h4⟩ := r_bound (P := P) (w := w) (code := .slice3C) (k := h) hl hv' (Nat.le_refl _)
        simp [h5, h1, h3]; omega

/-- A part of a slice. -/
theorem r_sub {rows : List (List AV)} {t t' : Tok} {b o cap l h m e' : Nat} (hx : VR V (.sl rows t) (.slice (some ⟨b, o, none⟩) rows.length cap))
    (hl : l ≤ h) (hh : h ≤ rows.length) (hm : h ≤ m) (_ : m ≤ cap) (he' : headFit e' rows = true)
    (ht' : t' = .any ∨ (t' = .full ∧ m = h) ∨ (t' = t ∧ l = 0 ∧ h = rows.length ∧ m = cap)) :
    VR V (.sl ((rows.take h).drop l) t') (.slice (some (if m = l then ⟨b, o, none⟩ else (⟨b, o, none⟩ : Addr).add (l * e'))) (h - l) (m - l)) := by
  generalize hr : rows = rows' at hx
  generalize hlen : rows.length = len at hx
  cases hx with
  | sl rows t b o cap e f he ht hr2 hcap hfull hc hv hp hs =>
    subst hr
    have hlen2 : ((rows.take h).drop l).length = h - l := by simp; omega
    have hee : m ≠ l → h ≠ l → e' = e := by
      intro _ h2
      cases rows with
      | nil => simp at hh; omega
      | cons r rows => have := hr2 0 r (by simp); simp [headFit] at he'; omega
    have hget : ∀ i r, ((rows.take h).drop l)[i]? = some r → l + i < h ∧ rows[l + i]? = some r := by
      intro i r hi
      rw [List.getElem?_drop, List.getElem?_take] at hi
      split at hi
      · rename_i h1; exact ⟨h1, hi⟩
      · cases hi
    by_cases hz : h = l
    · -- nothing lies there
      have hnil : (rows.take h).drop l = [] := List.eq_nil_of_length_eq_zero (by omega)
      rw [hnil]
      have h0 : h - l = ([] : List (List AV)).length := by simp; omega
      rw [h0]
      have key : ∀ a : Addr, a.spot = none → VR V (.sl [] t') (.slice (some a) ([] : List (List AV)).length (m - l)) := by
        intro a ha
        obtain ⟨ab, ao, as⟩ := a
        simp only at ha; subst ha
        refine .sl [] t' ab ao (m - l) 1 (fun _ _ => Go.undef) (by omega) ?_ (by simp) (by simp) ?_ (by simp) (by simp) (by simp) ?_
        · rcases ht' with h | ⟨h, _⟩ | ⟨h, _⟩ <;> rw [h] <;> first | exact ht | simp
        · rcases ht' with h' | ⟨_, h'⟩ | ⟨h', h2, h3, h4⟩
          · rw [h']; simp
          · intro _; simp; omega
          · intro hf; have := hfull (h' ▸ hf); simp; omega
        · rcases ht' with h' | ⟨h', _⟩ | ⟨h', h2, h3, h4⟩
          · rw [h']; trivial
          · rw [h']; trivial
          · rw [h']
            cases t with
            | site l2 p g => obtain ⟨h5, _⟩ := hs; omega
            | _ => trivial
      split
      · exact key _ rfl
      · rw [add_eq]; exact key _ rfl
    · have hml : m ≠ l := by omega
      rw [if_neg hml, add_eq, hee hml hz, ← hlen2]
      refine .sl _ t' b (o + l * e) (m - l) e (fun i j => f (l + i) j) he ?_ ?_ ?_ ?_ ?_ ?_ ?_ ?_
      · rcases ht' with h | ⟨h, _⟩ | ⟨h, _⟩ <;> rw [h] <;> first | exact ht | simp
      · intro i r hi; exact hr2 _ r (hget i r hi).2
      · omega
      · rcases ht' with h' | ⟨_, h'⟩ | ⟨h', h2, h3, h4⟩
        · rw [h']; simp
        · intro _; omega
        · intro hf; have := hfull (h' ▸ hf); omega
      · intro i j hi hj
        have := hc (l + i) j (by omega) hj
        rw [show o + l * e + i * e + j = o + (l + i) * e + j by rw [Nat.add_mul]; omega]
        exact this
      · intro i r j v hi hj; exact hv _ r j v (hget i r hi).2 hj
      · intro i r hi; exact hp _ r (hget i r hi).2
      · rcases ht' with h' | ⟨h', _⟩ | ⟨h', h2, h3, h4⟩
        · rw [h']; trivial
        · rw [h']; trivial
        · rw [h']
          subst h2
          have e1 : (rows.take h).drop 0 = rows := by rw [List.drop_zero, List.take_of_length_le (by omega)]
          rw [e1, h4]
          simpa using hs

theorem extract_mk (l : List UInt8) (a b : Nat) : (ByteArray.mk l.toArray).extract a b = ⟨((l.take b).drop a).toArray⟩ := by
  apply ByteArray.ext
  rw [ByteArray.data_extract]
  apply Array.toList_inj.1
  simp [List.drop_take]

theorem r_slstr {x v : AV} {xv : Value} {lo hi : Option AV} {lo' hi' : Option Value} {t : Nat} (hT : P.underlying t = some .string)
    (h : slstrAV x lo hi = some v) (hx : VR V x xv) (hlo : RelO V lo lo') (hhi : RelO V hi hi') :
    ∃ cv, (Instr.slice t xv lo' hi' none).run P w = .ok cv w ∧ VR V v cv := by
  cases hx <;> simp only [slstrAV, reduceCtorEq] at h
  rename_i s
  simp only [Option.bind_eq_some_iff, Option.map_eq_some_iff] at h
  obtain ⟨hh, h1, l, h2, rfl⟩ := h
  obtain ⟨h3, _⟩ := r_bounds (P := P) (w := w) (isS := false) (len := s.length) (cap := s.length) (m := s.length) (Nat.le_refl _) hlo hhi .none rfl h1 h2 (by simp)
  refine ⟨_, ?_, .str _⟩
  unfold Instr.slice
  simp only [Sem.run_bind, run_und hT, Result.andThen_ok]
  simp only [ByteArray.size, List.size_toArray, Option.isSome_none, Bool.false_eq_true, if_false, Sem.run_bind, h3, Result.andThen_ok, extract_mk, Sem.run_pure]

theorem optIf {p : Prop} [Decidable p] {a : Addr} {f : Addr → Addr} : (if p then some a else (some a).map f) = some (if p then a else f a) := by split <;> rfl

theorem r_slice {e : Nat} {x v : AV} {xv : Value} {lo hi mx : Option AV} {lo' hi' mx' : Option Value} {t el : Nat} {ie : TyI} (hT : P.underlying t = some (.slice el))
    (hie : TyOK P el ie) (hsz : ie.size = e) (hmh : mx.isSome = true → hi.isSome = true)
    (h : sliceAV e x lo hi mx = some v) (hx : VR V x xv) (hlo : RelO V lo lo') (hhi : RelO V hi hi') (hmx : RelO V mx mx') :
    ∃ cv, (Instr.slice t xv lo' hi' mx').run P w = .ok cv w ∧ VR V v cv := by
  have run : ∀ (a : Option Addr) (len cap l h m : Nat), (Instr.sliceBounds true len cap lo' hi' mx').run P w = .ok (l, h, m) w →
      (Instr.slice t (.slice a len cap) lo' hi' mx').run P w = .ok (.slice (if m = l then a else a.map (·.add (l * e))) (h - l) (m - l)) w := by
    intro a len cap l h m hb
    unfold Instr.slice
    simp only [Sem.run_bind, run_und hT, Result.andThen_ok, hb, hie.size, hsz, Sem.run_pure]
  cases hx with
  | sl rows t b o cap e0 f he ht hr hcap hfull hc hv hp hs =>
    have hx : VR V (.sl rows t) (.slice (some ⟨b, o, none⟩) rows.length cap) := .sl rows t b o cap e0 f he ht hr hcap hfull hc hv hp hs
    simp only [sliceAV] at h
    split at h
    case isFalse => cases h
    rename_i hfit
    cases hmx with
    | some m mc hm =>
      simp only [Option.bind_eq_some_iff, Option.map_eq_some_iff] at h
      obtain ⟨m0, h0, hh, h1, l, h2, rfl⟩ := h
      obtain ⟨h3, h4, h5, h6, h7⟩ := r_bounds (P := P) (w := w) (isS := true) (len := rows.length) (cap := cap) (m := m0) hcap hlo hhi (.some m mc hm) h0 h1 h2 hmh
      have h8 := h7 rfl
      refine ⟨_, run _ _ _ _ _ _ h3, ?_⟩
      rw [optIf]
      exact r_sub (m := m0) hx h4 h5 h6 (by omega) hfit (by
        by_cases hq : m0 = hh <;> cases t <;> simp [hq] at ht ⊢)
    | none =>
      simp only [Option.bind_eq_some_iff, Option.map_eq_some_iff] at h
      obtain ⟨hh, h1, l, h2, rfl⟩ := h
      obtain ⟨h3, h4, h5, h6, h7⟩ := r_bounds (P := P) (w := w) (isS := true) (len := rows.length) (cap := cap) (m := cap) hcap hlo hhi .none rfl h1 h2 hmh
      refine ⟨_, run _ _ _ _ _ _ h3, ?_⟩
      rw [optIf]
      refine r_sub (m := cap) hx h4 h5 (by omega) (Nat.le_refl _) hfit ?_
      cases t with
      | nil => exact absurd rfl ht
      | any => dsimp only; split <;> simp
      | full =>
        dsimp only
        split
        · exact .inr (.inl ⟨rfl, by have := hfull rfl; omega⟩)
        · exact .inl rfl
      | site a b c =>
        dsimp only
        split
        · rename_i h; exact .inr (.inr ⟨rfl, h.1, h.2, rfl⟩)
        · exact .inl rfl
  | slnil t ht =>
    simp only [sliceAV] at h
    split at h
    case isFalse => cases h
    cases hmx with
    | some m mc hm =>
      simp only [Option.bind_eq_some_iff, Option.map_eq_some_iff] at h
      obtain ⟨m0, h0, hh, h1, l, h2, rfl⟩ := h
      obtain ⟨h3, h4, h5, h6, h7⟩ := r_bounds (P := P) (w := w) (isS := true) (len := 0) (cap := 0) (m := m0) (Nat.le_refl _) hlo hhi (.some m mc hm) h0 h1 h2 hmh
      have h8 := h7 rfl
      obtain rfl : hh = 0 := by omega
      obtain rfl : l = 0 := by omega
      obtain rfl : m0 = 0 := by omega
      refine ⟨_, run _ _ _ _ _ _ h3, ?_⟩
      simp only [if_true, List.take_nil, List.drop_nil]
      rcases ht with rfl | rfl | rfl <;> exact .slnil _ (by simp)
    | none =>
      simp only [Option.bind_eq_some_iff, Option.map_eq_some_iff] at h
      obtain ⟨hh, h1, l, h2, rfl⟩ := h
      obtain ⟨h3, h4, h5, h6, h7⟩ := r_bounds (P := P) (w := w) (isS := true) (len := 0) (cap := 0) (m := 0) (Nat.le_refl _) hlo hhi .none rfl h1 h2 hmh
      obtain rfl : hh = 0 := by omega
      obtain rfl : l = 0 := by omega
      refine ⟨_, run _ _ _ _ _ _ h3, ?_⟩
      simp only [if_true, List.take_nil, List.drop_nil]
      rcases ht with rfl | rfl | rfl <;> exact .slnil _ (by simp)
  | os l0 i0 o n e0 b o' cap hsg ho hcap he =>
    simp only [sliceAV] at h
    split at h
    case isFalse => cases h
    rename_i hee
    subst hee
    have fin : ∀ l h m, l ≤ h → h ≤ n → h ≤ m → VR V (.os l0 i0 (o + l * e) (h - l) e) (.slice (if m = l then some ⟨b, o', none⟩ else (some (⟨b, o', none⟩ : Addr)).map (·.add (l * e))) (h - l) (m - l)) := by
      intro l h m h1 h0 h2
      by_cases hml : m = l
      · rw [if_pos hml]
        exact .os l0 i0 _ _ e b _ _ hsg (.inl (by omega)) (by omega) he
      · rw [if_neg hml]
        simp only [Option.map_some, add_eq]
        refine .os l0 i0 _ _ e b _ _ hsg ?_ (by omega) he
        rcases ho with ho | ho
        · exact .inl (by omega)
        · exact .inr (by omega)
    cases hmx with
    | some m mc hm =>
      simp only [Option.bind_eq_some_iff, Option.map_eq_some_iff] at h
      obtain ⟨m0, h0, hh, h1, l, h2, rfl⟩ := h
      obtain ⟨h3, h4, h5, h6, h7⟩ := r_bounds (P := P) (w := w) (isS := true) (len := n) (cap := cap) (m := m0) hcap hlo hhi (.some m mc hm) h0 h1 h2 hmh
      exact ⟨_, run _ _ _ _ _ _ h3, fin l hh m0 h4 h5 h6⟩
    | none =>
      simp only [Option.bind_eq_some_iff, Option.map_eq_some_iff] at h
      obtain ⟨hh, h1, l, h2, rfl⟩ := h
      obtain ⟨h3, h4, h5, h6, h7⟩ := r_bounds (P := P) (w := w) (isS := true) (len := n) (cap := cap) (m := cap) hcap hlo hhi .none rfl h1 h2 hmh
      exact ⟨_, run _ _ _ _ _ _ h3, fin l hh cap h4 h5 h6⟩
  | _ => simp [sliceAV] at h

theorem r_fad {off : Nat} {x v : AV} {xv : Value} {t n : Nat} {fs : Array Field} {f : Field} {ie : TyI} (hT : P.underlying t = some (.struct fs)) (hf : fs[n]? = some f) (hie : TyOK P f.type ie) (hz : ie.size ≠ 0)
    (hoff : f.offset = off) (h : fadAV off x = some v) (hx : VR V x xv) : ∃ cv, (Instr.fieldAt t xv n).run P w = .ok cv w ∧ VR V v cv := by
  have run : ∀ b o, (Instr.fieldAt t (.pointer (some ⟨b, o, none⟩)) n).run P w = .ok (.pointer (some ⟨b, o + off, none⟩)) w := by
    intro b o
    unfold Instr.fieldAt
    simp only [Sem.run_bind, run_und hT, Result.andThen_ok, hf, Instr.sureAddr, Sem.run_pure, fieldPlace, hie.size, hz, if_false, add_eq, hoff]
  cases hx <;> simp only [fadAV, reduceCtorEq, Option.some.injEq] at h
  · rename_i cells b o g hc hv hp
    subst h
    refine ⟨_, run b o, .rp _ b _ (fun j => g (off + j)) ?_ ?_ ?_⟩
    · intro j hj
      have := hc (off + j) (by simp at hj; omega)
      rw [show o + off + j = o + (off + j) by omega]; exact this
    · intro j v hj; rw [List.getElem?_drop] at hj; exact hv _ v hj
    · exact ⟨pures_of fun v hv => pures_mem hp.1 v (List.mem_of_mem_drop hv), fun v hv => hp.2 v (List.mem_of_mem_drop hv)⟩
  · rename_i l i o b hsg
    subst h
    exact ⟨_, run b o, .ptr l i _ b hsg⟩

theorem r_field {off n : Nat} {ag : Bool} {x v : AV} {xv : Value} {t k : Nat} {fs : Array Field} {f : Field} {ie : TyI} (hT : P.underlying t = some (.struct fs)) (hf : fs[k]? = some f) (hie : TyOK P f.type ie)
    (hz : ie.size = n) (hag : isAggK ie.k = ag) (hoff : f.offset = off) (h : fieldAV off n ag x = some v) (hx : VR V x xv) : ∃ cv, (Instr.field t xv k).run P w = .ok cv w ∧ VR V v cv := by
  cases hx <;> simp only [fieldAV, reduceCtorEq] at h
  rename_i cells cs h1 h2 h3
  obtain ⟨cv, h4, h5⟩ := r_part (P := P) (w := w) (off := off) hie hz hag h1 h2 h3 h
  refine ⟨cv, ?_, h5⟩
  unfold Instr.field
  simp only [Sem.run_bind, run_und hT, Result.andThen_ok, hf, asAgg, Sem.run_pure, hoff, h4]

theorem r_iad {e : Nat} {x ix v : AV} {xv iv : Value} {t el : Nat} {ie : TyI} (hT : P.underlying t = some (.slice el)) (hie : TyOK P el ie) (hz : ie.size = e)
    (h : iadAV e x ix = some v) (hx : VR V x xv) (hi : VR V ix iv) : ∃ cv, (Instr.indexAt t xv iv).run P w = .ok cv w ∧ VR V v cv := by
  cases hi <;> simp only [iadAV, reduceCtorEq] at h
  rename_i q k
  split at h
  case isFalse => cases h
  rename_i hk
  have run : ∀ b o len cap, k < (len : Nat) → (Instr.indexAt t (.slice (some ⟨b, o, none⟩) len cap) (.int q k)).run P w = .ok (.pointer (some ⟨b, o + k.toNat * e, none⟩)) w := by
    intro b o len cap hlt
    unfold Instr.indexAt
    simp [Sem.run_bind, asIntOf, run_und hT, hie.size, hz, add_eq, hk, hlt]
  cases hx with
  | sl rows tk b o cap e0 f he ht hr hcap hfull hc hv hp hs =>
    simp only [Option.bind_eq_some_iff] at h
    obtain ⟨row, h1, h2⟩ := h
    split at h2
    case isFalse => cases h2
    rename_i hrl
    cases h2
    have hlt : k.toNat < rows.length := by
      rcases Nat.lt_or_ge k.toNat rows.length with hl | hl
      · exact hl
      · rw [List.getElem?_eq_none hl] at h1; cases h1
    have hee : e0 = e := by rw [← hr _ _ h1]; exact hrl
    subst hee
    refine ⟨_, run b o _ cap (by omega), .rp _ b _ (fun j => f k.toNat j) ?_ ?_ ?_⟩
    · intro j hj; exact hc _ j hlt (by omega)
    · intro j v hj; exact hv _ row j v h1 hj
    · exact hp _ row h1
  | slnil tk ht => simp at h
  | os l i o n e0 b o' cap hsg ho hcap he =>
    simp only at h
    split at h
    case isFalse => cases h
    rename_i hc
    cases h
    obtain ⟨hc1, rfl⟩ := hc
    rcases ho with ho | rfl
    · omega
    exact ⟨_, run b o' n cap (by omega), .ptr l i _ b hsg⟩
  | _ => simp at h

theorem r_iarr {n e : Nat} {x ix v : AV} {xv iv : Value} {t el : Nat} {ie : TyI} (hT : P.underlying t = some (.array n el)) (hie : TyOK P el ie) (hz : ie.size = e)
    (h : iarrAV n e x ix = some v) (hx : VR V x xv) (hi : VR V ix iv) : ∃ cv, (Instr.indexAt t xv iv).run P w = .ok cv w ∧ VR V v cv := by
  cases hi <;> simp only [iarrAV, reduceCtorEq] at h
  rename_i q k
  split at h
  case isFalse => cases h
  rename_i hk
  have run : ∀ b o, (Instr.indexAt t (.pointer (some ⟨b, o, none⟩)) (.int q k)).run P w = .ok (.pointer (some ⟨b, o + k.toNat * e, none⟩)) w := by
    intro b o
    unfold Instr.indexAt
    simp [Sem.run_bind, asIntOf, run_und hT, hie.size, hz, add_eq, hk, Instr.sureAddr]
  cases hx with
  | rp cells b o f hc hv hp =>
    simp only [Option.some.injEq] at h
    subst h
    refine ⟨_, run b o, .rp _ b _ (fun j => f (k.toNat * e + j)) ?_ ?_ ?_⟩
    · intro j hj
      have := hc (k.toNat * e + j) (by simp at hj; omega)
      rw [show o + k.toNat * e + j = o + (k.toNat * e + j) by omega]; exact this
    · intro j v hj; rw [List.getElem?_drop] at hj; exact hv _ v hj
    · exact ⟨pures_of fun v hv => pures_mem hp.1 v (List.mem_of_mem_drop hv), fun v hv => hp.2 v (List.mem_of_mem_drop hv)⟩
  | ptr l i o b hsg =>
    simp only [Option.some.injEq] at h
    subst h
    exact ⟨_, run b o, .ptr l i _ b hsg⟩
  | _ => simp at h

theorem r_ixa {n e : Nat} {ag : Bool} {x ix v : AV} {xv iv : Value} {t el : Nat} {ie : TyI} (hT : P.underlying t = some (.array n el)) (hie : TyOK P el ie) (hz : ie.size = e) (hag : isAggK ie.k = ag)
    (h : ixaAV n e ag x ix = some v) (hx : VR V x xv) (hi : VR V ix iv) : ∃ cv, (Instr.index t xv iv).run P w = .ok cv w ∧ VR V v cv := by
  cases hi <;> simp only [ixaAV, reduceCtorEq] at h
  rename_i q k
  cases hx <;> simp only [reduceCtorEq] at h
  rename_i cells cs h1 h2 h3
  split at h
  case isFalse => cases h
  rename_i hk
  obtain ⟨cv, h4, h5⟩ := r_part (P := P) (w := w) (off := k.toNat * e) hie hz hag h1 h2 h3 h
  refine ⟨cv, ?_, h5⟩
  unfold Instr.index
  simp [Sem.run_bind, asIntOf, run_und hT, hie.size, hz, hk, h4]

theorem r_ixs {x ix v : AV} {xv iv : Value} {t : Nat} (hT : P.underlying t = some .string)
    (h : ixsAV x ix = some v) (hx : VR V x xv) (hi : VR V ix iv) : ∃ cv, (Instr.index t xv iv).run P w = .ok cv w ∧ VR V v cv := by
  cases hi <;> simp only [ixsAV, reduceCtorEq] at h
  rename_i q k
  cases hx <;> simp only [reduceCtorEq] at h
  rename_i s
  split at h
  case isFalse => cases h
  rename_i hk
  simp only [Option.map_eq_some_iff] at h
  obtain ⟨b, hb, rfl⟩ := h
  refine ⟨_, ?_, .int _ _⟩
  have hlt : k.toNat < s.length := by
    rcases Nat.lt_or_ge k.toNat s.length with hl | hl
    · exact hl
    · rw [List.getElem?_eq_none hl] at hb; cases hb
  have : (ByteArray.mk s.toArray)[k.toNat]? = some b := by
    have h1 : k.toNat < (ByteArray.mk s.toArray).size := by simpa [ByteArray.size] using hlt
    rw [getElem?_pos (ByteArray.mk s.toArray) k.toNat h1]
    rw [List.getElem?_eq_getElem hlt] at hb
    exact congrArg some (Option.some.inj hb)
  unfold Instr.index
  simp [Sem.run_bind, asIntOf, run_und hT, hk, this]

theorem r_fold {f : AV → AV → Option AV} {g : Value → Value → Sem Value} (hf : ∀ x y z xv yv, f x y = some z → VR V x xv → VR V y yv → ∃ cv, (g xv yv).run P w = .ok cv w ∧ VR V z cv) :
    ∀ (ys : List AV) (yvs : List Value) (x v : AV) (xv : Value), foldAV f x ys = some v → VR V x xv → ys.length = yvs.length → (∀ j y, ys[j]? = some y → VR V y (yvs.getD j Go.undef)) →
      ∃ cv, (yvs.foldlM g xv).run P w = .ok cv w ∧ VR V v cv
  | [], yvs, x, v, xv, h, hx, hl, _ => by
    have : yvs = [] := by cases yvs <;> simp_all
    subst this
    cases x <;> simp [foldAV] at h
    subst h
    exact ⟨xv, by simp, hx⟩
  | y :: ys, yvs, x, v, xv, h, hx, hl, hy => by
    cases yvs with
    | nil => simp at hl
    | cons yv yvs =>
      simp only [foldAV, Option.bind_eq_some_iff] at h
      obtain ⟨z, h1, h2⟩ := h
      obtain ⟨cv, h3, h4⟩ := hf x y z xv yv h1 hx (by simpa using hy 0 y (by simp))
      obtain ⟨cv', h5, h6⟩ := r_fold hf ys yvs z v cv h2 h4 (by simpa using hl) (fun j y' hj => by simpa using hy (j + 1) y' (by simpa using hj))
      exact ⟨cv', by simp [h3, h5], h6⟩

theorem r_mn2 (x y z : AV) (xv yv : Value) (h : mnAV x y = some z) (hx : VR V x xv) (hy : VR V y yv) : ∃ cv, (Builtin.min2 xv yv).run P w = .ok cv w ∧ VR V z cv := by
  cases hx <;> cases hy <;> simp [mnAV] at h
  obtain ⟨rfl, rfl⟩ := h
  exact ⟨_, by simp [Builtin.min2], .int _ _⟩
theorem r_mx2 (x y z : AV) (xv yv : Value) (h : mxAV x y = some z) (hx : VR V x xv) (hy : VR V y yv) : ∃ cv, (Builtin.max2 xv yv).run P w = .ok cv w ∧ VR V z cv := by
  cases hx <;> cases hy <;> simp [mxAV] at h
  obtain ⟨rfl, rfl⟩ := h
  exact ⟨_, by simp [Builtin.max2], .int _ _⟩

theorem run_len_slice {t el : Nat} {ts : Array TypeId} {ty : TypeId} (hT : P.underlying t = some (.slice el)) (ht : ts[0]? = some t) (a : Option Addr) (n c : Nat) :
    (Builtin.len_ ts ty #[.slice a n c]).run P w = .ok (.int .i64 n) w := by
  unfold Builtin.len_
  simp [ht, run_und hT, goInt]
theorem run_len_string {t : Nat} {ts : Array TypeId} {ty : TypeId} (hT : P.underlying t = some .string) (ht : ts[0]? = some t) (s : ByteArray) :
    (Builtin.len_ ts ty #[.string s]).run P w = .ok (.int .i64 s.size) w := by
  unfold Builtin.len_
  simp [ht, run_und hT, goInt]
theorem run_len_arr {t n el : Nat} {ts : Array TypeId} {ty : TypeId} {x : Value} (hT : P.underlying t = some (.array n el)) (ht : ts[0]? = some t) :
    (Builtin.len_ ts ty #[x]).run P w = .ok (.int .i64 n) w := by
  unfold Builtin.len_
  simp [ht, run_und hT, goInt]
theorem run_len_parr {t t' n el : Nat} {ts : Array TypeId} {ty : TypeId} {x : Value} (hT : P.underlying t = some (.pointer t')) (hT' : P.underlying t' = some (.array n el)) (ht : ts[0]? = some t) :
    (Builtin.len_ ts ty #[x]).run P w = .ok (.int .i64 n) w := by
  unfold Builtin.len_
  simp [ht, run_und hT, run_und hT', goInt]

theorem r_len {x v : AV} {xv : Value} {t el : Nat} {ts : Array TypeId} {ty : TypeId} (hT : P.underlying t = some (.slice el)) (ht : ts[0]? = some t)
    (h : lenAV x = some v) (hx : VR V x xv) : ∃ cv, (Builtin.len_ ts ty #[xv]).run P w = .ok cv w ∧ VR V v cv := by
  cases hx <;> simp only [lenAV, reduceCtorEq, Option.some.injEq] at h
  all_goals
    subst h
    exact ⟨_, run_len_slice hT ht _ _ _, .int _ _⟩

theorem r_lens {x v : AV} {xv : Value} {t : Nat} {ts : Array TypeId} {ty : TypeId} (hT : P.underlying t = some .string) (ht : ts[0]? = some t)
    (h : lensAV x = some v) (hx : VR V x xv) : ∃ cv, (Builtin.len_ ts ty #[xv]).run P w = .ok cv w ∧ VR V v cv := by
  cases hx <;> simp only [lensAV, reduceCtorEq, Option.some.injEq] at h
  subst h
  exact ⟨_, run_len_string hT ht _, by simpa [ByteArray.size] using .int _ _⟩

/-! ### equality -/

/-- A type's cells, one kind each, where '==' compares all of them. -/
def flatF (rec : Nat → Option (List SK)) : List (Nat × Nat) → Nat → Option (List SK)
  | [], _ => some []
  | (t, o) :: r, k => if o = k then (rec t).bind fun l => (flatF rec r (k + l.length)).map (l ++ ·) else none
def flatT (T : Nat → Option TyI) : Nat → Nat → Option (List SK)
  | 0, _ => none
  | n + 1, t => (T t).bind fun i => ((match i.k with
    | .int _ => some [.int]
    | .bool => some [.bool]
    | .str => some [.str]
    | .st fs => flatF (flatT T n) fs 0
    | .arr m e => (flatT T n e).map fun l => (List.replicate m l).flatten
    | _ => none) : Option (List SK)).bind fun l => if i.size = l.length then some l else none

theorem eqL_append {l1 l2 : List SK} {a b : List AV} {r : Bool} (h : eqL (l1 ++ l2) a b = some r) (ha : l1.length ≤ a.length) (hb : l1.length ≤ b.length) :
    ∃ r1, eqL l1 (a.take l1.length) (b.take l1.length) = some r1 ∧ (r1 = true → eqL l2 (a.drop l1.length) (b.drop l1.length) = some r) ∧ (r1 = false → r = false) := by
  induction l1 generalizing a b with
  | nil => exact ⟨true, by simp [eqL], by simpa using h, by simp⟩
  | cons k l1 ih =>
    cases a with
    | nil => simp at ha
    | cons x a =>
      cases b with
      | nil => simp at hb
      | cons y b =>
        simp only [List.cons_append, eqL, Option.bind_eq_some_iff] at h
        obtain ⟨t, h1, h2⟩ := h
        simp only [List.length_cons, List.take_succ_cons, List.drop_succ_cons, eqL, h1, Option.bind_some]
        cases t with
        | false => simp at h2; exact ⟨false, by simp, by simp, fun _ => by simpa using h2⟩
        | true =>
          simp only [if_true] at h2 ⊢
          exact ih h2 (by simpa using ha) (by simpa using hb)

/-- The value of a type whose cells are told. -/
def Told (V : Vw) (ag : Bool) (cx : List AV) (x : Value) : Prop := if ag = true then VR V (.agg cx) x else ∃ v, cx = [v] ∧ VR V v x

theorem told_part {cells : List AV} {cs : Array Value} {off : Nat} {t : Nat} {i : TyI} (hT : TyOK P t i) (hs : isAggK i.k = false → i.size = 1)
    (h1 : cells.length = cs.size) (h2 : ∀ j v, cells[j]? = some v → VR V v (cs.getD j Go.undef)) (h3 : ∀ v ∈ cells, oneCell v = true)
    (hl : off + i.size ≤ cells.length) : ∃ cv, (part t cs off).run P w = .ok cv w ∧ Told V (isAggK i.k) ((cells.drop off).take i.size) cv := by
  cases hag : isAggK i.k with
  | true =>
    obtain ⟨cv, h4, h5⟩ := r_part (P := P) (w := w) (off := off) (n := i.size) (ag := true) (v := .agg ((cells.drop off).take i.size)) hT rfl hag h1 h2 h3 (by
      simp only [ofCells, if_true, List.length_drop]; rw [if_pos (by omega)])
    exact ⟨cv, h4, by simpa [Told] using h5⟩
  | false =>
    have hlt : off < cells.length := by have := hs hag; omega
    obtain ⟨cv, h4, h5⟩ := r_part (P := P) (w := w) (off := off) (n := i.size) (ag := false) (v := cells[off]) hT rfl hag h1 h2 h3 (by
      simp [ofCells, List.head?_drop, List.getElem?_eq_getElem hlt])
    refine ⟨cv, h4, ?_⟩
    simp only [Told, Bool.false_eq_true, if_false]
    exact ⟨cells[off], by rw [hs hag, List.drop_eq_getElem_cons hlt]; rfl, h5⟩

theorem r_scalar {k : SK} {a b : List AV} {x y : Value} {r : Bool} (h : eqL [k] a b = some r) (hx : Told V false a x) (hy : Told V false b y) :
    ∃ va vb, eqS k va vb = some r ∧ VR V va x ∧ VR V vb y := by
  obtain ⟨va, rfl, h1⟩ := hx
  obtain ⟨vb, rfl, h2⟩ := hy
  simp only [eqL, Option.bind_eq_some_iff] at h
  obtain ⟨t, h3, h4⟩ := h
  refine ⟨va, vb, ?_, h1, h2⟩
  cases t <;> simp_all

theorem eq_flat {T : Nat → Option TyI} (hTab : TabOK P T) : ∀ (n t : Nat) (l : List SK), flatT T n t = some l → ∀ (d : Nat), n ≤ d → ∀ (cx cy : List AV) (x y : Value) (r : Bool) (i : TyI), T t = some i →
    Told V (isAggK i.k) cx x → Told V (isAggK i.k) cy y → cx.length = l.length → cy.length = l.length → eqL l cx cy = some r → (Op.equalIn d t x y).run P w = .ok r w := by
  intro n
  induction n with
  | zero => intro t l h; simp [flatT] at h
  | succ n ih =>
    intro t l h d hd cx cy x y r i hi hx hy hlx hly he
    obtain ⟨d, rfl⟩ : ∃ m, d = m + 1 := ⟨d - 1, by omega⟩
    have hok := hTab t i hi
    obtain ⟨ds, hu, hk⟩ := hok.und
    simp only [flatT, hi, Option.bind_some, Option.bind_eq_some_iff] at h
    obtain ⟨l', h1, h2⟩ := h
    split at h2
    case isFalse => cases h2
    rename_i hsz
    cases h2
    have hsub : ∀ t' l', flatT T n t' = some l' → ∃ i', T t' = some i' ∧ i'.size = l'.length ∧ (isAggK i'.k = false → i'.size = 1) := by
      intro t' l' h'
      cases n with
      | zero => simp [flatT] at h'
      | succ n =>
        simp only [flatT, Option.bind_eq_some_iff] at h'
        obtain ⟨i', h3, l3, h4, h5⟩ := h'
        split at h5
        case isFalse => cases h5
        rename_i h6
        cases h5
        refine ⟨i', h3, h6, fun h7 => ?_⟩
        cases hik : i'.k <;> rw [hik] at h4 h7 <;> simp [isAggK] at h4 h7 <;> subst h4 <;> simpa using h6
    cases hik : i.k <;> rw [hik] at h1 hk hx hy <;> simp only [reduceCtorEq, Option.some.injEq, Option.map_eq_some_iff] at h1 <;> cases ds <;> simp [tkOK] at hk
    case bool.bool =>
      subst h1
      obtain ⟨va, vb, h3, h4, h5⟩ := r_scalar he hx hy
      cases h4 <;> cases h5 <;> simp [eqS] at h3
      subst h3
      exact run_equalIn_bool w d t _ _ hu
    case int.int =>
      subst h1
      obtain ⟨va, vb, h3, h4, h5⟩ := r_scalar he hx hy
      cases h4 <;> cases h5 <;> simp [eqS] at h3
      obtain ⟨rfl, rfl⟩ := h3
      exact run_equalIn_int w d t _ _ _ _ hu
    case str.string =>
      subst h1
      obtain ⟨va, vb, h3, h4, h5⟩ := r_scalar he hx hy
      cases h4 <;> cases h5 <;> simp [eqS] at h3
      subst h3
      rw [run_equalIn_string w d t _ _ hu, ByteArray.toList_mk, ByteArray.toList_mk]
    case st.struct fs fa =>
      simp only [Told, isAggK, if_true] at hx hy
      cases hx with
      | agg _ xs hx1 hx2 hx3 =>
        cases hy with
        | agg _ ys hy1 hy2 hy3 =>
          have hfo : P.fieldsOf t = fa := by simp [Program.fieldsOf, hu]
          rw [run_equalIn_struct w d t xs ys (by rw [hfo]; exact hu) (hok.st _ hik), hfo]
          obtain ⟨hk1, hk2⟩ := hk
          subst hk1
          have key : ∀ (fl : List Field) (k : Nat) (l : List SK) (r : Bool), (∀ f ∈ fl, f.name ≠ "_") → flatF (flatT T n) (fl.map fun f => (f.type, f.offset)) k = some l →
              k + l.length = cx.length → k + l.length = cy.length → eqL l (cx.drop k) (cy.drop k) = some r → (Op.eqFields d xs ys fl).run P w = .ok r w := by
            intro fl
            induction fl with
            | nil =>
              intro k l r _ h1 h2 h3 h4
              simp [flatF] at h1
              subst h1
              rw [List.drop_eq_nil_of_le (by simp at h2; omega), List.drop_eq_nil_of_le (by simp at h3; omega)] at h4
              simp [eqL] at h4
              subst h4
              simp [Op.eqFields]
            | cons f fl ihf =>
              intro k l r hnm h1 h2 h3 h4
              simp only [List.map_cons, flatF] at h1
              split at h1
              case isFalse => cases h1
              rename_i hoff
              simp only [Option.bind_eq_some_iff, Option.map_eq_some_iff] at h1
              obtain ⟨l1, h5, l2, h6, rfl⟩ := h1
              simp only [List.length_append] at h2 h3
              obtain ⟨i', hi', hs', hag'⟩ := hsub _ _ h5
              obtain ⟨a, ha1, ha2⟩ := told_part (P := P) (w := w) (off := k) (hTab _ _ hi') hag' hx1 hx2 hx3 (by omega)
              obtain ⟨b, hb1, hb2⟩ := told_part (P := P) (w := w) (off := k) (hTab _ _ hi') hag' hy1 hy2 hy3 (by omega)
              obtain ⟨r1, h7, h8, h9⟩ := eqL_append h4 (by simp; omega) (by simp; omega)
              rw [hs'] at ha2 hb2
              have h10 := ih _ _ h5 d (by omega) _ _ a b r1 i' hi' ha2 hb2 (by simp; omega) (by simp; omega) h7
              have hn := hnm f (by simp)
              simp only [Op.eqFields, hn, ne_eq, not_false_eq_true, if_true, Sem.run_bind, hoff, ha1, hb1, h10, Result.andThen_ok]
              cases r1 with
              | false => rw [h9 rfl]; simp
              | true =>
                have := h8 rfl
                rw [List.drop_drop, List.drop_drop] at this
                simpa using ihf (k + l1.length) l2 r (fun g hg => hnm g (by simp [hg])) h6 (by omega) (by omega) this
          exact key fa.toList 0 _ r (fun f hf => by obtain ⟨q, hq, rfl⟩ := List.getElem_of_mem hf; simpa using hk2 q (by simpa using hq)) h1 (by omega) (by omega) (by simpa using he)
    case arr.array m e m' e' =>
      obtain ⟨rfl, rfl⟩ := hk
      obtain ⟨l0, h3, rfl⟩ := h1
      simp only [Told, isAggK, if_true] at hx hy
      cases hx with
      | agg _ xs hx1 hx2 hx3 =>
        cases hy with
        | agg _ ys hy1 hy2 hy3 =>
          obtain ⟨i', hi', hs', hag'⟩ := hsub _ _ h3
          obtain ⟨j, hj, hj1, _⟩ := (hTab _ _ hi').info
          have hcells : P.cellsOf e = l0.length := by simp [Program.cellsOf, hj, hj1, hs']
          rw [run_equalIn_array w d xs ys hu hj, hcells]
          simp only [List.length_flatten, List.map_replicate, List.sum_replicate_nat] at hlx hly
          have key : ∀ (q k : Nat) (r : Bool), k + q = m → eqL (List.replicate q l0).flatten (cx.drop (k * l0.length)) (cy.drop (k * l0.length)) = some r →
              (Op.eqItems d e l0.length xs ys (List.range' k q)).run P w = .ok r w := by
            intro q
            induction q with
            | zero =>
              intro k r h1 h4
              have hkm : k = m := by omega
              subst hkm
              rw [List.drop_eq_nil_of_le (by omega), List.drop_eq_nil_of_le (by omega)] at h4
              simp [eqL] at h4
              subst h4
              simp [Op.eqItems]
            | succ q ihq =>
              intro k r h1 h4
              have hb : (k + 1) * l0.length ≤ m * l0.length := Nat.mul_le_mul_right _ (by omega)
              have hb' : (k + 1) * l0.length = k * l0.length + l0.length := by rw [Nat.add_mul]; omega
              obtain ⟨a, ha1, ha2⟩ := told_part (P := P) (w := w) (off := k * l0.length) (hTab _ _ hi') hag' hx1 hx2 hx3 (by omega)
              obtain ⟨b, hb1, hb2⟩ := told_part (P := P) (w := w) (off := k * l0.length) (hTab _ _ hi') hag' hy1 hy2 hy3 (by omega)
              rw [List.replicate_succ, List.flatten_cons] at h4
              obtain ⟨r1, h7, h8, h9⟩ := eqL_append h4 (by simp; omega) (by simp; omega)
              rw [hs'] at ha2 hb2
              have h10 := ih _ _ h3 d (by omega) _ _ a b r1 i' hi' ha2 hb2 (by simp; omega) (by simp; omega) h7
              simp only [List.range'_succ, Op.eqItems, Sem.run_bind, ha1, hb1, h10, Result.andThen_ok]
              cases r1 with
              | false => rw [h9 rfl]; simp
              | true =>
                have := h8 rfl
                rw [List.drop_drop, List.drop_drop, ← hb'] at this
                simpa using ihq (k + 1) r (by omega) this
          rw [List.range_eq_range']
          exact key m 0 r (by omega) (by simpa using he)

/-- What is compared, by its type. -/
inductive EqT (P : Program) (T : Nat → Option TyI) : EqK → Nat → Prop
  | bool (t : Nat) (h : P.underlying t = some .bool) : EqT P T (.s .bool) t
  | int (t : Nat) (k : IntKind) (h : P.underlying t = some (.int k)) : EqT P T (.s .int) t
  | str (t : Nat) (h : P.underlying t = some .string) : EqT P T (.s .str) t
  | agg (t n : Nat) (l : List SK) (i : TyI) (h : flatT T n t = some l) (hn : n ≤ 10000) (hi : T t = some i) (ha : isAggK i.k = true) (hg : P.eqGuardType P.depth t = false) : EqT P T (.agg l) t
  | sl (t e : Nat) (h : P.underlying t = some (.slice e)) : EqT P T (.nil .sl) t
  | ptr (t e : Nat) (h : P.underlying t = some (.pointer e)) : EqT P T (.nil .ptr) t
  | map (t k e : Nat) (h : P.underlying t = some (.map k e)) : EqT P T (.nil .map) t
  | fn (t : Nat) (a b : Array TypeId) (v : Bool) (h : P.underlying t = some (.func a b v)) : EqT P T (.nil .fn) t

theorem vr_nil {r : List (List AV)} {c : Value} (h : VR V (.sl r .nil) c) : r = [] ∧ c = .slice none 0 0 := by
  cases h with
  | slnil => exact ⟨rfl, rfl⟩
  | sl _ _ b o cap e f he ht => exact absurd rfl ht

theorem r_equal {T : Nat → Option TyI} (hTab : TabOK P T) {k : EqK} {t : Nat} (hk : EqT P T k t) {x y : AV} {xv yv : Value} {r : Bool} (h : eqK k x y = some r) (hx : VR V x xv) (hy : VR V y yv) :
    (Op.equal t xv yv).run P w = .ok r w := by
  unfold Op.equal Op.maxDepth
  suffices ∀ d, 9999 ≤ d → (Op.equalIn (d + 1) t xv yv).run P w = .ok r w from this 9999 (Nat.le_refl _)
  intro d hd
  cases hk with
  | bool _ h0 =>
    simp only [eqK] at h
    cases hx <;> cases hy <;> simp [eqS] at h
    subst h; exact run_equalIn_bool w d t _ _ h0
  | int _ q h0 =>
    simp only [eqK] at h
    cases hx <;> cases hy <;> simp [eqS] at h
    obtain ⟨rfl, rfl⟩ := h; exact run_equalIn_int w d t _ _ _ _ h0
  | str _ h0 =>
    simp only [eqK] at h
    cases hx <;> cases hy <;> simp [eqS] at h
    subst h; rw [run_equalIn_string w d t _ _ h0, ByteArray.toList_mk, ByteArray.toList_mk]
  | agg _ n l i h0 hn hi ha hg =>
    cases x <;> simp only [eqK, reduceCtorEq] at h
    cases y <;> simp only [reduceCtorEq] at h
    split at h
    case isFalse => cases h
    rename_i hl
    simp only [Bool.and_eq_true, beq_iff_eq] at hl
    exact eq_flat hTab n t l h0 (d + 1) (by omega) _ _ _ _ r i hi (by simpa [Told, ha] using hx) (by simpa [Told, ha] using hy) hl.1 hl.2 h
  | sl _ e h0 =>
    simp only [eqK] at h
    unfold eqN at h
    split at h <;> (try simp only [reduceCtorEq, Option.some.injEq] at h) <;> (try contradiction)
    · subst h; obtain ⟨_, rfl⟩ := vr_nil hx; obtain ⟨_, rfl⟩ := vr_nil hy; simp [Op.equalIn, run_und h0]
    · subst h; obtain ⟨_, rfl⟩ := vr_nil hy; cases hx; simp [Op.equalIn, run_und h0]
    · split at h
      · cases h
      · cases h; obtain ⟨_, rfl⟩ := vr_nil hy; cases hx; simp [Op.equalIn, run_und h0]
  | ptr _ e h0 =>
    simp only [eqK] at h
    cases hx <;> simp only [eqN, reduceCtorEq] at h <;> cases hy <;> simp only [reduceCtorEq, Option.some.injEq] at h <;> subst h <;> simp [Op.equalIn, run_und h0]
  | map _ a e h0 =>
    simp only [eqK] at h
    cases hx <;> simp only [eqN, reduceCtorEq] at h <;> cases hy <;> simp only [reduceCtorEq, Option.some.injEq] at h <;> subst h <;> simp [Op.equalIn, run_und h0]
  | fn _ a b v h0 =>
    simp only [eqK] at h
    cases hx <;> simp only [eqN, reduceCtorEq] at h <;> cases hy <;> simp only [reduceCtorEq, Option.some.injEq] at h <;> subst h <;> simp [Op.equalIn, run_und h0]

end
end Go.Ab
