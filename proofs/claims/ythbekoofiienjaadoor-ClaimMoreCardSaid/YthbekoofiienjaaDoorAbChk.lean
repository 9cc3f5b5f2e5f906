/-
  What is checked of an operation of the abstract machine against the program's: and that it then does, in memory, what it does abstractly.
-/
import Derived.Test.YthbekoofiienjaaDoorAbSlot
namespace Go.Ab
open Go

/-! ### what is checked -/

mutual
/-- Are two plain values alike? -/
def avEq : AV → AV → Bool
  | .int k n, .int k' n' => decide (k = k') && decide (n = n')
  | .bool a, .bool b => a == b
  | .str a, .str b => a == b
  | .nilP, .nilP => true
  | .nilM, .nilM => true
  | .nilF, .nilF => true
  | .nilI, .nilI => true
  | .sl [] .nil, .sl [] .nil => true
  | .agg l, .agg m => avEqs l m
  | _, _ => false
def avEqs : List AV → List AV → Bool
  | [], [] => true
  | a :: l, b :: m => avEq a b && avEqs l m
  | _, _ => false
end

mutual
theorem avEq_ok (a b : AV) (h : avEq a b = true) : a = b := by
  cases a with
  | int k n => cases b <;> simp [avEq] at h; obtain ⟨rfl, rfl⟩ := h; rfl
  | bool x => cases b <;> simp [avEq] at h; subst h; rfl
  | str x => cases b <;> simp [avEq] at h; subst h; rfl
  | nilP => cases b <;> simp [avEq] at h; rfl
  | nilM => cases b <;> simp [avEq] at h; rfl
  | nilF => cases b <;> simp [avEq] at h; rfl
  | nilI => cases b <;> simp [avEq] at h; rfl
  | sl r t =>
    unfold avEq at h
    split at h <;> simp_all
  | agg l => cases b <;> simp [avEq] at h; rw [avEqs_ok l _ h]
  | _ => simp [avEq] at h
theorem avEqs_ok (a b : List AV) (h : avEqs a b = true) : a = b := by
  cases a with
  | nil => cases b <;> simp_all [avEqs]
  | cons x l =>
    cases b with
    | nil => simp [avEqs] at h
    | cons y m =>
      simp only [avEqs, Bool.and_eq_true] at h
      rw [avEq_ok x y h.1, avEqs_ok l m h.2]
end

section
variable (T : Nat → Option TyI) (gl : List Nat)

def tk (t : Nat) : TK := match T t with | some i => i.k | none => .other
def szOK (t n : Nat) : Bool := match T t with | some i => i.size == n | none => false
def agOK (t n : Nat) (ag : Bool) : Bool := match T t with | some i => i.size == n && isAggK i.k == ag | none => false
def zOK (t : Nat) (z : List AV) : Bool := match T t with | some i => (match cellsOf i.z with | some l => avEqs l z | none => false) | none => false
def byOK (t n : Nat) : Bool := match T t with | some i => i.bytes == n | none => false

/-- What is compared, by its type. -/
def eqOK (guard : Nat → Bool) : EqK → Nat → Bool
  | .s .bool, t => match tk T t with | .bool => true | _ => false
  | .s .int, t => match tk T t with | .int _ => true | _ => false
  | .s .str, t => match tk T t with | .str => true | _ => false
  | .agg l, t => isAggK (tk T t) && !guard t && (match flatT T 50 t with | some l' => decide (l = l') | none => false)
  | .nil .sl, t => match tk T t with | .sl _ => true | _ => false
  | .nil .ptr, t => match tk T t with | .ptr _ => true | _ => false
  | .nil .map, t => match tk T t with | .map .. => true | _ => false
  | .nil .fn, t => match tk T t with | .fn => true | _ => false

def xsOK : List X → List Operand → Bool
  | [], [] => true
  | x :: l, y :: m => chkX gl x y && xsOK l m
  | _, _ => false
def oxOK : Option X → Option Operand → Bool
  | none, none => true
  | some x, some y => chkX gl x y
  | _, _ => false

def partsSt (pl : List (Nat × Nat)) : List (Nat × Nat × X) → List (Nat × Operand) → Bool
  | [], [] => true
  | (o, n, x) :: l, (i, y) :: m => decide (pl[i]? = some (o, n)) && chkX gl x y && partsSt pl l m
  | _, _ => false
def partsArr (e : Nat) : List (Nat × Nat × X) → List (Nat × Operand) → Bool
  | [], [] => true
  | (o, n, x) :: l, (i, y) :: m => (o == i * e) && (n == e) && chkX gl x y && partsArr e l m
  | _, _ => false
def partsSl : List (Nat × X) → List (Nat × Operand) → Bool
  | [], [] => true
  | (j, x) :: l, (i, y) :: m => (j == i) && chkX gl x y && partsSl l m
  | _, _ => false

def k_mv (x : X) : Go.Op → Bool
  | .move y => chkX gl x y
  | .assign y => chkX gl x y
  | _ => false
def k_pick (c a b : X) : Go.Op → Bool
  | .pick c' a' b' => chkX gl c c' && chkX gl a a' && chkX gl b b'
  | _ => false
def k_alloc (z : List AV) : Go.Op → Bool
  | .alloc t => zOK T t z
  | _ => false
def k_box (x : X) : Go.Op → Bool
  | .box _ y => chkX gl x y
  | _ => false
def k_build (z : List AV) (ps : List (Nat × Nat × X)) : Go.Op → Bool
  | .build t qs => zOK T t z && (match tk T t with
    | .st fs => (match placesT T fs with | some pl => partsSt gl pl ps qs.toList | none => false)
    | .arr _ e => (match T e with | some ie => partsArr gl ie.size ps qs.toList | none => false)
    | _ => false)
  | _ => false
def k_bsl (z : List AV) (n : Nat) (ps : List (Nat × X)) : Go.Op → Bool
  | .buildSlice t n' qs => (n == n') && (match tk T t with | .sl e => zOK T e z | _ => false) && decide (n * z.length ≤ 16777216) && decide (0 < n) && decide (0 < z.length) && partsSl gl ps qs.toList
  | _ => false
def k_nilfull : Go.Op → Bool
  | .buildSlice t 0 qs => qs.isEmpty && (match tk T t with | .sl e => (T e).isSome | _ => false)
  | _ => false
def k_load (n : Nat) (ag : Bool) (x : X) : Go.Op → Bool
  | .load t y => agOK T t n ag && chkX gl x y
  | _ => false
def k_store (n : Nat) (a x : X) : Go.Op → Bool
  | .store t b y => szOK T t n && chkX gl a b && chkX gl x y
  | _ => false
def k_bin (op : BinOp) (x y : X) : Go.Op → Bool
  | .binOp op' _ a b _ => decide (op = op') && chkX gl x a && chkX gl y b
  | _ => false
def k_eq (guard : Nat → Bool) (neg : Bool) (k : EqK) (x y : X) : Go.Op → Bool
  | .binOp op t a b _ => decide (op = if neg = true then .neq else .eql) && (match k with | .s .int => false | .s .str => false | _ => true) && eqOK T guard k t && chkX gl x a && chkX gl y b
  | _ => false
def k_not (x : X) : Go.Op → Bool
  | .unOp .not _ y => chkX gl x y
  | _ => false
def k_neg (x : X) : Go.Op → Bool
  | .unOp .neg _ y => chkX gl x y
  | _ => false
def k_cvt (c : Cvt) (x : X) : Go.Op → Bool
  | .convert s d y => (T s).isSome && (match c, tk T d with | .int k, .int k' => decide (k = k') | .str, .str => true | .rune, .str => true | _, _ => false) && chkX gl x y
  | _ => false
def k_mkfn (f : Nat) (first caps : List X) : Go.Op → Bool
  | .makeFunc (.func k) fs cs => (f % 1000 == k) && xsOK gl first fs.toList && xsOK gl caps cs.toList
  | _ => false
def k_mkmap : Go.Op → Bool
  | .makeMap _ none => true
  | _ => false
def k_mksl (z : List AV) (by' : Nat) (n c : X) : Go.Op → Bool
  | .makeSlice t a b => (match tk T t with | .sl e => zOK T e z && byOK T e by' | _ => false) && decide (0 < z.length) && decide (0 < by') && chkX gl n a && chkX gl c b
  | _ => false
def k_slice (e : Nat) (x : X) (lo hi mx : Option X) : Go.Op → Bool
  | .slice t y l h m => (match tk T t with | .sl el => szOK T el e | _ => false) && (!mx.isSome || hi.isSome) && chkX gl x y && oxOK gl lo l && oxOK gl hi h && oxOK gl mx m
  | _ => false
def k_slstr (x : X) (lo hi : Option X) : Go.Op → Bool
  | .slice t y l h none => (match tk T t with | .str => true | _ => false) && chkX gl x y && oxOK gl lo l && oxOK gl hi h
  | _ => false
def k_fad (off : Nat) (x : X) : Go.Op → Bool
  | .fieldAddr t y n => (match tk T t with | .st fs => (match fs[n]? with | some (ft, o) => (o == off) && (match T ft with | some i => i.size != 0 | none => false) | none => false) | _ => false) && chkX gl x y
  | _ => false
def k_field (off n : Nat) (ag : Bool) (x : X) : Go.Op → Bool
  | .field t y k => (match tk T t with | .st fs => (match fs[k]? with | some (ft, o) => (o == off) && agOK T ft n ag | none => false) | _ => false) && chkX gl x y
  | _ => false
def k_iad (e : Nat) (x i : X) : Go.Op → Bool
  | .indexAddr t y j => (match tk T t with | .sl el => szOK T el e | _ => false) && chkX gl x y && chkX gl i j
  | _ => false
def k_iarr (n e : Nat) (x i : X) : Go.Op → Bool
  | .indexAddr t y j => (match tk T t with | .arr n' el => (n == n') && szOK T el e | _ => false) && chkX gl x y && chkX gl i j
  | _ => false
def k_ixa (n e : Nat) (ag : Bool) (x i : X) : Go.Op → Bool
  | .index t y j => (match tk T t with | .arr n' el => (n == n') && agOK T el e ag | _ => false) && chkX gl x y && chkX gl i j
  | _ => false
def k_ixs (x i : X) : Go.Op → Bool
  | .index t y j => (match tk T t with | .str => true | _ => false) && chkX gl x y && chkX gl i j
  | _ => false
def k_lookup (guard : Nat → Bool) (kk : EqK) (z : AV) (ok : Bool) (m k : X) : Go.Op → Bool
  | .lookup t a b ok' => (match tk T t with | .map kt el => eqOK T guard kk kt && (match T el with | some ie => avEq ie.z z | none => false) | _ => false) && (ok == ok') && chkX gl m a && chkX gl k b
  | _ => false
def k_upd (guard : Nat → Bool) (kk : EqK) (m k v : X) : Go.Op → Bool
  | .mapUpdate t a b c => (match tk T t with | .map kt _ => eqOK T guard kk kt | _ => false) && chkX gl m a && chkX gl k b && chkX gl v c
  | .insert t a b c => (match tk T t with | .map kt _ => eqOK T guard kk kt | _ => false) && chkX gl m a && chkX gl k b && chkX gl v c
  | _ => false
def k_ext (x : X) (i : Nat) : Go.Op → Bool
  | .extract y j => (i == j) && chkX gl x y
  | _ => false
def k_call (f : X) (args : List X) : Go.Op → Bool
  | .call ⟨.value g, ys, _⟩ => chkX gl f g && xsOK gl args ys.toList
  | _ => false
def k_len (x : X) : Go.Op → Bool
  | .call ⟨.builtin .len, ys, ts⟩ => (match ys.toList, ts.toList with | [y], [t] => chkX gl x y && (match tk T t with | .sl _ => true | _ => false) | _, _ => false)
  | _ => false
def k_lens (x : X) : Go.Op → Bool
  | .call ⟨.builtin .len, ys, ts⟩ => (match ys.toList, ts.toList with | [y], [t] => chkX gl x y && (match tk T t with | .str => true | _ => false) | _, _ => false)
  | _ => false
def k_lenm (x : X) : Go.Op → Bool
  | .call ⟨.builtin .len, ys, ts⟩ => (match ys.toList, ts.toList with | [y], [t] => chkX gl x y && (match tk T t with | .map .. => true | _ => false) | _, _ => false)
  | _ => false
def k_lena (n : Nat) : Go.Op → Bool
  | .call ⟨.builtin .len, ys, ts⟩ => (match ys.toList, ts.toList with | [_], [t] => (match tk T t with | .arr n' _ => n == n' | .ptr t' => (match tk T t' with | .arr n' _ => n == n' | _ => false) | _ => false) | _, _ => false)
  | _ => false
def k_app (e by' : Nat) (x y : X) : Go.Op → Bool
  | .call ⟨.builtin .append, ys, ts⟩ => (match ys.toList, ts.toList with
    | [a, b], [t, u] => chkX gl x a && chkX gl y b && (match tk T t with | .sl el => szOK T el e && byOK T el by' | _ => false) && (match tk T u with | .int _ => false | .other => false | _ => true) && decide (0 < e) && decide (0 < by')
    | _, _ => false)
  | _ => false
def k_mn (x : X) (ys : List X) : Go.Op → Bool
  | .call ⟨.builtin .min, zs, _⟩ => xsOK gl (x :: ys) zs.toList
  | _ => false
def k_mx (x : X) (ys : List X) : Go.Op → Bool
  | .call ⟨.builtin .max, zs, _⟩ => xsOK gl (x :: ys) zs.toList
  | _ => false

def k_als (n : Nat) : Go.Op → Bool
  | .alloc t => szOK T t n
  | _ => false

def chkO (guard : Nat → Bool) (p : Go.Op) : O → Bool
  | .mv x => k_mv gl x p
  | .pick c a b => k_pick gl c a b p
  | .alloc z => k_alloc T z p
  | .box x => k_box gl x p
  | .build z ps => k_build T gl z ps p
  | .bsl z n ps => k_bsl T gl z n ps p
  | .bslo z n ps => k_bsl T gl z n ps p
  | .load n ag x => k_load T gl n ag x p
  | .store n a x => k_store T gl n a x p
  | .bin op x y => k_bin gl op x y p
  | .eq neg k x y => k_eq T gl guard neg k x y p
  | .not x => k_not gl x p
  | .neg x => k_neg gl x p
  | .cvt c x => k_cvt T gl c x p
  | .mkfn f first caps => k_mkfn gl f first caps p
  | .mkmap => k_mkmap p
  | .mksl z by' n c => k_mksl T gl z by' n c p
  | .slice e x lo hi mx => k_slice T gl e x lo hi mx p
  | .slstr x lo hi => k_slstr T gl x lo hi p
  | .nilfull => k_nilfull T p
  | .slarr .. => false
  | .fad off x => k_fad T gl off x p
  | .field off n ag x => k_field T gl off n ag x p
  | .iad e x i => k_iad T gl e x i p
  | .iarr n e x i => k_iarr T gl n e x i p
  | .ixa n e ag x i => k_ixa T gl n e ag x i p
  | .ixs x i => k_ixs T gl x i p
  | .lookup kk z ok m k => k_lookup T gl guard kk z ok m k p
  | .upd kk m k v => k_upd T gl guard kk m k v p
  | .ext x i => k_ext gl x i p
  | .call f args => k_call gl f args p
  | .pcall f args => k_call gl f args p
  | .callk f args _ => k_call gl f args p
  | .len x => k_len T gl x p
  | .lens x => k_lens T gl x p
  | .lenm x => k_lenm T gl x p
  | .lena n => k_lena T n p
  | .app _ e by' x y => k_app T gl e by' x y p
  | .appo e by' x y => k_app T gl e by' x y p
  | .mn x ys => k_mn gl x ys p
  | .mx x ys => k_mx gl x ys p
  | .copy .. => false
  | .als _ n => k_als T n p
  | .fst n a x => k_store T gl n a x p
end
end Go.Ab
