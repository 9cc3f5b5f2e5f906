/-
  The abstract machine: Go's translated code, evaluated over values that hold no addresses (what is read only is a plain list; what a call owns lies in numbered frames). No theorem on Go's memory stands here.
-/
import GoSem.Core.Code
import GoSem.Core.View
namespace Go.Ab

/-- What is known of the room behind a slice: the nil slice; nothing; none (cap = len); the right to append, by its level, place and turn. -/
inductive Tok where
  | nil | any | full
  | site (l p g : Nat)
  deriving DecidableEq, Repr, Inhabited

/-- An abstract value. -/
inductive AV where
  | undef
  | int (k : IntKind) (n : Int)
  | bool (b : Bool)
  | str (s : List UInt8)
  | nilP | nilM | nilF | nilI
  | sl (rows : List (List AV)) (t : Tok)
  | rp (cells : List AV)
  | ptr (l i o : Nat)
  | os (l i o n e : Nat)
  | mp (l i : Nat)
  | pm (es : List (AV × AV))
  | fn (f : Nat) (first caps : List AV)
  | yl (l i : Nat)
  | agg (cells : List AV)
  | tup (vs : List AV)
  deriving Inhabited

/-- An operand. -/
inductive X where
  | t (n : Nat) | c (v : AV) | f (n : Nat) | g (n : Nat)
  deriving Inhabited

inductive Cvt where
  | int (k : IntKind) | str | rune
  deriving DecidableEq, Inhabited

/-- A scalar's kind, and what is compared by '==': a scalar, cells, or something against nil. -/
inductive SK where
  | int | bool | str
  deriving DecidableEq, Repr, Inhabited
inductive NK where
  | sl | ptr | map | fn
  deriving DecidableEq, Repr, Inhabited
inductive EqK where
  | s (k : SK) | agg (l : List SK) | nil (k : NK)
  deriving DecidableEq, Repr, Inhabited

/-- An operation, its types' sizes laid open. -/
inductive O where
  | mv (x : X)
  | pick (c a b : X)
  | alloc (z : List AV)
  | box (x : X)
  | build (z : List AV) (ps : List (Nat × Nat × X))
  | bsl (z : List AV) (n : Nat) (ps : List (Nat × X))
  | bslo (z : List AV) (n : Nat) (ps : List (Nat × X))
  | load (n : Nat) (ag : Bool) (x : X)
  | store (n : Nat) (a x : X)
  | bin (op : BinOp) (x y : X)
  | eq (neg : Bool) (k : EqK) (x y : X)
  | not (x : X)
  | neg (x : X)
  | cvt (c : Cvt) (x : X)
  | mkfn (f : Nat) (first caps : List X)
  | mkmap
  | mksl (z : List AV) (bytes : Nat) (n c : X)
  | slice (e : Nat) (x : X) (lo hi mx : Option X)
  | slstr (x : X) (lo hi : Option X)
  | nilfull
  | slarr (n e : Nat) (x : X) (lo hi mx : Option X)
  | fad (off : Nat) (x : X)
  | field (off n : Nat) (ag : Bool) (x : X)
  | iad (e : Nat) (x i : X)
  | iarr (n e : Nat) (x i : X)
  | ixa (n e : Nat) (ag : Bool) (x i : X)
  | ixs (x i : X)
  | lookup (kk : EqK) (z : AV) (ok : Bool) (m k : X)
  | upd (kk : EqK) (m k v : X)
  | ext (x : X) (i : Nat)
  | call (f : X) (args : List X)
  | pcall (f : X) (args : List X)
  | callk (f : X) (args : List X) (ks : List Nat)
  | len (x : X)
  | lens (x : X)
  | lenm (x : X)
  | lena (n : Nat)
  | app (p e bytes : Nat) (x y : X)
  | appo (e bytes : Nat) (x y : X)
  | mn (x : X) (ys : List X)
  | mx (x : X) (ys : List X)
  | copy (e : Nat) (x y : X)
  | als (k n : Nat)
  | fst (n : Nat) (a x : X)
  deriving Inhabited

/-- An operation with where its value goes and what guards it. -/
structure Op where
  d : Option Nat
  o : O
  g : Option (Nat × Bool) := none
  deriving Inhabited

inductive C where
  | skip
  | ops (l : List Op)
  | seq (a b : C)
  | cond (x : X) (a b : C)
  | block (n : Nat) (a : C)
  | loop (live : List Nat) (a : C)
  | range (f : X) (ps : List Nat) (asg body : C)
  | exit (n : Nat)
  | ret
  | rsv (ns : List Nat) (a : C)
  | scope (a : C)
  deriving Inhabited

inductive Ex where
  | nrm | exit (n : Nat) | ret
  deriving DecidableEq, Inhabited

/-- A result variable. -/
inductive RV where
  | tmp (t : Nat)
  | cell (t n : Nat) (ag : Bool)
  deriving Inhabited

/-- A function: its results, its body; does what it made go over to its caller's frame? (Function k of the table is the program's function k % 1000.) -/
structure F where
  res : List RV
  body : C
  mv : Bool := false
  np : Nat := 0
  deriving Inhabited

/-- What lies in a frame. -/
inductive AObj where
  | cells (l : List AV)
  | map (es : List (AV × AV))
  | loop (env : List (Nat × AV)) (h : Nat) (ps : List Nat) (asg body : C) (ready : Bool) (pend : Ex)
  | dead
  | free (n : Nat)
  | got (n : Nat)
  deriving Inhabited

def liveO : AObj → Bool
  | .dead => false
  | .free _ => false
  | _ => true

structure Fr where
  objs : List AObj
  toks : List (Nat × Nat × Nat)
  deriving Inhabited

abbrev St := List Fr
abbrev Env := List (Nat × AV)

/-! ### carrying out: 'k' is given a value laid open (for the kernel's sake; each of these is 'k' of the value) -/

def fNat {α : Type} (n : Nat) (k : Nat → α) : α := match n with | 0 => k 0 | m + 1 => k (Nat.succ m)
def fInt {α : Type} (n : Int) (k : Int → α) : α := match n with | .ofNat m => fNat m fun m => k (.ofNat m) | .negSucc m => fNat m fun m => k (.negSucc m)
def fBool {α : Type} (b : Bool) (k : Bool → α) : α := match b with | true => k true | false => k false
def fL {α β : Type} : List β → (List β → α) → α
  | [], k => k []
  | x :: l, k => fL l fun l => k (x :: l)
def fLL {α β : Type} : List (List β) → (List (List β) → α) → α
  | [], k => k []
  | x :: l, k => fL x fun x => fLL l fun l => k (x :: l)
def fTok {α : Type} (t : Tok) (k : Tok → α) : α := match t with
  | .nil => k .nil | .any => k .any | .full => k .full
  | .site l p g => fNat l fun l => fNat p fun p => fNat g fun g => k (.site l p g)
def fV {α : Type} (v : AV) (k : AV → α) : α := match v with
  | .int q n => fInt n fun n => k (.int q n)
  | .bool b => fBool b fun b => k (.bool b)
  | .str s => fL s fun s => k (.str s)
  | .sl r t => fLL r fun r => fTok t fun t => k (.sl r t)
  | .rp c => fL c fun c => k (.rp c)
  | .agg c => fL c fun c => k (.agg c)
  | .tup c => fL c fun c => k (.tup c)
  | .ptr l i o => fNat l fun l => fNat i fun i => fNat o fun o => k (.ptr l i o)
  | .os l i o n e => fNat l fun l => fNat i fun i => fNat o fun o => fNat n fun n => fNat e fun e => k (.os l i o n e)
  | .mp l i => fNat l fun l => fNat i fun i => k (.mp l i)
  | .fn f a b => fL a fun a => fL b fun b => k (.fn f a b)
  | v => k v
def fVs {α : Type} : List AV → (List AV → α) → α
  | [], k => k []
  | x :: l, k => fV x fun x => fVs l fun l => k (x :: l)
def fO {α : Type} (o : AObj) (k : AObj → α) : α := match o with
  | .cells l => fVs l fun l => k (.cells l)
  | .map es => fL es fun es => k (.map es)
  | o => k o

@[simp] theorem fNat_eq {α : Type} (n : Nat) (k : Nat → α) : fNat n k = k n := by cases n <;> rfl
@[simp] theorem fInt_eq {α : Type} (n : Int) (k : Int → α) : fInt n k = k n := by cases n <;> simp [fInt]
@[simp] theorem fBool_eq {α : Type} (n : Bool) (k : Bool → α) : fBool n k = k n := by cases n <;> rfl
@[simp] theorem fL_eq {α β : Type} (l : List β) (k : List β → α) : fL l k = k l := by
  induction l generalizing k with
  | nil => rfl
  | cons x l ih => simp [fL, ih]
@[simp] theorem fLL_eq {α β : Type} (l : List (List β)) (k : List (List β) → α) : fLL l k = k l := by
  induction l generalizing k with
  | nil => rfl
  | cons x l ih => simp [fLL, ih]
@[simp] theorem fTok_eq {α : Type} (t : Tok) (k : Tok → α) : fTok t k = k t := by cases t <;> simp [fTok]
@[simp] theorem fV_eq {α : Type} (v : AV) (k : AV → α) : fV v k = k v := by cases v <;> simp [fV]
@[simp] theorem fVs_eq {α : Type} (l : List AV) (k : List AV → α) : fVs l k = k l := by
  induction l generalizing k with
  | nil => rfl
  | cons x l ih => simp [fVs, ih]
@[simp] theorem fO_eq {α : Type} (o : AObj) (k : AObj → α) : fO o k = k o := by cases o <;> simp [fO]

/-! ### small functions -/

def Env.get : Env → Nat → AV
  | [], _ => .undef
  | (k, v) :: l, n => if Nat.beq k n = true then v else Env.get l n

def Env.put (e : Env) : Option Nat → AV → Env
  | some d, v => (d, v) :: e
  | none, _ => e

/-- The frame of a level (level 0 lies last). -/
def getFr : St → Nat → Option Fr
  | [], _ => none
  | f :: s, l => if l = s.length then some f else getFr s l

def modFr (g : Fr → Fr) : St → Nat → St
  | [], _ => []
  | f :: s, l => if l = s.length then g f :: s else f :: modFr g s l

def getO : List AObj → Nat → Option AObj
  | [], _ => none
  | o :: _, 0 => some o
  | _ :: l, n + 1 => getO l n
def getObj (s : St) (l i : Nat) : Option AObj := (getFr s l).bind fun f => getO f.objs i
def setO (i : Nat) (o : AObj) (f : Fr) : Fr := match f with | ⟨os, t⟩ => fO o fun o => fL (os.set i o) fun os => ⟨os, t⟩
def fSt {α : Type} : St → (St → α) → α
  | [], k => k []
  | ⟨os, t⟩ :: s, k => fSt s fun s => k (⟨os, t⟩ :: s)
def setObj (s : St) (l i : Nat) (o : AObj) : St := modFr (setO i o) s l

/-- A new object in the uppermost frame. -/
def newObj : St → AObj → Option (Nat × Nat × St)
  | [], _ => none
  | ⟨os, t⟩ :: s, o => fNat s.length fun n => fNat os.length fun i => fO o fun o => fL (os ++ [o]) fun os => some (n, i, ⟨os, t⟩ :: s)

@[simp] theorem fSt_eq {α : Type} (s : St) (k : St → α) : fSt s k = k s := by
  induction s generalizing k with
  | nil => rfl
  | cons f s ih => cases f; simp [fSt, ih]

def tokGet : List (Nat × Nat × Nat) → Nat → Nat × Nat
  | [], _ => (0, 0)
  | (q, x) :: l, p => if q = p then x else tokGet l p
def tokSet : List (Nat × Nat × Nat) → Nat → Nat × Nat → List (Nat × Nat × Nat)
  | [], p, x => [(p, x)]
  | (q, y) :: l, p, x => if q = p then (q, x) :: l else (q, y) :: tokSet l p x
def getTok (s : St) (l p : Nat) : Nat × Nat := match getFr s l with | some f => tokGet f.toks p | none => (0, 0)
def setTok (s : St) (l p : Nat) (x : Nat × Nat) : St := modFr (fun f => { f with toks := tokSet f.toks p x }) s l

def purTok : Tok → Bool
  | .site .. => false
  | _ => true

mutual
/-- Does a value hold nothing that is of a frame? -/
def pur : AV → Bool
  | .undef | .ptr .. | .os .. | .mp .. | .yl .. => false
  | .int .. | .bool _ | .str _ | .nilP | .nilM | .nilF | .nilI => true
  | .sl _ t => purTok t
  | .rp _ => true
  | .pm _ => true
  | .fn _ a b => purs a && purs b
  | .agg l => purs l
  | .tup l => purs l
def purs : List AV → Bool
  | [] => true
  | v :: l => pur v && purs l
end

def eraseTok : Tok → Tok
  | .site .. => .any
  | t => t

def clampTok (l : Nat) : Tok → Tok
  | .site l' p g => if l' ≤ l then .site l' p g else .any
  | t => t

mutual
/-- A value as it may be kept at a level: nothing of a frame above it; no right of one above it. -/
def clamp (l : Nat) : AV → Option AV
  | .undef => none
  | .int k n => some (.int k n)
  | .bool b => some (.bool b)
  | .str s => some (.str s)
  | .nilP => some .nilP
  | .nilM => some .nilM
  | .nilF => some .nilF
  | .nilI => some .nilI
  | .sl r t => some (.sl r (clampTok l t))
  | .rp c => some (.rp c)
  | .pm c => some (.pm c)
  | .ptr l' i o => if l' ≤ l then some (.ptr l' i o) else none
  | .os l' i o n e => if l' ≤ l then some (.os l' i o n e) else none
  | .mp l' i => if l' ≤ l then some (.mp l' i) else none
  | .yl l' i => if l' ≤ l then some (.yl l' i) else none
  | .fn f a b => (clamps l a).bind fun a' => (clamps l b).map fun b' => .fn f a' b'
  | .agg c => (clamps l c).map .agg
  | .tup c => (clamps l c).map .tup
def clamps (l : Nat) : List AV → Option (List AV)
  | [] => some []
  | v :: r => (clamp l v).bind fun v' => (clamps l r).map (v' :: ·)
end

/-- A list cut into rows of e. -/
def rowsOf (e : Nat) : Nat → List AV → List (List AV)
  | 0, _ => []
  | n + 1, l => l.take e :: rowsOf e n (l.drop e)

mutual
/-- A value handed on: rights are dropped, slices that a frame owns are read. -/
def hand (s : St) : AV → Option AV
  | .sl r t => some (.sl r (eraseTok t))
  | .os l i o n e => match getObj s l i with
    | some (.cells c) => if (o + n * e ≤ c.length && purs ((c.drop o).take (n * e)) && 0 < e) = true then some (.sl (rowsOf e n (c.drop o)) .any) else none
    | _ => none
  | .fn f a b => (hands s a).bind fun a' => (hands s b).map fun b' => .fn f a' b'
  | .agg c => (hands s c).map .agg
  | .tup c => (hands s c).map .tup
  | .undef => none
  | v => some v
def hands (s : St) : List AV → Option (List AV)
  | [] => some []
  | v :: r => (hand s v).bind fun v' => (hands s r).map (v' :: ·)
end

mutual
/-- A value handed on with the frames: rights are dropped. -/
def erase : AV → AV
  | .sl r t => .sl r (eraseTok t)
  | .fn f a b => .fn f (erases a) (erases b)
  | .agg c => .agg (erases c)
  | .tup c => .tup (erases c)
  | v => v
def erases : List AV → List AV
  | [] => []
  | v :: r => erase v :: erases r
end

mutual
/-- Does a value hold a slice that a frame owns? -/
def borrows : AV → Bool
  | .os .. => true
  | .fn _ a b => borrowss a || borrowss b
  | .agg c => borrowss c
  | .tup c => borrowss c
  | _ => false
def borrowss : List AV → Bool
  | [] => false
  | v :: r => borrows v || borrowss r
end

mutual
/-- Does a value hold no slice and no pointer at all? -/
def flat : AV → Bool
  | .int .. | .bool _ | .str _ | .nilP | .nilM | .nilF | .nilI => true
  | .sl [] .nil => true
  | .agg l => flats l
  | .tup l => flats l
  | _ => false
def flats : List AV → Bool
  | [] => true
  | v :: l => flat v && flats l
end

mutual
/-- A value that leaves the frame of a level: what lies there is frozen. -/
def frz (s : St) (l : Nat) : Nat → AV → Option AV
  | _, .undef => none
  | _, .sl r t => some (.sl r (eraseTok t))
  | 0, _ => none
  | n + 1, .ptr l' i o => if l' < l then some (.ptr l' i o) else
    match getObj s l' i with
    | some (.cells c) => (frzs s l n (c.drop o)).bind fun c' => if purs c' = true then some (.rp c') else none
    | _ => none
  | n + 1, .os l' i o k e => if l' < l then some (.os l' i o k e) else
    match getObj s l' i with
    | some (.cells c) => if (o + k * e ≤ c.length && 0 < e) = true then (frzs s l n ((c.drop o).take (k * e))).bind fun c' => if purs c' = true then some (.sl (rowsOf e k c') .any) else none else none
    | _ => none
  | n + 1, .mp l' i => if l' < l then some (.mp l' i) else
    match getObj s l' i with
    | some (.map es) => (frze s l n es).map .pm
    | _ => none
  | _ + 1, .yl l' i => if l' < l then some (.yl l' i) else none
  | n + 1, .fn f a b => (frzs s l n a).bind fun a' => (frzs s l n b).map fun b' => .fn f a' b'
  | n + 1, .agg c => (frzs s l n c).map .agg
  | n + 1, .tup c => (frzs s l n c).map .tup
  | _ + 1, v => some v
def frzs (s : St) (l : Nat) : Nat → List AV → Option (List AV)
  | _, [] => some []
  | 0, _ => none
  | n + 1, v :: r => (frz s l n v).bind fun v' => (frzs s l n r).map (v' :: ·)
def frze (s : St) (l : Nat) : Nat → List (AV × AV) → Option (List (AV × AV))
  | _, [] => some []
  | 0, _ => none
  | n + 1, (k, v) :: r => (frz s l n v).bind fun v' => if (pur k && pur v') = true then (frze s l n r).map ((k, v') :: ·) else none
end

mutual
/-- A value that goes over, with all of its level l's frame, to the frame below, behind n objects. -/
def mvV (l n : Nat) : AV → Option AV
  | .undef => none
  | .sl r t => some (.sl r (eraseTok t))
  | .ptr l' i o => if l' < l then some (.ptr l' i o) else if l' = l then some (.ptr (l - 1) (n + i) o) else none
  | .os l' i o k e => if l' < l then some (.os l' i o k e) else if l' = l then some (.os (l - 1) (n + i) o k e) else none
  | .mp l' i => if l' < l then some (.mp l' i) else if l' = l then some (.mp (l - 1) (n + i)) else none
  | .yl l' i => if l' < l then some (.yl l' i) else none
  | .fn f a b => (mvVs l n a).bind fun a' => (mvVs l n b).map fun b' => .fn f a' b'
  | .agg c => (mvVs l n c).map .agg
  | .tup c => (mvVs l n c).map .tup
  | v => some v
def mvVs (l n : Nat) : List AV → Option (List AV)
  | [] => some []
  | v :: r => (mvV l n v).bind fun v' => (mvVs l n r).map (v' :: ·)
end

def mvE (l n : Nat) : List (AV × AV) → Option (List (AV × AV))
  | [] => some []
  | (k, v) :: r => (mvV l n v).bind fun v' => (mvE l n r).map ((k, v') :: ·)

def mvO (l n : Nat) : List AObj → Option (List AObj)
  | [] => some []
  | .cells c :: r => (mvVs l n c).bind fun c' => (mvO l n r).map (.cells c' :: ·)
  | .map es :: r => (mvE l n es).bind fun es' => (mvO l n r).map (.map es' :: ·)
  | _ :: r => (mvO l n r).map (.dead :: ·)

/-! ### operations on values -/

/-- A number brought into its kind: what fits stays as it is. -/
def fits : IntKind → Int → Bool
  | .i64, .ofNat n => Nat.ble n 9223372036854775807
  | .i64, .negSucc n => Nat.ble n 9223372036854775807
  | .u8, .ofNat n => Nat.ble n 255
  | .i32, .ofNat n => Nat.ble n 2147483647
  | .i32, .negSucc n => Nat.ble n 2147483647
  | _, _ => false
def wrp (k : IntKind) (n : Int) : Int := bif fits k n then n else k.wrap n

def X.ev (G : Nat → List AV) (e : Env) : X → AV
  | .t n => e.get n
  | .c v => v
  | .f n => .fn n [] []
  | .g n => .rp (G n)

def cellsOf : AV → Option (List AV)
  | .agg l => some l
  | .tup _ => none
  | .undef => none
  | v => some [v]

def oneCell : AV → Bool
  | .agg _ | .tup _ | .undef => false
  | _ => true

/-- The value of n cells. -/
def ofCells (n : Nat) (ag : Bool) (c : List AV) : Option AV :=
  if ag = true then (if n ≤ c.length then some (.agg (c.take n)) else none) else c.head?

def putAt (c : List AV) (o : Nat) (x : List AV) : List AV := c.take o ++ x ++ c.drop (o + x.length)

def fillAt : List AV → List (Nat × Nat × AV) → Option (List AV)
  | c, [] => some c
  | c, (o, n, v) :: r => (cellsOf v).bind fun x => if (x.length = n ∧ o + n ≤ c.length) then fillAt (putAt c o x) r else none

def intBin (op : BinOp) (k : IntKind) (a b : Int) : Option AV :=
  match op with
  | .add => some (.int k (wrp k (a + b)))
  | .sub => some (.int k (wrp k (a - b)))
  | .mul => some (.int k (wrp k (a * b)))
  | .quo => if b = 0 then none else some (.int k (wrp k (a.tdiv b)))
  | .rem => if b = 0 then none else some (.int k (a.tmod b))
  | .and => some (.int k (wrp k (BitVec.ofInt k.bits a &&& BitVec.ofInt k.bits b).toNat))
  | .or => some (.int k (wrp k (BitVec.ofInt k.bits a ||| BitVec.ofInt k.bits b).toNat))
  | .xor => some (.int k (wrp k (BitVec.ofInt k.bits a ^^^ BitVec.ofInt k.bits b).toNat))
  | .andNot => some (.int k (wrp k (BitVec.ofInt k.bits a &&& ~~~BitVec.ofInt k.bits b).toNat))
  | .eql => some (.bool (a == b))
  | .neq => some (.bool (a != b))
  | .lss => some (.bool (decide (a < b)))
  | .leq => some (.bool (decide (a ≤ b)))
  | .gtr => some (.bool (decide (a > b)))
  | .geq => some (.bool (decide (a ≥ b)))
  | _ => none

def bytesLess : List UInt8 → List UInt8 → Bool
  | _, [] => false
  | [], _ :: _ => true
  | a :: x, b :: y => a < b || (a == b && bytesLess x y)

def strBin (op : BinOp) (a b : List UInt8) : Option AV :=
  match op with
  | .add => if a.length + b.length ≤ 9223372036854775807 then some (.str (a ++ b)) else none
  | .eql => some (.bool (a == b))
  | .neq => some (.bool (!(a == b)))
  | .lss => some (.bool (bytesLess a b))
  | .leq => some (.bool (bytesLess a b || a == b))
  | .gtr => some (.bool (!(bytesLess a b || a == b)))
  | .geq => some (.bool (!bytesLess a b))
  | _ => none

def binAV (op : BinOp) : AV → AV → Option AV
  | .int k a, .int k' b =>
    match op with
    | .shl => if b < 0 then none else some (.int k (wrp k (a * 2 ^ (min b.toNat k.bits))))
    | .shr => if b < 0 then none else some (.int k (a.fdiv (2 ^ (min b.toNat k.bits))))
    | _ => if k = k' then intBin op k a b else none
  | .str a, .str b => strBin op a b
  | _, _ => none

/-- Equality of two scalars of a kind. -/
def eqS : SK → AV → AV → Option Bool
  | .int, .int k a, .int k' b => if k = k' then some (a == b) else none
  | .bool, .bool a, .bool b => some (a == b)
  | .str, .str a, .str b => some (a == b)
  | _, _, _ => none
def eqL : List SK → List AV → List AV → Option Bool
  | [], [], [] => some true
  | k :: l, a :: x, b :: y => (eqS k a b).bind fun t => if t = true then eqL l x y else some false
  | _, _, _ => none
/-- Something against nil. -/
def eqN : NK → AV → AV → Option Bool
  | .ptr, .nilP, .nilP => some true
  | .ptr, .nilP, .rp _ => some false
  | .ptr, .rp _, .nilP => some false
  | .ptr, .nilP, .ptr .. => some false
  | .ptr, .ptr .., .nilP => some false
  | .map, .nilM, .nilM => some true
  | .map, .nilM, .mp .. => some false
  | .map, .mp .., .nilM => some false
  | .map, .nilM, .pm _ => some false
  | .map, .pm _, .nilM => some false
  | .fn, .nilF, .nilF => some true
  | .fn, .nilF, .fn .. => some false
  | .fn, .fn .., .nilF => some false
  | .sl, .sl [] .nil, .sl [] .nil => some true
  | .sl, .sl (_ :: _) _, .sl [] .nil => some false
  | .sl, .os _ _ _ n _, .sl [] .nil => if n = 0 then none else some false
  | _, _, _ => none
def eqK : EqK → AV → AV → Option Bool
  | .s k, a, b => eqS k a b
  | .agg l, .agg x, .agg y => if (x.length == l.length && y.length == l.length) = true then eqL l x y else none
  | .agg _, _, _ => none
  | .nil k, a, b => eqN k a b

def pickAV : AV → AV → AV → Option AV
  | .bool b, x, y => some (if b = true then x else y)
  | _, _, _ => none

def notAV : AV → Option AV
  | .bool b => some (.bool (!b))
  | _ => none

def negAV : AV → Option AV
  | .int k n => some (.int k (wrp k (0 - n)))
  | _ => none

def cvtAV : Cvt → AV → Option AV
  | .int k, .int _ n => some (.int k (wrp k n))
  | .str, .str s => some (.str s)
  | .rune, .int _ n => if 0 ≤ n ∧ n < 128 then some (.str [n.toNat.toUInt8]) else none
  | _, _ => none

def bound (m : Nat) : AV → Option Nat
  | .int _ i => if 0 ≤ i ∧ i ≤ m then some i.toNat else none
  | _ => none

def optBound (m d : Nat) : Option AV → Option Nat
  | some v => bound m v
  | none => some d

/-- Is a row as long as rows are to be? -/
def headFit (e : Nat) : List (List AV) → Bool
  | [] => true
  | r :: _ => r.length == e

/-- x[lo:hi:mx]. -/
def sliceAV (e : Nat) (x : AV) (lo hi mx : Option AV) : Option AV :=
  match x with
  | .sl r t => if headFit e r = true then
    match mx with
    | some m => (bound r.length m).bind fun m => (optBound m m hi).bind fun h => (optBound h 0 lo).map fun l =>
        .sl ((r.take h).drop l) (match t with | .nil => .nil | _ => if m = h then .full else .any)
    | none => (optBound r.length r.length hi).bind fun h => (optBound h 0 lo).map fun l =>
        .sl ((r.take h).drop l) (match t with | .nil => .nil | .full => if h = r.length then .full else .any | t => if l = 0 ∧ h = r.length then t else .any) else none
  | .os lv i o n e' => if e = e' then
    match mx with
    | some m => (bound n m).bind fun m => (optBound m m hi).bind fun h => (optBound h 0 lo).map fun l => .os lv i (o + l * e) (h - l) e
    | none => (optBound n n hi).bind fun h => (optBound h 0 lo).map fun l => .os lv i (o + l * e) (h - l) e else none
  | _ => none

/-- s[lo:hi]. -/
def slstrAV (x : AV) (lo hi : Option AV) : Option AV :=
  match x with
  | .str s => (optBound s.length s.length hi).bind fun h => (optBound h 0 lo).map fun l => .str ((s.take h).drop l)
  | _ => none

/-- a[lo:hi:mx] of an array that lies behind a pointer. -/
def slarrAV (n e : Nat) (x : AV) (lo hi mx : Option AV) : Option AV :=
  match x with
  | .ptr lv i o =>
    match mx with
    | some m => (bound n m).bind fun m => (optBound m m hi).bind fun h => (optBound h 0 lo).map fun l => .os lv i (o + l * e) (h - l) e
    | none => (optBound n n hi).bind fun h => (optBound h 0 lo).map fun l => .os lv i (o + l * e) (h - l) e
  | .rp c =>
    match mx with
    | some m => (bound n m).bind fun m => (optBound m m hi).bind fun h => (optBound h 0 lo).bind fun l => if n * e ≤ c.length then some (.sl (rowsOf e (h - l) (c.drop (l * e))) .any) else none
    | none => (optBound n n hi).bind fun h => (optBound h 0 lo).bind fun l => if n * e ≤ c.length then some (.sl (rowsOf e (h - l) (c.drop (l * e))) .any) else none
  | _ => none

def fadAV (off : Nat) : AV → Option AV
  | .ptr l i o => some (.ptr l i (o + off))
  | .rp c => some (.rp (c.drop off))
  | _ => none

def fieldAV (off n : Nat) (ag : Bool) : AV → Option AV
  | .agg c => ofCells n ag (c.drop off)
  | _ => none

def iadAV (e : Nat) (x i : AV) : Option AV :=
  match i with
  | .int _ k => if 0 ≤ k then
      match x with
      | .sl r _ => (r[k.toNat]?).bind fun row => if row.length = e then some (.rp row) else none
      | .os l i o n e' => if k < n ∧ e = e' then some (.ptr l i (o + k.toNat * e)) else none
      | _ => none
    else none
  | _ => none

def iarrAV (n e : Nat) (x i : AV) : Option AV :=
  match i with
  | .int _ k => if 0 ≤ k ∧ k < n then
      match x with
      | .ptr l i o => some (.ptr l i (o + k.toNat * e))
      | .rp c => some (.rp (c.drop (k.toNat * e)))
      | _ => none
    else none
  | _ => none

def ixaAV (n e : Nat) (ag : Bool) (x i : AV) : Option AV :=
  match i, x with
  | .int _ k, .agg c => if 0 ≤ k ∧ k < n then ofCells e ag (c.drop (k.toNat * e)) else none
  | _, _ => none

def ixsAV (x i : AV) : Option AV :=
  match i, x with
  | .int _ k, .str s => if 0 ≤ k then (s[k.toNat]?).map fun b => .int .u8 b.toNat else none
  | _, _ => none

def extAV (x : AV) (i : Nat) : Option AV :=
  match x with
  | .tup l => l[i]?
  | _ => none

def mnAV : AV → AV → Option AV
  | .int k x, .int k' y => if k = k' then some (.int k (if y < x then y else x)) else none
  | _, _ => none
def mxAV : AV → AV → Option AV
  | .int k x, .int k' y => if k = k' then some (.int k (if y > x then y else x)) else none
  | _, _ => none

def foldAV (f : AV → AV → Option AV) : AV → List AV → Option AV
  | x, [] => (match x with | .int k n => some (.int k n) | _ => none)
  | x, y :: r => (f x y).bind fun z => foldAV f z r

/-- May this be a key? -/
def keyOK (kk : EqK) (k : AV) : Bool :=
  pur k && (match kk, k with
    | .s _, _ => true
    | .agg l, .agg c => c.length == l.length
    | _, _ => false)

def lookE (kk : EqK) (k : AV) : List (AV × AV) → Option (Option AV)
  | [] => some none
  | (k', v) :: r => (eqK kk k k').bind fun t => if t = true then some (some v) else lookE kk k r

def setE (kk : EqK) (k v : AV) : List (AV × AV) → Option (List (AV × AV))
  | [] => some [(k, v)]
  | (k', v') :: r => (eqK kk k k').bind fun t => if t = true then some ((k, v) :: r) else (setE kk k v r).map ((k', v') :: ·)

/-! ### operations on frames -/

/-- What stands behind a pointer. -/
def cellsAt (s : St) : AV → Option (List AV)
  | .rp c => some c
  | .ptr l i o => match getObj s l i with
    | some (.cells c) => some (c.drop o)
    | _ => none
  | _ => none

def storeAt (s : St) (n : Nat) (a x : AV) : Option St :=
  match a with
  | .ptr l i o => match getObj s l i with
    | some (.cells c) => (cellsOf x).bind fun xs => if (xs.length = n ∧ o + n ≤ c.length) then
        (if l + 1 = s.length then some (setObj s l i (.cells (putAt c o xs)))
         else (clamps l xs).map fun ys => setObj s l i (.cells (putAt c o ys))) else none
    | _ => none
  | _ => none

/-- Places are kept free; one of them is taken; what it is to hold is written. -/
def rsvAt (ns : List Nat) : St → Option St
  | [] => none
  | ⟨os, t⟩ :: s => some (⟨os ++ ns.map .free, t⟩ :: s)
def alsAt (k n : Nat) (s : St) : Option (AV × St) :=
  match s with
  | [] => none
  | ⟨os, _⟩ :: r => match getO os (os.length - 1 - k) with
    | some (.free m) => if m = n then fNat r.length fun l => fNat (os.length - 1 - k) fun i => some (.ptr l i 0, setObj s l i (.got n)) else none
    | _ => none
def fstAt (s : St) (n : Nat) (a x : AV) : Option St :=
  match a with
  | .ptr l i 0 => match getObj s l i with
    | some (.got m) => (cellsOf x).bind fun xs => if (xs.length = n ∧ m = n ∧ l + 1 = s.length) then some (setObj s l i (.cells xs)) else none
    | _ => none
  | _ => none

/-- The rows of a slice that is read. -/
def rowsAt (s : St) (e : Nat) : AV → Option (List (List AV))
  | .sl r _ => some r
  | .os l i o n e' => if e = e' then match getObj s l i with
    | some (.cells c) => if (o + n * e ≤ c.length && purs ((c.drop o).take (n * e)) && 0 < e) = true then some (rowsOf e n (c.drop o)) else none
    | _ => none else none
  | .str s => if e = 1 then some (s.map fun b => [AV.int .u8 b.toNat]) else none
  | _ => none

/-- append(x, y...) at the place p of the call whose level is h. -/
def appAt (h : Nat) (s : St) (p e bytes : Nat) (x y : AV) : Option (AV × St) :=
  match x with
  | .sl r t => (rowsAt s e y).bind fun ys =>
    if ys.isEmpty = true then some (.sl r t, s) else
    if (headFit e r && headFit e ys && 0 < e && (r.length + ys.length) * bytes ≤ 140737488355328 && ys.all purs) = true then
      match t with
      | .nil => some (.sl (r ++ ys) (.site h p ((getTok s h p).1 + 1)), setTok s h p ((getTok s h p).1 + 1, r.length + ys.length))
      | .full => some (.sl (r ++ ys) (.site h p ((getTok s h p).1 + 1)), setTok s h p ((getTok s h p).1 + 1, r.length + ys.length))
      | .site l' p' g' => if getTok s l' p' = (g', r.length) then
          some (.sl (r ++ ys) (.site l' p' g'), setTok s l' p' (g', r.length + ys.length))
          else none
      | .any => none
    else none
  | _ => none

/-- append(x, y...) into a new array that the call owns. -/
def appoAt (s : St) (e bytes : Nat) (x y : AV) : Option (AV × St) :=
  match x with
  | .sl r t => if (t = .nil ∨ t = .full) then (rowsAt s e y).bind fun ys =>
    if ys.isEmpty = true then some (.sl r t, s) else
    if (headFit e r && headFit e ys && 0 < e && (r.length + ys.length) * bytes ≤ 140737488355328) = true then
      (newObj s (.cells (r ++ ys).flatten)).map fun (l, i, s) => (.os l i 0 (r.length + ys.length) e, s)
    else none else none
  | _ => none

def mkslAt (s : St) (z : List AV) (bytes : Nat) : AV → AV → Option (AV × St)
  | .int k n, .int k' c => if (k = .i64 ∧ k' = .i64 ∧ 0 ≤ n ∧ n = c ∧ n * bytes ≤ 140737488355328) then
      (newObj s (.cells (List.replicate n.toNat z).flatten)).map fun (l, i, s) => (.os l i 0 n.toNat z.length, s)
    else none
  | _, _ => none

def mapAt (s : St) : AV → Option (List (AV × AV))
  | .nilM => some []
  | .pm es => some es
  | .mp l i => match getObj s l i with
    | some (.map es) => some es
    | _ => none
  | _ => none

def updAt (kk : EqK) (s : St) (m k v : AV) : Option St :=
  match m with
  | .mp l i => match getObj s l i with
    | some (.map es) => if keyOK kk k = true then (clamp l v).bind fun v' => (setE kk k v' es).map fun es' => setObj s l i (.map es') else none
    | _ => none
  | _ => none

def lenAV : AV → Option AV
  | .sl r _ => some (.int .i64 r.length)
  | .os _ _ _ n _ => some (.int .i64 n)
  | _ => none
def lensAV : AV → Option AV
  | .str l => some (.int .i64 l.length)
  | _ => none
def lenmAt (s : St) (v : AV) : Option AV := (mapAt s v).map fun es => .int .i64 es.length

def wantedOp (e : Env) : Option (Nat × Bool) → Option Bool
  | none => some true
  | some (t, b) => match e.get t with
    | .bool c => some (c == b)
    | .tup [] => some false
    | _ => none

/-- What calls a function. -/
abbrev Call := Nat → List AV → St → Option (AV × St)
/-- What runs a round of a range over a function: yield of the loop that lies at a level and place, on arguments. -/
abbrev Round := Nat → Nat → List AV → St → Option (AV × St)

/-- A function value is called. -/
def callV (cl : Call) (rd : Round) (s : St) (f : AV) (args : List AV) : Option (AV × St) :=
  match f with
  | .fn f first caps => cl f (erases (first ++ args) ++ caps) s
  | .yl l i => rd l i (erases args) s
  | _ => none

/-- A call that sees nothing of the frames. -/
def pcallV (cl : Call) (s : St) (f : AV) (args : List AV) : Option (AV × St) :=
  match f with
  | .fn f first caps => (hands s (first ++ args)).bind fun as =>
    if (purs as && purs caps) = true then (cl f (as ++ caps) []).bind fun (v, _) =>
      if (flat v || !borrowss (first ++ args)) = true then some (v, s) else none
    else none
  | _ => none

mutual
/-- Surely the same value? -/
def sameV : AV → AV → Bool
  | .int k a, .int k' b => decide (k = k') && a == b
  | .bool a, .bool b => a == b
  | .str a, .str b => a == b
  | .nilP, .nilP => true
  | .nilM, .nilM => true
  | .nilF, .nilF => true
  | .sl r t, .sl r' t' => decide (t = t') && sameVss r r'
  | .rp c, .rp c' => sameVs c c'
  | _, _ => false
def sameVs : List AV → List AV → Bool
  | [], [] => true
  | a :: x, b :: y => sameV a b && sameVs x y
  | _, _ => false
def sameVss : List (List AV) → List (List AV) → Bool
  | [], [] => true
  | a :: x, b :: y => sameVs a b && sameVss x y
  | _, _ => false
end

/-- Does what some temporaries point to stay as it was? -/
def kept (s s' : St) (e : Env) : List Nat → Bool
  | [] => true
  | t :: ts => (match cellsAt s (e.get t), cellsAt s' (e.get t) with
    | some a, some b => sameVs a b
    | _, _ => false) && kept s s' e ts

/-- One operation: its value (none: it yields nothing) and the frames behind it. -/
def evO (cl : Call) (rd : Round) (G : Nat → List AV) (h : Nat) (e : Env) (s : St) : O → Option (AV × St)
  | .mv x => some (x.ev G e, s)
  | .pick c a b => (pickAV (c.ev G e) (a.ev G e) (b.ev G e)).map (·, s)
  | .alloc z => (newObj s (.cells z)).map fun (l, i, s) => (.ptr l i 0, s)
  | .box x => (cellsOf (x.ev G e)).bind fun c => (newObj s (.cells c)).map fun (l, i, s) => (.ptr l i 0, s)
  | .build z ps => (fillAt z (ps.map fun (o, n, x) => (o, n, x.ev G e))).map fun c => (.agg c, s)
  | .bsl z n ps => (fillAt (List.replicate n z).flatten (ps.map fun (i, x) => (i * z.length, z.length, x.ev G e))).bind fun c =>
      if (purs (erases c) && 0 < z.length && 0 < n) = true then some (.sl (rowsOf z.length n (erases c)) .full, s) else none
  | .bslo z n ps => (fillAt (List.replicate n z).flatten (ps.map fun (i, x) => (i * z.length, z.length, x.ev G e))).bind fun c =>
      (newObj s (.cells c)).map fun (l, i, s) => (.os l i 0 n z.length, s)
  | .load n ag x => (cellsAt s (x.ev G e)).bind fun c => (ofCells n ag c).map (·, s)
  | .store n a x => (storeAt s n (a.ev G e) (x.ev G e)).map (.tup [], ·)
  | .bin op x y => (binAV op (x.ev G e) (y.ev G e)).map (·, s)
  | .eq neg k x y => (eqK k (x.ev G e) (y.ev G e)).map fun b => (.bool (if neg = true then !b else b), s)
  | .not x => (notAV (x.ev G e)).map (·, s)
  | .neg x => (negAV (x.ev G e)).map (·, s)
  | .cvt c x => (cvtAV c (x.ev G e)).map (·, s)
  | .mkfn f first caps => some (.fn f (first.map (·.ev G e)) (caps.map (·.ev G e)), s)
  | .mkmap => (newObj s (.map [])).map fun (l, i, s) => (.mp l i, s)
  | .mksl z bytes n c => mkslAt s z bytes (n.ev G e) (c.ev G e)
  | .slice es x lo hi mx => (sliceAV es (x.ev G e) (lo.map (·.ev G e)) (hi.map (·.ev G e)) (mx.map (·.ev G e))).map (·, s)
  | .slarr n es x lo hi mx => (slarrAV n es (x.ev G e) (lo.map (·.ev G e)) (hi.map (·.ev G e)) (mx.map (·.ev G e))).map (·, s)
  | .fad off x => (fadAV off (x.ev G e)).map (·, s)
  | .field off n ag x => (fieldAV off n ag (x.ev G e)).map (·, s)
  | .iad es x i => (iadAV es (x.ev G e) (i.ev G e)).map (·, s)
  | .iarr n es x i => (iarrAV n es (x.ev G e) (i.ev G e)).map (·, s)
  | .ixa n es ag x i => (ixaAV n es ag (x.ev G e) (i.ev G e)).map (·, s)
  | .ixs x i => (ixsAV (x.ev G e) (i.ev G e)).map (·, s)
  | .lookup kk z ok m k => (mapAt s (m.ev G e)).bind fun es => if keyOK kk (k.ev G e) = true then (lookE kk (k.ev G e) es).map fun r =>
      (if ok = true then .tup [r.getD z, .bool r.isSome] else r.getD z, s) else none
  | .upd kk m k v => (updAt kk s (m.ev G e) (k.ev G e) (v.ev G e)).map (.tup [], ·)
  | .ext x i => (extAV (x.ev G e) i).map (·, s)
  | .call f args => callV cl rd s (f.ev G e) (args.map (·.ev G e))
  | .pcall f args => pcallV cl s (f.ev G e) (args.map (·.ev G e))
  | .callk f args ks => (callV cl rd s (f.ev G e) (args.map (·.ev G e))).bind fun (v, s') => if kept s s' e ks = true then some (v, s') else none
  | .len x => (lenAV (x.ev G e)).map (·, s)
  | .lens x => (lensAV (x.ev G e)).map (·, s)
  | .lenm x => (lenmAt s (x.ev G e)).map (·, s)
  | .nilfull => some (.sl [] .full, s)
  | .slstr x lo hi => (slstrAV (x.ev G e) (lo.map (·.ev G e)) (hi.map (·.ev G e))).map (·, s)
  | .lena n => some (.int .i64 n, s)
  | .app p es bytes x y => appAt h s p es bytes (x.ev G e) (y.ev G e)
  | .appo es bytes x y => appoAt s es bytes (x.ev G e) (y.ev G e)
  | .mn x ys => (foldAV mnAV (x.ev G e) (ys.map (·.ev G e))).map (·, s)
  | .mx x ys => (foldAV mxAV (x.ev G e) (ys.map (·.ev G e))).map (·, s)
  | .copy _ _ _ => none
  | .als k n => alsAt k n s
  | .fst n a x => (fstAt s n (a.ev G e) (x.ev G e)).map (.tup [], ·)

def evOps (cl : Call) (rd : Round) (G : Nat → List AV) (h : Nat) : List Op → Env → St → Option (Env × St)
  | [], e, s => some (e, s)
  | o :: l, e, s => (wantedOp e o.g).bind fun w =>
    if w = true then (evO cl rd G h e s o.o).bind fun (v, s) => fV v fun v => fSt s fun s => evOps cl rd G h l (e.put o.d v) s
    else evOps cl rd G h l (e.put o.d (.tup [])) s

/-- The values that live on behind a round: nothing of the round's frame. -/
def keepLive (lv : Nat) (e : Env) : List Nat → Option Env
  | [] => some []
  | t :: l => match e.get t with
    | .undef => keepLive lv e l
    | v => (clamp lv v).bind fun v => (keepLive lv e l).map ((t, v) :: ·)

/-- Rounds of a loop, at most n. -/
def iter (f : Env → St → Option (Ex × Env × St)) : Nat → Env → St → Option (Ex × Env × St)
  | 0, _, _ => none
  | n + 1, e, s => (f e s).bind fun (x, e, s) => match x with
    | .nrm => iter f n e s
    | x => some (x, e, s)

/-- Code: n bounds a loop's rounds. -/
def evC (n : Nat) (cl : Call) (rd : Round) (G : Nat → List AV) (h : Nat) : C → Env → St → Option (Ex × Env × St)
  | .skip, e, s => some (.nrm, e, s)
  | .ops l, e, s => (evOps cl rd G h l e s).map fun (e, s) => (.nrm, e, s)
  | .seq a b, e, s => (evC n cl rd G h a e s).bind fun (x, e, s) => match x with
    | .nrm => evC n cl rd G h b e s
    | x => some (x, e, s)
  | .cond x a b, e, s => match x.ev G e with
    | .bool t => if t = true then evC n cl rd G h a e s else evC n cl rd G h b e s
    | _ => none
  | .block i a, e, s => (evC n cl rd G h a e s).map fun (x, e, s) => (if x = .exit i then .nrm else x, e, s)
  | .loop live a, e, s => (keepLive (s.length - 1) e live).bind fun e => iter (fun e s => (evC n cl rd G h a e (⟨[], []⟩ :: s)).bind fun (x, e, s) =>
      match s with
      | _ :: s' => (keepLive (s'.length - 1) e live).map fun e => (x, e, s')
      | [] => none) n e s
  | .range f ps asg body, e, s => (newObj s (.loop e h ps asg body true .nrm)).bind fun (l, i, s) =>
      match f.ev G e with
      | .fn f first caps => (cl f (erases first ++ [.yl l i] ++ caps) s).bind fun (_, s) =>
        match getObj s l i with
        | some (.loop _ _ _ _ _ true x) => if x = .nrm then some (.nrm, e, setObj s l i .dead) else none
        | some (.loop _ _ _ _ _ false x) => if x = .nrm then none else some (x, e, setObj s l i .dead)
        | _ => none
      | _ => none
  | .exit i, e, s => some (.exit i, e, s)
  | .ret, e, s => some (.ret, e, s)
  | .scope a, e, s => evC n cl rd G h a e s
  | .rsv ns a, e, s => (rsvAt ns s).bind fun s => evC n cl rd G h a e s

def resV (s : St) (e : Env) : List RV → Option (List AV)
  | [] => some []
  | .tmp t :: l => (resV s e l).map (e.get t :: ·)
  | .cell t n ag :: l => (cellsAt s (e.get t)).bind fun c => (ofCells n ag c).bind fun v => (resV s e l).map (v :: ·)

def oneV : List AV → AV
  | [v] => v
  | l => .tup l

/-- A call's frame is struck. -/
def leave (mv : Bool) (l : Nat) (s' : St) (v : AV) : Option (AV × St) :=
  if mv = true then
    match s' with
    | top :: below :: r => (mvO l below.objs.length top.objs).bind fun os => (mvV l below.objs.length v).map fun v => (v, { below with objs := below.objs ++ os } :: r)
    | _ => none
  else (frz s' l 1000 v).map fun v => (v, s'.tail)

/-- A function is called, a round is run: with fuel. -/
def evFR (G : Nat → List AV) (fs : Nat → Option F) : Nat → Call × Round
  | 0 => (fun _ _ _ => none, fun _ _ _ _ => none)
  | n + 1 =>
    (fun f args s => (fs f).bind fun fn => if args.length = fn.np then
      (evC n (evFR G fs n).1 (evFR G fs n).2 G s.length fn.body (args.zipIdx.map fun (v, i) => (i, v)) (⟨[], []⟩ :: s)).bind fun (x, e, s') =>
        match x with
        | .exit _ => none
        | _ => (resV s' e fn.res).bind fun vs => leave fn.mv s.length s' (oneV vs)
      else none,
     fun l i args s =>
      match getObj s l i with
      | some (.loop env h ps asg body true .nrm) =>
        if ps.length = args.length then
          (evC n (evFR G fs n).1 (evFR G fs n).2 G h asg ((ps.zip args).reverse ++ env) (⟨[], []⟩ :: s)).bind fun (x, e, s1) =>
            match x, getObj s1 l i with
            | .nrm, some (.loop env h' ps asg' body' true .nrm) =>
              (evC n (evFR G fs n).1 (evFR G fs n).2 G h body e (setObj s1 l i (.loop env h' ps asg' body' false .nrm))).bind fun (x, _, s2) =>
                match getObj s2 l i with
                | some (.loop env h' ps asg' body' false .nrm) => some (.bool (x == .nrm), (setObj s2 l i (.loop env h' ps asg' body' (x == .nrm) x)).tail)
                | _ => none
            | _, _ => none
        else none
      | _ => none)

def evF (G : Nat → List AV) (fs : Nat → Option F) (n : Nat) : Call := (evFR G fs n).1
end Go.Ab
