/-
  The abstract machine, laid out for the kernel: in continuations, by recursors; what it says evF says.
-/
import Derived.Test.YthbekoofiienjaaDoorAb
namespace Go.Ab

abbrev Ans := Option (AV × St)
abbrev CallK := Nat → Nat → List AV → St → (AV → St → Ans) → Ans
abbrev RoundK := Nat → Nat → Nat → List AV → St → (AV → St → Ans) → Ans
abbrev KC := Nat → CallK → RoundK → (Nat → List AV) → Nat → Nat → Env → St → (Ex → Env → St → Ans) → Ans

/-- What a proof about values that are not known stops at: a record, so that it may be left open. -/
structure Bnd where
  lt : Int → Int → (Bool → Ans) → Ans
  le : Int → Int → (Bool → Ans) → Ans
  eq : Int → Int → (Bool → Ans) → Ans
  add : IntKind → Int → Int → (AV → Ans) → Ans
  sub : IntKind → Int → Int → (AV → Ans) → Ans
  opt : Option AV → (AV → Ans) → Ans
  len : List (List AV) → (Nat → Ans) → Ans
  lens : List UInt8 → (Nat → Ans) → Ans
  nth : List (List AV) → Nat → (List AV → Ans) → Ans
  nthb : List UInt8 → Nat → (UInt8 → Ans) → Ans
  byte : UInt8 → (Nat → Ans) → Ans
  natOf : Int → (Nat → Ans) → Ans
  pans : CallK → Nat → List AV → (AV × St → Ans) → Ans
  purs : List AV → Ans → Ans
  tok : Tok → (Tok → Ans) → Ans
  osh : St → Nat → Nat → Nat → Nat → Nat → (AV → Ans) → Ans
  loop : KC → List Nat → Nat → Nat → CallK → RoundK → (Nat → List AV) → Nat → Nat → Env → St → (Ex → Env → St → Ans) → Ans
  fint : Int → (Int → Ans) → Ans
  fbool : Bool → (Bool → Ans) → Ans
  fstr : List UInt8 → (List UInt8 → Ans) → Ans
  frows : List (List AV) → (List (List AV) → Ans) → Ans
  ftok : Tok → (Tok → Ans) → Ans
  drop : List AV → Nat → (List AV → Ans) → Ans
  fl : List AV → (List AV → Ans) → Ans
  opt2 : Option (AV × St) → (AV × St → Ans) → Ans
  ifk : Bool → Ans → Ans
  fnat : Nat → (Nat → Ans) → Ans
  appo : St → Nat → Nat → AV → AV → (AV × St → Ans) → Ans
  obj : Nat → St → Nat → Nat → (AObj → Ans) → Ans
  sob : Nat → St → Nat → Nat → AObj → (St → Ans) → Ans
  fst : St → (St → Ans) → Ans
  optl : Option (List AV) → (List AV → Ans) → Ans

/-- A table of functions. -/
inductive Tr where
  | leaf (k : Nat) (f : F)
  | node (m : Nat) (l r : Tr)
  deriving Inhabited

noncomputable def Tr.find : Tr → Nat → Option F := fun t => Tr.rec (fun k f n => Bool.rec none (some f) (Nat.beq k n)) (fun m _ _ il ir n => Bool.rec (ir n) (il n) (Nat.ble n m)) t

noncomputable def getE (e : Env) : Nat → AV := List.rec (fun _ => AV.undef) (fun p _ ih n => Prod.rec (fun k v => Bool.rec (ih n) v (Nat.beq k n)) p) e
noncomputable def nthK {α : Type} (l : List α) : Nat → Option α := List.rec (fun _ => none) (fun a _ ih n => Nat.rec (some a) (fun m _ => ih m) n) l
noncomputable def xK (x : X) : (Nat → List AV) → Env → AV := X.rec (fun n _ e => getE e n) (fun v _ _ => v) (fun n _ _ => .fn n [] []) (fun n G _ => .rp (G n)) x
noncomputable def natK (n : Nat) (k : Nat → Ans) : Ans := Nat.rec (motive := fun _ => (Nat → Ans) → Ans) (fun k => k 0) (fun m _ k => k (Nat.succ m)) n k
noncomputable def intK (n : Int) (k : Int → Ans) : Ans := Int.rec (motive := fun _ => (Int → Ans) → Ans) (fun m k => natK m fun m => k (.ofNat m)) (fun m k => natK m fun m => k (.negSucc m)) n k
noncomputable def boolK (b : Bool) (k : Bool → Ans) : Ans := Bool.rec (k false) (k true) b
noncomputable def lsK {α : Type} (l : List α) (k : List α → Ans) : Ans := List.rec (motive := fun _ => (List α → Ans) → Ans) (fun k => k []) (fun x _ ih k => ih fun l => k (x :: l)) l k
noncomputable def optK {α : Type} (o : Option α) (k : α → Ans) : Ans := Option.rec (motive := fun _ => (α → Ans) → Ans) (fun _ => none) (fun a k => k a) o k
noncomputable def ifK (b : Bool) (k : Ans) : Ans := Bool.rec none k b
noncomputable def lenK {α : Type} (l : List α) : Nat := List.rec 0 (fun _ _ ih => Nat.succ ih) l
noncomputable def catK {α : Type} (l r : List α) : List α := List.rec r (fun x _ ih => x :: ih) l
noncomputable def dropK {α : Type} (l : List α) : Nat → (List α → Ans) → Ans := List.rec (fun _ k => k []) (fun x t ih n k => Nat.rec (k (x :: t)) (fun m _ => ih m k) n) l
noncomputable def takeK {α : Type} (l : List α) : Nat → (List α → Ans) → Ans := List.rec (fun _ k => k []) (fun x _ ih n k => Nat.rec (k []) (fun m _ => ih m fun r => k (x :: r)) n) l
noncomputable def tokK (t : Tok) (k : Tok → Ans) : Ans :=
  Tok.rec (motive := fun _ => (Tok → Ans) → Ans) (fun k => k .nil) (fun k => k .any) (fun k => k .full) (fun _ _ _ k => k .any) t k
noncomputable def purTokK (t : Tok) : Bool := Tok.rec true true true (fun _ _ _ => false) t

noncomputable def hdK : AV → (AV → Ans) → Ans :=
  @AV.rec (fun _ => (AV → Ans) → Ans) (fun _ => PUnit) (fun _ => PUnit) (fun _ => PUnit) (fun _ => PUnit)
  (fun k => k .undef)
  (fun a b => fun k => k (.int a b))
  (fun a => fun k => k (.bool a))
  (fun a => fun k => k (.str a))
  (fun k => k .nilP)
  (fun k => k .nilM)
  (fun k => k .nilF)
  (fun k => k .nilI)
  (fun a b _ => fun k => k (.sl a b))
  (fun a _ => fun k => k (.rp a))
  (fun a b c => fun k => k (.ptr a b c))
  (fun a b c u4 u5 => fun k => k (.os a b c u4 u5))
  (fun a b => fun k => k (.mp a b))
  (fun a _ => fun k => k (.pm a))
  (fun a b c _ _ => fun k => k (.fn a b c))
  (fun a b => fun k => k (.yl a b))
  (fun a _ => fun k => k (.agg a))
  (fun a _ => fun k => k (.tup a))
  PUnit.unit (fun _ _ _ _ => PUnit.unit) (PUnit.unit) (fun _ _ _ _ => PUnit.unit) PUnit.unit (fun _ _ _ _ => PUnit.unit) (fun _ _ _ _ => PUnit.unit)

noncomputable def fvK : AV → Bnd → (AV → Ans) → Ans :=
  @AV.rec (fun _ => Bnd → (AV → Ans) → Ans) (fun _ => PUnit) (fun _ => PUnit) (fun _ => PUnit) (fun _ => PUnit)
  (fun _ k => k .undef)
  (fun a b => fun B k => B.fint b fun n => k (.int a n))
  (fun a => fun B k => B.fbool a fun b => k (.bool b))
  (fun a => fun B k => B.fstr a fun s => k (.str s))
  (fun _ k => k .nilP)
  (fun _ k => k .nilM)
  (fun _ k => k .nilF)
  (fun _ k => k .nilI)
  (fun a b _ => fun B k => B.frows a fun r => B.ftok b fun t => k (.sl r t))
  (fun a _ => fun _ k => lsK a fun c => k (.rp c))
  (fun a b c => fun B k => B.fnat a fun l => B.fnat b fun i => B.fnat c fun o => k (.ptr l i o))
  (fun a b c u4 u5 => fun B k => B.fnat a fun l => B.fnat b fun i => B.fnat c fun o => B.fnat u4 fun n => B.fnat u5 fun e => k (.os l i o n e))
  (fun a b => fun B k => B.fnat a fun l => B.fnat b fun i => k (.mp l i))
  (fun a _ => fun _ k => k (.pm a))
  (fun a b c _ _ => fun _ k => lsK b fun p => lsK c fun q => k (.fn a p q))
  (fun a b => fun _ k => k (.yl a b))
  (fun a _ => fun _ k => lsK a fun c => k (.agg c))
  (fun a _ => fun _ k => lsK a fun c => k (.tup c))
  PUnit.unit (fun _ _ _ _ => PUnit.unit) (PUnit.unit) (fun _ _ _ _ => PUnit.unit) PUnit.unit (fun _ _ _ _ => PUnit.unit) (fun _ _ _ _ => PUnit.unit)

noncomputable def purK : AV → Bool :=
  @AV.rec (fun _ => Bool) (fun _ => PUnit) (fun _ => Bool) (fun _ => PUnit) (fun _ => PUnit)
  (false)
  (fun _ _ => true)
  (fun _ => true)
  (fun _ => true)
  (true)
  (true)
  (true)
  (true)
  (fun _ b _ => purTokK b)
  (fun _ _ => true)
  (fun _ _ _ => false)
  (fun _ _ _ _ _ => false)
  (fun _ _ => false)
  (fun _ _ => true)
  (fun _ _ _ ih ih2 => Bool.rec false ih2 ih)
  (fun _ _ => false)
  (fun _ ih => ih)
  (fun _ ih => ih)
  PUnit.unit (fun _ _ _ _ => PUnit.unit) (true) (fun _ _ h t => Bool.rec false t h) PUnit.unit (fun _ _ _ _ => PUnit.unit) (fun _ _ _ _ => PUnit.unit)

noncomputable def purKL : List AV → Bool :=
  @AV.rec_2 (fun _ => Bool) (fun _ => PUnit) (fun _ => Bool) (fun _ => PUnit) (fun _ => PUnit)
  (false)
  (fun _ _ => true)
  (fun _ => true)
  (fun _ => true)
  (true)
  (true)
  (true)
  (true)
  (fun _ b _ => purTokK b)
  (fun _ _ => true)
  (fun _ _ _ => false)
  (fun _ _ _ _ _ => false)
  (fun _ _ => false)
  (fun _ _ => true)
  (fun _ _ _ ih ih2 => Bool.rec false ih2 ih)
  (fun _ _ => false)
  (fun _ ih => ih)
  (fun _ ih => ih)
  PUnit.unit (fun _ _ _ _ => PUnit.unit) (true) (fun _ _ h t => Bool.rec false t h) PUnit.unit (fun _ _ _ _ => PUnit.unit) (fun _ _ _ _ => PUnit.unit)

noncomputable def allK (p : AV → Bool) (l : List AV) : Bool := List.rec true (fun v _ ih => Bool.rec false ih (p v)) l
noncomputable def anyK (p : AV → Bool) (l : List AV) : Bool := List.rec false (fun v _ ih => Bool.rec ih true (p v)) l

noncomputable def brwK : AV → Bool :=
  @AV.rec (fun _ => Bool) (fun _ => PUnit) (fun _ => Bool) (fun _ => PUnit) (fun _ => PUnit)
  (false)
  (fun _ _ => false)
  (fun _ => false)
  (fun _ => false)
  (false)
  (false)
  (false)
  (false)
  (fun _ _ _ => false)
  (fun _ _ => false)
  (fun _ _ _ => false)
  (fun _ _ _ _ _ => true)
  (fun _ _ => false)
  (fun _ _ => false)
  (fun _ _ _ ih ih2 => Bool.rec ih2 true ih)
  (fun _ _ => false)
  (fun _ ih => ih)
  (fun _ ih => ih)
  PUnit.unit (fun _ _ _ _ => PUnit.unit) (false) (fun _ _ h t => Bool.rec t true h) PUnit.unit (fun _ _ _ _ => PUnit.unit) (fun _ _ _ _ => PUnit.unit)

noncomputable def brwKL : List AV → Bool :=
  @AV.rec_2 (fun _ => Bool) (fun _ => PUnit) (fun _ => Bool) (fun _ => PUnit) (fun _ => PUnit)
  (false)
  (fun _ _ => false)
  (fun _ => false)
  (fun _ => false)
  (false)
  (false)
  (false)
  (false)
  (fun _ _ _ => false)
  (fun _ _ => false)
  (fun _ _ _ => false)
  (fun _ _ _ _ _ => true)
  (fun _ _ => false)
  (fun _ _ => false)
  (fun _ _ _ ih ih2 => Bool.rec ih2 true ih)
  (fun _ _ => false)
  (fun _ ih => ih)
  (fun _ ih => ih)
  PUnit.unit (fun _ _ _ _ => PUnit.unit) (false) (fun _ _ h t => Bool.rec t true h) PUnit.unit (fun _ _ _ _ => PUnit.unit) (fun _ _ _ _ => PUnit.unit)

noncomputable def flatK : AV → Bool :=
  @AV.rec (fun _ => Bool) (fun _ => PUnit) (fun _ => Bool) (fun _ => PUnit) (fun _ => PUnit)
  (false)
  (fun _ _ => true)
  (fun _ => true)
  (fun _ => true)
  (true)
  (true)
  (true)
  (true)
  (fun a b _ => List.rec (Tok.rec true false false (fun _ _ _ => false) b) (fun _ _ _ => false) a)
  (fun _ _ => false)
  (fun _ _ _ => false)
  (fun _ _ _ _ _ => false)
  (fun _ _ => false)
  (fun _ _ => false)
  (fun _ _ _ _ _ => false)
  (fun _ _ => false)
  (fun _ ih => ih)
  (fun _ ih => ih)
  PUnit.unit (fun _ _ _ _ => PUnit.unit) (true) (fun _ _ h t => Bool.rec false t h) PUnit.unit (fun _ _ _ _ => PUnit.unit) (fun _ _ _ _ => PUnit.unit)

noncomputable def flatKL : List AV → Bool :=
  @AV.rec_2 (fun _ => Bool) (fun _ => PUnit) (fun _ => Bool) (fun _ => PUnit) (fun _ => PUnit)
  (false)
  (fun _ _ => true)
  (fun _ => true)
  (fun _ => true)
  (true)
  (true)
  (true)
  (true)
  (fun a b _ => List.rec (Tok.rec true false false (fun _ _ _ => false) b) (fun _ _ _ => false) a)
  (fun _ _ => false)
  (fun _ _ _ => false)
  (fun _ _ _ _ _ => false)
  (fun _ _ => false)
  (fun _ _ => false)
  (fun _ _ _ _ _ => false)
  (fun _ _ => false)
  (fun _ ih => ih)
  (fun _ ih => ih)
  PUnit.unit (fun _ _ _ _ => PUnit.unit) (true) (fun _ _ h t => Bool.rec false t h) PUnit.unit (fun _ _ _ _ => PUnit.unit) (fun _ _ _ _ => PUnit.unit)

/-- A list of values, each brought through a step. -/
noncomputable def mapsK (f : AV → (AV → Ans) → Ans) (l : List AV) (k : List AV → Ans) : Ans :=
  List.rec (motive := fun _ => (List AV → Ans) → Ans) (fun k => k []) (fun v _ ih k => f v fun v => ih fun r => k (v :: r)) l k

noncomputable def erK : AV → Bnd → (AV → Ans) → Ans :=
  @AV.rec (fun _ => Bnd → (AV → Ans) → Ans) (fun _ => PUnit) (fun _ => Bnd → (List AV → Ans) → Ans) (fun _ => PUnit) (fun _ => PUnit)
  (fun _ k => k .undef)
  (fun a b => fun _ k => k (.int a b))
  (fun a => fun _ k => k (.bool a))
  (fun a => fun _ k => k (.str a))
  (fun _ k => k .nilP)
  (fun _ k => k .nilM)
  (fun _ k => k .nilF)
  (fun _ k => k .nilI)
  (fun a b _ => fun B k => B.tok b fun t => k (.sl a t))
  (fun a _ => fun _ k => k (.rp a))
  (fun a b c => fun _ k => k (.ptr a b c))
  (fun a b c u4 u5 => fun _ k => k (.os a b c u4 u5))
  (fun a b => fun _ k => k (.mp a b))
  (fun a _ => fun _ k => k (.pm a))
  (fun a _ _ ih ih2 => fun B k => ih B fun p => ih2 B fun q => k (.fn a p q))
  (fun a b => fun _ k => k (.yl a b))
  (fun _ ih => fun B k => ih B fun p => k (.agg p))
  (fun _ ih => fun B k => ih B fun p => k (.tup p))
  PUnit.unit (fun _ _ _ _ => PUnit.unit) (fun _ k => k []) (fun _ _ h t B k => h B fun v => t B fun r => k (v :: r)) PUnit.unit (fun _ _ _ _ => PUnit.unit) (fun _ _ _ _ => PUnit.unit)

noncomputable def erKL : List AV → Bnd → (List AV → Ans) → Ans :=
  @AV.rec_2 (fun _ => Bnd → (AV → Ans) → Ans) (fun _ => PUnit) (fun _ => Bnd → (List AV → Ans) → Ans) (fun _ => PUnit) (fun _ => PUnit)
  (fun _ k => k .undef)
  (fun a b => fun _ k => k (.int a b))
  (fun a => fun _ k => k (.bool a))
  (fun a => fun _ k => k (.str a))
  (fun _ k => k .nilP)
  (fun _ k => k .nilM)
  (fun _ k => k .nilF)
  (fun _ k => k .nilI)
  (fun a b _ => fun B k => B.tok b fun t => k (.sl a t))
  (fun a _ => fun _ k => k (.rp a))
  (fun a b c => fun _ k => k (.ptr a b c))
  (fun a b c u4 u5 => fun _ k => k (.os a b c u4 u5))
  (fun a b => fun _ k => k (.mp a b))
  (fun a _ => fun _ k => k (.pm a))
  (fun a _ _ ih ih2 => fun B k => ih B fun p => ih2 B fun q => k (.fn a p q))
  (fun a b => fun _ k => k (.yl a b))
  (fun _ ih => fun B k => ih B fun p => k (.agg p))
  (fun _ ih => fun B k => ih B fun p => k (.tup p))
  PUnit.unit (fun _ _ _ _ => PUnit.unit) (fun _ k => k []) (fun _ _ h t B k => h B fun v => t B fun r => k (v :: r)) PUnit.unit (fun _ _ _ _ => PUnit.unit) (fun _ _ _ _ => PUnit.unit)

noncomputable def haK : AV → Bnd → St → (AV → Ans) → Ans :=
  @AV.rec (fun _ => Bnd → St → (AV → Ans) → Ans) (fun _ => PUnit) (fun _ => Bnd → St → (List AV → Ans) → Ans) (fun _ => PUnit) (fun _ => PUnit)
  (fun _ _ _ => none)
  (fun a b => fun _ _ k => k (.int a b))
  (fun a => fun _ _ k => k (.bool a))
  (fun a => fun _ _ k => k (.str a))
  (fun _ _ k => k .nilP)
  (fun _ _ k => k .nilM)
  (fun _ _ k => k .nilF)
  (fun _ _ k => k .nilI)
  (fun a b _ => fun B _ k => B.tok b fun t => k (.sl a t))
  (fun a _ => fun _ _ k => k (.rp a))
  (fun a b c => fun _ _ k => k (.ptr a b c))
  (fun a b c u4 u5 => fun B s k => B.osh s a b c u4 u5 k)
  (fun a b => fun _ _ k => k (.mp a b))
  (fun a _ => fun _ _ k => k (.pm a))
  (fun a _ _ ih ih2 => fun B s k => ih B s fun p => ih2 B s fun q => k (.fn a p q))
  (fun a b => fun _ _ k => k (.yl a b))
  (fun _ ih => fun B s k => ih B s fun p => k (.agg p))
  (fun _ ih => fun B s k => ih B s fun p => k (.tup p))
  PUnit.unit (fun _ _ _ _ => PUnit.unit) (fun _ _ k => k []) (fun _ _ h t B s k => h B s fun v => t B s fun r => k (v :: r)) PUnit.unit (fun _ _ _ _ => PUnit.unit) (fun _ _ _ _ => PUnit.unit)

noncomputable def haKL : List AV → Bnd → St → (List AV → Ans) → Ans :=
  @AV.rec_2 (fun _ => Bnd → St → (AV → Ans) → Ans) (fun _ => PUnit) (fun _ => Bnd → St → (List AV → Ans) → Ans) (fun _ => PUnit) (fun _ => PUnit)
  (fun _ _ _ => none)
  (fun a b => fun _ _ k => k (.int a b))
  (fun a => fun _ _ k => k (.bool a))
  (fun a => fun _ _ k => k (.str a))
  (fun _ _ k => k .nilP)
  (fun _ _ k => k .nilM)
  (fun _ _ k => k .nilF)
  (fun _ _ k => k .nilI)
  (fun a b _ => fun B _ k => B.tok b fun t => k (.sl a t))
  (fun a _ => fun _ _ k => k (.rp a))
  (fun a b c => fun _ _ k => k (.ptr a b c))
  (fun a b c u4 u5 => fun B s k => B.osh s a b c u4 u5 k)
  (fun a b => fun _ _ k => k (.mp a b))
  (fun a _ => fun _ _ k => k (.pm a))
  (fun a _ _ ih ih2 => fun B s k => ih B s fun p => ih2 B s fun q => k (.fn a p q))
  (fun a b => fun _ _ k => k (.yl a b))
  (fun _ ih => fun B s k => ih B s fun p => k (.agg p))
  (fun _ ih => fun B s k => ih B s fun p => k (.tup p))
  PUnit.unit (fun _ _ _ _ => PUnit.unit) (fun _ _ k => k []) (fun _ _ h t B s k => h B s fun v => t B s fun r => k (v :: r)) PUnit.unit (fun _ _ _ _ => PUnit.unit) (fun _ _ _ _ => PUnit.unit)

/-- The frame of a level, the frames being d. -/
noncomputable def frK (d : Nat) (s : St) (l : Nat) : Option Fr := Nat.rec (motive := fun _ => St → Option Fr) (fun _ => none) (fun m _ s => nthK s m) (Nat.sub d l) s
noncomputable def objK (d : Nat) (s : St) (l i : Nat) (k : AObj → Ans) : Ans := optK (frK d s l) fun f => optK (nthK (Fr.rec (fun os _ => os) f) i) k
noncomputable def cellsObK (o : AObj) : (List AV → Ans) → Ans := AObj.rec (fun c k => k c) (fun _ _ => none) (fun _ _ _ _ _ _ _ _ => none) (fun _ => none) (fun _ _ => none) (fun _ _ => none) o

noncomputable def cellsK : AV → Bnd → Nat → St → (List AV → Ans) → Ans :=
  @AV.rec (fun _ => Bnd → Nat → St → (List AV → Ans) → Ans) (fun _ => PUnit) (fun _ => PUnit) (fun _ => PUnit) (fun _ => PUnit)
  (fun _ _ _ _ => none)
  (fun _ _ => fun _ _ _ _ => none)
  (fun _ => fun _ _ _ _ => none)
  (fun _ => fun _ _ _ _ => none)
  (fun _ _ _ _ => none)
  (fun _ _ _ _ => none)
  (fun _ _ _ _ => none)
  (fun _ _ _ _ => none)
  (fun _ _ _ => fun _ _ _ _ => none)
  (fun a _ => fun _ _ _ k => k a)
  (fun a b c => fun B d s k => B.obj d s a b fun ob => cellsObK ob fun l => B.drop l c k)
  (fun _ _ _ _ _ => fun _ _ _ _ => none)
  (fun _ _ => fun _ _ _ _ => none)
  (fun _ _ => fun _ _ _ _ => none)
  (fun _ _ _ _ _ => fun _ _ _ _ => none)
  (fun _ _ => fun _ _ _ _ => none)
  (fun _ _ => fun _ _ _ _ => none)
  (fun _ _ => fun _ _ _ _ => none)
  PUnit.unit (fun _ _ _ _ => PUnit.unit) (PUnit.unit) (fun _ _ _ _ => PUnit.unit) PUnit.unit (fun _ _ _ _ => PUnit.unit) (fun _ _ _ _ => PUnit.unit)

/-- Objects changed. -/
noncomputable def setNthK {α : Type} (l : List α) (a : α) : Nat → (List α → Ans) → Ans := List.rec (fun _ k => k []) (fun x r ih n k => Nat.rec (k (a :: r)) (fun m _ => ih m fun l => k (x :: l)) n) l
noncomputable def setFrK (s : St) (i : Nat) (o : AObj) : Nat → (St → Ans) → Ans :=
  List.rec (fun _ k => k []) (fun f r ih n k => Nat.rec (Fr.rec (fun os t => setNthK os o i fun os => k (⟨os, t⟩ :: r)) f) (fun m _ => ih m fun s => k (f :: s)) n) s
noncomputable def setObjK (d : Nat) (s : St) (l i : Nat) (o : AObj) (k : St → Ans) : Ans :=
  Nat.rec (motive := fun _ => Ans) (k s) (fun m _ => setFrK s i o m k) (Nat.sub d l)
noncomputable def appK {α : Type} (l : List α) (a : α) (k : List α → Ans) : Ans := List.rec (motive := fun _ => (List α → Ans) → Ans) (fun k => k [a]) (fun x _ ih k => ih fun l => k (x :: l)) l k
noncomputable def newK (B : Bnd) (d : Nat) (s : St) (o : AObj) (k : Nat → Nat → St → Ans) : Ans :=
  List.rec (motive := fun _ => Ans) none (fun f r _ => Fr.rec (fun os t => natK (lenK os) fun i => appK os o fun os => B.fnat (Nat.pred d) fun l => k l i (⟨os, t⟩ :: r)) f) s

/-- A value of n cells. -/
noncomputable def ofCellsK (n : Nat) (ag : Bool) (c : List AV) (k : AV → Ans) : Ans :=
  Bool.rec (motive := fun _ => Ans) (List.rec (motive := fun _ => Ans) none (fun v _ _ => hdK v k) c) (ifK (Nat.ble n (lenK c)) (takeK c n fun c => k (.agg c))) ag
noncomputable def putK (e : Env) (d : Option Nat) (v : AV) (k : Env → Ans) : Ans := Option.rec (motive := fun _ => Ans) (k e) (fun t => k ((t, v) :: e)) d

noncomputable def ansK (v : AV) (s : St) : Ans := some (v, s)
noncomputable def pursS (l : List AV) (k : Ans) : Ans := ifK (allK purK l) k
noncomputable def pansK (cl : CallK) (f : Nat) (as : List AV) (k : AV × St → Ans) : Ans := optK (cl (nat_lit 0) f as [] ansK) k
noncomputable def nthS {α : Type} (l : List α) (m : Nat) (k : α → Ans) : Ans := optK (nthK l m) k
noncomputable def lenS {α : Type} (l : List α) (k : Nat → Ans) : Ans := natK (lenK l) k
noncomputable def byteS (b : UInt8) (k : Nat → Ans) : Ans := natK b.toNat k
noncomputable def natOfI (z : Int) (k : Nat → Ans) : Ans := Int.rec (motive := fun _ => Ans) (fun m => k m) (fun _ => none) z
abbrev OpK := Bnd → CallK → RoundK → (Nat → List AV) → Nat → Nat → Env → St → (AV → St → Ans) → Ans

noncomputable def callK : AV → Bnd → CallK → RoundK → Nat → St → List AV → (AV → St → Ans) → Ans :=
  @AV.rec (fun _ => Bnd → CallK → RoundK → Nat → St → List AV → (AV → St → Ans) → Ans) (fun _ => PUnit) (fun _ => PUnit) (fun _ => PUnit) (fun _ => PUnit)
  (fun _ _ _ _ _ _ _ => none)
  (fun _ _ => fun _ _ _ _ _ _ _ => none)
  (fun _ => fun _ _ _ _ _ _ _ => none)
  (fun _ => fun _ _ _ _ _ _ _ => none)
  (fun _ _ _ _ _ _ _ => none)
  (fun _ _ _ _ _ _ _ => none)
  (fun _ _ _ _ _ _ _ => none)
  (fun _ _ _ _ _ _ _ => none)
  (fun _ _ _ => fun _ _ _ _ _ _ _ => none)
  (fun _ _ => fun _ _ _ _ _ _ _ => none)
  (fun _ _ _ => fun _ _ _ _ _ _ _ => none)
  (fun _ _ _ _ _ => fun _ _ _ _ _ _ _ => none)
  (fun _ _ => fun _ _ _ _ _ _ _ => none)
  (fun _ _ => fun _ _ _ _ _ _ _ => none)
  (fun a b c _ _ => fun B cl _ d s args k => mapsK (fun v => erK v B) (catK b args) fun as => cl d a (catK as c) s k)
  (fun a b => fun B _ rd d s args k => mapsK (fun v => erK v B) args fun as => rd d a b as s k)
  (fun _ _ => fun _ _ _ _ _ _ _ => none)
  (fun _ _ => fun _ _ _ _ _ _ _ => none)
  PUnit.unit (fun _ _ _ _ => PUnit.unit) (PUnit.unit) (fun _ _ _ _ => PUnit.unit) PUnit.unit (fun _ _ _ _ => PUnit.unit) (fun _ _ _ _ => PUnit.unit)

noncomputable def pcallK : AV → Bnd → CallK → St → List AV → (AV → St → Ans) → Ans :=
  @AV.rec (fun _ => Bnd → CallK → St → List AV → (AV → St → Ans) → Ans) (fun _ => PUnit) (fun _ => PUnit) (fun _ => PUnit) (fun _ => PUnit)
  (fun _ _ _ _ _ => none)
  (fun _ _ => fun _ _ _ _ _ => none)
  (fun _ => fun _ _ _ _ _ => none)
  (fun _ => fun _ _ _ _ _ => none)
  (fun _ _ _ _ _ => none)
  (fun _ _ _ _ _ => none)
  (fun _ _ _ _ _ => none)
  (fun _ _ _ _ _ => none)
  (fun _ _ _ => fun _ _ _ _ _ => none)
  (fun _ _ => fun _ _ _ _ _ => none)
  (fun _ _ _ => fun _ _ _ _ _ => none)
  (fun _ _ _ _ _ => fun _ _ _ _ _ => none)
  (fun _ _ => fun _ _ _ _ _ => none)
  (fun _ _ => fun _ _ _ _ _ => none)
  (fun a b c _ _ => fun B cl s args k => mapsK (fun v => haK v B s) (catK b args) fun as => B.purs as (B.purs c (B.pans cl a (catK as c) fun p => Prod.rec (fun v _ => hdK v fun v => B.ifk (Bool.rec (Bool.not (anyK brwK (catK b args))) true (flatK v)) (k v s)) p)))
  (fun _ _ => fun _ _ _ _ _ => none)
  (fun _ _ => fun _ _ _ _ _ => none)
  (fun _ _ => fun _ _ _ _ _ => none)
  PUnit.unit (fun _ _ _ _ => PUnit.unit) (PUnit.unit) (fun _ _ _ _ => PUnit.unit) PUnit.unit (fun _ _ _ _ => PUnit.unit) (fun _ _ _ _ => PUnit.unit)

noncomputable def cellsOfK : AV → (List AV → Ans) → Ans :=
  @AV.rec (fun _ => (List AV → Ans) → Ans) (fun _ => PUnit) (fun _ => PUnit) (fun _ => PUnit) (fun _ => PUnit)
  (fun _ => none)
  (fun a b => fun k => k [(.int a b)])
  (fun a => fun k => k [(.bool a)])
  (fun a => fun k => k [(.str a)])
  (fun k => k [.nilP])
  (fun k => k [.nilM])
  (fun k => k [.nilF])
  (fun k => k [.nilI])
  (fun a b _ => fun k => k [(.sl a b)])
  (fun a _ => fun k => k [(.rp a)])
  (fun a b c => fun k => k [(.ptr a b c)])
  (fun a b c u4 u5 => fun k => k [(.os a b c u4 u5)])
  (fun a b => fun k => k [(.mp a b)])
  (fun a _ => fun k => k [(.pm a)])
  (fun a b c _ _ => fun k => k [(.fn a b c)])
  (fun a b => fun k => k [(.yl a b)])
  (fun a _ => fun k => k a)
  (fun _ _ => fun _ => none)
  PUnit.unit (fun _ _ _ _ => PUnit.unit) (PUnit.unit) (fun _ _ _ _ => PUnit.unit) PUnit.unit (fun _ _ _ _ => PUnit.unit) (fun _ _ _ _ => PUnit.unit)

noncomputable def ltK (a b : Int) (k : Bool → Ans) : Ans :=
  Int.rec (motive := fun _ => Ans) (fun m => Int.rec (motive := fun _ => Ans) (fun n => boolK (Nat.ble (Nat.succ m) n) k) (fun _ => k false) b) (fun m => Int.rec (motive := fun _ => Ans) (fun _ => k true) (fun n => boolK (Nat.ble (Nat.succ n) m) k) b) a
noncomputable def leK (a b : Int) (k : Bool → Ans) : Ans :=
  Int.rec (motive := fun _ => Ans) (fun m => Int.rec (motive := fun _ => Ans) (fun n => boolK (Nat.ble m n) k) (fun _ => k false) b) (fun m => Int.rec (motive := fun _ => Ans) (fun _ => k true) (fun n => boolK (Nat.ble n m) k) b) a
noncomputable def eqiK (a b : Int) (k : Bool → Ans) : Ans :=
  Int.rec (motive := fun _ => Ans) (fun m => Int.rec (motive := fun _ => Ans) (fun n => boolK (Nat.beq m n) k) (fun _ => k false) b) (fun m => Int.rec (motive := fun _ => Ans) (fun _ => k false) (fun n => boolK (Nat.beq m n) k) b) a
noncomputable def wrpK (q : IntKind) (n : Int) (k : AV → Ans) : Ans := intK n fun n => Bool.rec (intK (q.wrap n) fun n => k (.int q n)) (k (.int q n)) (fits q n)
noncomputable def addK (q : IntKind) (a b : Int) (k : AV → Ans) : Ans :=
  Int.rec (motive := fun _ => Ans) (fun m => Int.rec (motive := fun _ => Ans) (fun n => wrpK q (.ofNat (Nat.add m n)) k) (fun n => wrpK q (Int.add (.ofNat m) (.negSucc n)) k) b) (fun m => wrpK q (Int.add (.negSucc m) b) k) a
noncomputable def subK (q : IntKind) (a b : Int) (k : AV → Ans) : Ans :=
  Int.rec (motive := fun _ => Ans) (fun m => Int.rec (motive := fun _ => Ans) (fun n => Bool.rec (wrpK q (Int.sub (.ofNat m) (.ofNat n)) k) (wrpK q (.ofNat (Nat.sub m n)) k) (Nat.ble n m)) (fun n => wrpK q (Int.sub (.ofNat m) (.negSucc n)) k) b) (fun m => wrpK q (Int.sub (.negSucc m) b) k) a

noncomputable def kix (q : IntKind) : Nat := @IntKind.rec (fun _ => Nat) (nat_lit 0) (nat_lit 1) (nat_lit 2) (nat_lit 3) (nat_lit 4) (nat_lit 5) (nat_lit 6) (nat_lit 7) q

noncomputable def binIK (op : BinOp) : Bnd → IntKind → IntKind → Int → Int → (AV → Ans) → Ans := @BinOp.rec (fun _ => Bnd → IntKind → IntKind → Int → Int → (AV → Ans) → Ans)
  (fun B q q2 a b k => ifK (Nat.beq (kix q) (kix q2)) (B.add q a b k))
  (fun B q q2 a b k => ifK (Nat.beq (kix q) (kix q2)) (B.sub q a b k))
  (fun B q q2 a b k => B.opt (binAV .mul (.int q a) (.int q2 b)) fun v => fvK v B k)
  (fun B q q2 a b k => B.opt (binAV .quo (.int q a) (.int q2 b)) fun v => fvK v B k)
  (fun B q q2 a b k => B.opt (binAV .rem (.int q a) (.int q2 b)) fun v => fvK v B k)
  (fun B q q2 a b k => B.opt (binAV .and (.int q a) (.int q2 b)) fun v => fvK v B k)
  (fun B q q2 a b k => B.opt (binAV .or (.int q a) (.int q2 b)) fun v => fvK v B k)
  (fun B q q2 a b k => B.opt (binAV .xor (.int q a) (.int q2 b)) fun v => fvK v B k)
  (fun B q q2 a b k => B.opt (binAV .shl (.int q a) (.int q2 b)) fun v => fvK v B k)
  (fun B q q2 a b k => B.opt (binAV .shr (.int q a) (.int q2 b)) fun v => fvK v B k)
  (fun B q q2 a b k => B.opt (binAV .andNot (.int q a) (.int q2 b)) fun v => fvK v B k)
  (fun B q q2 a b k => ifK (Nat.beq (kix q) (kix q2)) (B.eq a b fun t => k (.bool t)))
  (fun B q q2 a b k => ifK (Nat.beq (kix q) (kix q2)) (B.eq a b fun t => boolK (Bool.not t) fun t => k (.bool t)))
  (fun B q q2 a b k => ifK (Nat.beq (kix q) (kix q2)) (B.lt a b fun t => k (.bool t)))
  (fun B q q2 a b k => ifK (Nat.beq (kix q) (kix q2)) (B.le a b fun t => k (.bool t)))
  (fun B q q2 a b k => ifK (Nat.beq (kix q) (kix q2)) (B.lt b a fun t => k (.bool t)))
  (fun B q q2 a b k => ifK (Nat.beq (kix q) (kix q2)) (B.le b a fun t => k (.bool t))) op

noncomputable def binK2 : AV → BinOp → Bnd → IntKind → Int → (AV → Ans) → Ans :=
  @AV.rec (fun _ => BinOp → Bnd → IntKind → Int → (AV → Ans) → Ans) (fun _ => PUnit) (fun _ => PUnit) (fun _ => PUnit) (fun _ => PUnit)
  (fun op B q n k => B.opt (binAV op (.int q n) .undef) fun v => fvK v B k)
  (fun a b => fun op B q n k => binIK op B q a n b k)
  (fun a => fun op B q n k => B.opt (binAV op (.int q n) (.bool a)) fun v => fvK v B k)
  (fun a => fun op B q n k => B.opt (binAV op (.int q n) (.str a)) fun v => fvK v B k)
  (fun op B q n k => B.opt (binAV op (.int q n) .nilP) fun v => fvK v B k)
  (fun op B q n k => B.opt (binAV op (.int q n) .nilM) fun v => fvK v B k)
  (fun op B q n k => B.opt (binAV op (.int q n) .nilF) fun v => fvK v B k)
  (fun op B q n k => B.opt (binAV op (.int q n) .nilI) fun v => fvK v B k)
  (fun a b _ => fun op B q n k => B.opt (binAV op (.int q n) (.sl a b)) fun v => fvK v B k)
  (fun a _ => fun op B q n k => B.opt (binAV op (.int q n) (.rp a)) fun v => fvK v B k)
  (fun a b c => fun op B q n k => B.opt (binAV op (.int q n) (.ptr a b c)) fun v => fvK v B k)
  (fun a b c u4 u5 => fun op B q n k => B.opt (binAV op (.int q n) (.os a b c u4 u5)) fun v => fvK v B k)
  (fun a b => fun op B q n k => B.opt (binAV op (.int q n) (.mp a b)) fun v => fvK v B k)
  (fun a _ => fun op B q n k => B.opt (binAV op (.int q n) (.pm a)) fun v => fvK v B k)
  (fun a b c _ _ => fun op B q n k => B.opt (binAV op (.int q n) (.fn a b c)) fun v => fvK v B k)
  (fun a b => fun op B q n k => B.opt (binAV op (.int q n) (.yl a b)) fun v => fvK v B k)
  (fun a _ => fun op B q n k => B.opt (binAV op (.int q n) (.agg a)) fun v => fvK v B k)
  (fun a _ => fun op B q n k => B.opt (binAV op (.int q n) (.tup a)) fun v => fvK v B k)
  PUnit.unit (fun _ _ _ _ => PUnit.unit) (PUnit.unit) (fun _ _ _ _ => PUnit.unit) PUnit.unit (fun _ _ _ _ => PUnit.unit) (fun _ _ _ _ => PUnit.unit)

noncomputable def binK : AV → BinOp → Bnd → AV → (AV → Ans) → Ans :=
  @AV.rec (fun _ => BinOp → Bnd → AV → (AV → Ans) → Ans) (fun _ => PUnit) (fun _ => PUnit) (fun _ => PUnit) (fun _ => PUnit)
  (fun op B y k => B.opt (binAV op .undef y) fun v => fvK v B k)
  (fun a b => fun op B y k => binK2 y op B a b k)
  (fun a => fun op B y k => B.opt (binAV op (.bool a) y) fun v => fvK v B k)
  (fun a => fun op B y k => B.opt (binAV op (.str a) y) fun v => fvK v B k)
  (fun op B y k => B.opt (binAV op .nilP y) fun v => fvK v B k)
  (fun op B y k => B.opt (binAV op .nilM y) fun v => fvK v B k)
  (fun op B y k => B.opt (binAV op .nilF y) fun v => fvK v B k)
  (fun op B y k => B.opt (binAV op .nilI y) fun v => fvK v B k)
  (fun a b _ => fun op B y k => B.opt (binAV op (.sl a b) y) fun v => fvK v B k)
  (fun a _ => fun op B y k => B.opt (binAV op (.rp a) y) fun v => fvK v B k)
  (fun a b c => fun op B y k => B.opt (binAV op (.ptr a b c) y) fun v => fvK v B k)
  (fun a b c u4 u5 => fun op B y k => B.opt (binAV op (.os a b c u4 u5) y) fun v => fvK v B k)
  (fun a b => fun op B y k => B.opt (binAV op (.mp a b) y) fun v => fvK v B k)
  (fun a _ => fun op B y k => B.opt (binAV op (.pm a) y) fun v => fvK v B k)
  (fun a b c _ _ => fun op B y k => B.opt (binAV op (.fn a b c) y) fun v => fvK v B k)
  (fun a b => fun op B y k => B.opt (binAV op (.yl a b) y) fun v => fvK v B k)
  (fun a _ => fun op B y k => B.opt (binAV op (.agg a) y) fun v => fvK v B k)
  (fun a _ => fun op B y k => B.opt (binAV op (.tup a) y) fun v => fvK v B k)
  PUnit.unit (fun _ _ _ _ => PUnit.unit) (PUnit.unit) (fun _ _ _ _ => PUnit.unit) PUnit.unit (fun _ _ _ _ => PUnit.unit) (fun _ _ _ _ => PUnit.unit)

noncomputable def notK : AV → (AV → Ans) → Ans :=
  @AV.rec (fun _ => (AV → Ans) → Ans) (fun _ => PUnit) (fun _ => PUnit) (fun _ => PUnit) (fun _ => PUnit)
  (fun _ => none)
  (fun _ _ => fun _ => none)
  (fun a => fun k => boolK (Bool.not a) fun b => k (.bool b))
  (fun _ => fun _ => none)
  (fun _ => none)
  (fun _ => none)
  (fun _ => none)
  (fun _ => none)
  (fun _ _ _ => fun _ => none)
  (fun _ _ => fun _ => none)
  (fun _ _ _ => fun _ => none)
  (fun _ _ _ _ _ => fun _ => none)
  (fun _ _ => fun _ => none)
  (fun _ _ => fun _ => none)
  (fun _ _ _ _ _ => fun _ => none)
  (fun _ _ => fun _ => none)
  (fun _ _ => fun _ => none)
  (fun _ _ => fun _ => none)
  PUnit.unit (fun _ _ _ _ => PUnit.unit) (PUnit.unit) (fun _ _ _ _ => PUnit.unit) PUnit.unit (fun _ _ _ _ => PUnit.unit) (fun _ _ _ _ => PUnit.unit)

noncomputable def pickK : AV → AV → AV → (AV → Ans) → Ans :=
  @AV.rec (fun _ => AV → AV → (AV → Ans) → Ans) (fun _ => PUnit) (fun _ => PUnit) (fun _ => PUnit) (fun _ => PUnit)
  (fun _ _ _ => none)
  (fun _ _ => fun _ _ _ => none)
  (fun a => fun x y k => Bool.rec (hdK y k) (hdK x k) a)
  (fun _ => fun _ _ _ => none)
  (fun _ _ _ => none)
  (fun _ _ _ => none)
  (fun _ _ _ => none)
  (fun _ _ _ => none)
  (fun _ _ _ => fun _ _ _ => none)
  (fun _ _ => fun _ _ _ => none)
  (fun _ _ _ => fun _ _ _ => none)
  (fun _ _ _ _ _ => fun _ _ _ => none)
  (fun _ _ => fun _ _ _ => none)
  (fun _ _ => fun _ _ _ => none)
  (fun _ _ _ _ _ => fun _ _ _ => none)
  (fun _ _ => fun _ _ _ => none)
  (fun _ _ => fun _ _ _ => none)
  (fun _ _ => fun _ _ _ => none)
  PUnit.unit (fun _ _ _ _ => PUnit.unit) (PUnit.unit) (fun _ _ _ _ => PUnit.unit) PUnit.unit (fun _ _ _ _ => PUnit.unit) (fun _ _ _ _ => PUnit.unit)

noncomputable def fadK : AV → Bnd → Nat → (AV → Ans) → Ans :=
  @AV.rec (fun _ => Bnd → Nat → (AV → Ans) → Ans) (fun _ => PUnit) (fun _ => PUnit) (fun _ => PUnit) (fun _ => PUnit)
  (fun _ _ _ => none)
  (fun _ _ => fun _ _ _ => none)
  (fun _ => fun _ _ _ => none)
  (fun _ => fun _ _ _ => none)
  (fun _ _ _ => none)
  (fun _ _ _ => none)
  (fun _ _ _ => none)
  (fun _ _ _ => none)
  (fun _ _ _ => fun _ _ _ => none)
  (fun a _ => fun _ off k => dropK a off fun c => k (.rp c))
  (fun a b c => fun B off k => B.fnat (Nat.add c off) fun o => k (.ptr a b o))
  (fun _ _ _ _ _ => fun _ _ _ => none)
  (fun _ _ => fun _ _ _ => none)
  (fun _ _ => fun _ _ _ => none)
  (fun _ _ _ _ _ => fun _ _ _ => none)
  (fun _ _ => fun _ _ _ => none)
  (fun _ _ => fun _ _ _ => none)
  (fun _ _ => fun _ _ _ => none)
  PUnit.unit (fun _ _ _ _ => PUnit.unit) (PUnit.unit) (fun _ _ _ _ => PUnit.unit) PUnit.unit (fun _ _ _ _ => PUnit.unit) (fun _ _ _ _ => PUnit.unit)

noncomputable def iadK2 : AV → Bnd → Nat → Nat → (AV → Ans) → Ans :=
  @AV.rec (fun _ => Bnd → Nat → Nat → (AV → Ans) → Ans) (fun _ => PUnit) (fun _ => PUnit) (fun _ => PUnit) (fun _ => PUnit)
  (fun _ _ _ _ => none)
  (fun _ _ => fun _ _ _ _ => none)
  (fun _ => fun _ _ _ _ => none)
  (fun _ => fun _ _ _ _ => none)
  (fun _ _ _ _ => none)
  (fun _ _ _ _ => none)
  (fun _ _ _ _ => none)
  (fun _ _ _ _ => none)
  (fun a _ _ => fun B e m k => B.nth a m fun row => ifK (Nat.beq (lenK row) e) (k (.rp row)))
  (fun _ _ => fun _ _ _ _ => none)
  (fun _ _ _ => fun _ _ _ _ => none)
  (fun a b c u4 u5 => fun B e m k => B.ifk (Nat.ble (Nat.succ m) u4) (B.ifk (Nat.beq e u5) (B.fnat (Nat.add c (Nat.mul m e)) fun o => k (.ptr a b o))))
  (fun _ _ => fun _ _ _ _ => none)
  (fun _ _ => fun _ _ _ _ => none)
  (fun _ _ _ _ _ => fun _ _ _ _ => none)
  (fun _ _ => fun _ _ _ _ => none)
  (fun _ _ => fun _ _ _ _ => none)
  (fun _ _ => fun _ _ _ _ => none)
  PUnit.unit (fun _ _ _ _ => PUnit.unit) (PUnit.unit) (fun _ _ _ _ => PUnit.unit) PUnit.unit (fun _ _ _ _ => PUnit.unit) (fun _ _ _ _ => PUnit.unit)

noncomputable def natOfK : AV → Bnd → (Nat → Ans) → Ans :=
  @AV.rec (fun _ => Bnd → (Nat → Ans) → Ans) (fun _ => PUnit) (fun _ => PUnit) (fun _ => PUnit) (fun _ => PUnit)
  (fun _ _ => none)
  (fun _ b => fun B k => B.natOf b k)
  (fun _ => fun _ _ => none)
  (fun _ => fun _ _ => none)
  (fun _ _ => none)
  (fun _ _ => none)
  (fun _ _ => none)
  (fun _ _ => none)
  (fun _ _ _ => fun _ _ => none)
  (fun _ _ => fun _ _ => none)
  (fun _ _ _ => fun _ _ => none)
  (fun _ _ _ _ _ => fun _ _ => none)
  (fun _ _ => fun _ _ => none)
  (fun _ _ => fun _ _ => none)
  (fun _ _ _ _ _ => fun _ _ => none)
  (fun _ _ => fun _ _ => none)
  (fun _ _ => fun _ _ => none)
  (fun _ _ => fun _ _ => none)
  PUnit.unit (fun _ _ _ _ => PUnit.unit) (PUnit.unit) (fun _ _ _ _ => PUnit.unit) PUnit.unit (fun _ _ _ _ => PUnit.unit) (fun _ _ _ _ => PUnit.unit)

noncomputable def lenVK : AV → Bnd → (AV → Ans) → Ans :=
  @AV.rec (fun _ => Bnd → (AV → Ans) → Ans) (fun _ => PUnit) (fun _ => PUnit) (fun _ => PUnit) (fun _ => PUnit)
  (fun _ _ => none)
  (fun _ _ => fun _ _ => none)
  (fun _ => fun _ _ => none)
  (fun _ => fun _ _ => none)
  (fun _ _ => none)
  (fun _ _ => none)
  (fun _ _ => none)
  (fun _ _ => none)
  (fun a _ _ => fun B k => B.len a fun n => k (.int .i64 (.ofNat n)))
  (fun _ _ => fun _ _ => none)
  (fun _ _ _ => fun _ _ => none)
  (fun _ _ _ u4 _ => fun _ k => k (.int .i64 (.ofNat u4)))
  (fun _ _ => fun _ _ => none)
  (fun _ _ => fun _ _ => none)
  (fun _ _ _ _ _ => fun _ _ => none)
  (fun _ _ => fun _ _ => none)
  (fun _ _ => fun _ _ => none)
  (fun _ _ => fun _ _ => none)
  PUnit.unit (fun _ _ _ _ => PUnit.unit) (PUnit.unit) (fun _ _ _ _ => PUnit.unit) PUnit.unit (fun _ _ _ _ => PUnit.unit) (fun _ _ _ _ => PUnit.unit)

noncomputable def lensVK : AV → Bnd → (AV → Ans) → Ans :=
  @AV.rec (fun _ => Bnd → (AV → Ans) → Ans) (fun _ => PUnit) (fun _ => PUnit) (fun _ => PUnit) (fun _ => PUnit)
  (fun _ _ => none)
  (fun _ _ => fun _ _ => none)
  (fun _ => fun _ _ => none)
  (fun a => fun B k => B.lens a fun n => k (.int .i64 (.ofNat n)))
  (fun _ _ => none)
  (fun _ _ => none)
  (fun _ _ => none)
  (fun _ _ => none)
  (fun _ _ _ => fun _ _ => none)
  (fun _ _ => fun _ _ => none)
  (fun _ _ _ => fun _ _ => none)
  (fun _ _ _ _ _ => fun _ _ => none)
  (fun _ _ => fun _ _ => none)
  (fun _ _ => fun _ _ => none)
  (fun _ _ _ _ _ => fun _ _ => none)
  (fun _ _ => fun _ _ => none)
  (fun _ _ => fun _ _ => none)
  (fun _ _ => fun _ _ => none)
  PUnit.unit (fun _ _ _ _ => PUnit.unit) (PUnit.unit) (fun _ _ _ _ => PUnit.unit) PUnit.unit (fun _ _ _ _ => PUnit.unit) (fun _ _ _ _ => PUnit.unit)

noncomputable def extK : AV → Nat → (AV → Ans) → Ans :=
  @AV.rec (fun _ => Nat → (AV → Ans) → Ans) (fun _ => PUnit) (fun _ => PUnit) (fun _ => PUnit) (fun _ => PUnit)
  (fun _ _ => none)
  (fun _ _ => fun _ _ => none)
  (fun _ => fun _ _ => none)
  (fun _ => fun _ _ => none)
  (fun _ _ => none)
  (fun _ _ => none)
  (fun _ _ => none)
  (fun _ _ => none)
  (fun _ _ _ => fun _ _ => none)
  (fun _ _ => fun _ _ => none)
  (fun _ _ _ => fun _ _ => none)
  (fun _ _ _ _ _ => fun _ _ => none)
  (fun _ _ => fun _ _ => none)
  (fun _ _ => fun _ _ => none)
  (fun _ _ _ _ _ => fun _ _ => none)
  (fun _ _ => fun _ _ => none)
  (fun _ _ => fun _ _ => none)
  (fun a _ => fun i k => optK (nthK a i) fun v => hdK v k)
  PUnit.unit (fun _ _ _ _ => PUnit.unit) (PUnit.unit) (fun _ _ _ _ => PUnit.unit) PUnit.unit (fun _ _ _ _ => PUnit.unit) (fun _ _ _ _ => PUnit.unit)

noncomputable def fieldK : AV → Nat → Nat → Bool → (AV → Ans) → Ans :=
  @AV.rec (fun _ => Nat → Nat → Bool → (AV → Ans) → Ans) (fun _ => PUnit) (fun _ => PUnit) (fun _ => PUnit) (fun _ => PUnit)
  (fun _ _ _ _ => none)
  (fun _ _ => fun _ _ _ _ => none)
  (fun _ => fun _ _ _ _ => none)
  (fun _ => fun _ _ _ _ => none)
  (fun _ _ _ _ => none)
  (fun _ _ _ _ => none)
  (fun _ _ _ _ => none)
  (fun _ _ _ _ => none)
  (fun _ _ _ => fun _ _ _ _ => none)
  (fun _ _ => fun _ _ _ _ => none)
  (fun _ _ _ => fun _ _ _ _ => none)
  (fun _ _ _ _ _ => fun _ _ _ _ => none)
  (fun _ _ => fun _ _ _ _ => none)
  (fun _ _ => fun _ _ _ _ => none)
  (fun _ _ _ _ _ => fun _ _ _ _ => none)
  (fun _ _ => fun _ _ _ _ => none)
  (fun a _ => fun off n ag k => dropK a off fun c => ofCellsK n ag c k)
  (fun _ _ => fun _ _ _ _ => none)
  PUnit.unit (fun _ _ _ _ => PUnit.unit) (PUnit.unit) (fun _ _ _ _ => PUnit.unit) PUnit.unit (fun _ _ _ _ => PUnit.unit) (fun _ _ _ _ => PUnit.unit)

noncomputable def ixsK : AV → Bnd → Nat → (AV → Ans) → Ans :=
  @AV.rec (fun _ => Bnd → Nat → (AV → Ans) → Ans) (fun _ => PUnit) (fun _ => PUnit) (fun _ => PUnit) (fun _ => PUnit)
  (fun _ _ _ => none)
  (fun _ _ => fun _ _ _ => none)
  (fun _ => fun _ _ _ => none)
  (fun a => fun B m k => B.nthb a m fun b => B.byte b fun n => k (.int .u8 (.ofNat n)))
  (fun _ _ _ => none)
  (fun _ _ _ => none)
  (fun _ _ _ => none)
  (fun _ _ _ => none)
  (fun _ _ _ => fun _ _ _ => none)
  (fun _ _ => fun _ _ _ => none)
  (fun _ _ _ => fun _ _ _ => none)
  (fun _ _ _ _ _ => fun _ _ _ => none)
  (fun _ _ => fun _ _ _ => none)
  (fun _ _ => fun _ _ _ => none)
  (fun _ _ _ _ _ => fun _ _ _ => none)
  (fun _ _ => fun _ _ _ => none)
  (fun _ _ => fun _ _ _ => none)
  (fun _ _ => fun _ _ _ => none)
  PUnit.unit (fun _ _ _ _ => PUnit.unit) (PUnit.unit) (fun _ _ _ _ => PUnit.unit) PUnit.unit (fun _ _ _ _ => PUnit.unit) (fun _ _ _ _ => PUnit.unit)

noncomputable def storeK : AV → Bnd → Nat → AV → Nat → St → (AV → St → Ans) → Ans :=
  @AV.rec (fun _ => Bnd → Nat → AV → Nat → St → (AV → St → Ans) → Ans) (fun _ => PUnit) (fun _ => PUnit) (fun _ => PUnit) (fun _ => PUnit)
  (fun _ _ _ _ _ _ => none)
  (fun _ _ => fun _ _ _ _ _ _ => none)
  (fun _ => fun _ _ _ _ _ _ => none)
  (fun _ => fun _ _ _ _ _ _ => none)
  (fun _ _ _ _ _ _ => none)
  (fun _ _ _ _ _ _ => none)
  (fun _ _ _ _ _ _ => none)
  (fun _ _ _ _ _ _ => none)
  (fun _ _ _ => fun _ _ _ _ _ _ => none)
  (fun _ _ => fun _ _ _ _ _ _ => none)
  (fun a b c => fun B n x d s k => B.obj d s a b fun ob => cellsObK ob fun cs => cellsOfK x fun xs => ifK (Nat.beq (lenK xs) n) (B.ifk (Nat.ble (Nat.add c n) (lenK cs)) (B.fbool (Nat.beq (Nat.succ a) d) fun t => Bool.rec (B.optl (clamps a xs) fun ys => B.fl (putAt cs c ys) fun r => B.sob d s a b (.cells r) fun s => k (.tup []) s) (B.fl (putAt cs c xs) fun r => B.sob d s a b (.cells r) fun s => k (.tup []) s) t)))
  (fun _ _ _ _ _ => fun _ _ _ _ _ _ => none)
  (fun _ _ => fun _ _ _ _ _ _ => none)
  (fun _ _ => fun _ _ _ _ _ _ => none)
  (fun _ _ _ _ _ => fun _ _ _ _ _ _ => none)
  (fun _ _ => fun _ _ _ _ _ _ => none)
  (fun _ _ => fun _ _ _ _ _ _ => none)
  (fun _ _ => fun _ _ _ _ _ _ => none)
  PUnit.unit (fun _ _ _ _ => PUnit.unit) (PUnit.unit) (fun _ _ _ _ => PUnit.unit) PUnit.unit (fun _ _ _ _ => PUnit.unit) (fun _ _ _ _ => PUnit.unit)

noncomputable def gotK (o : AObj) : (Nat → Ans) → Ans := AObj.rec (fun _ _ => none) (fun _ _ => none) (fun _ _ _ _ _ _ _ _ => none) (fun _ => none) (fun _ _ => none) (fun n k => k n) o

noncomputable def fstK : AV → Bnd → Nat → AV → Nat → St → (AV → St → Ans) → Ans :=
  @AV.rec (fun _ => Bnd → Nat → AV → Nat → St → (AV → St → Ans) → Ans) (fun _ => PUnit) (fun _ => PUnit) (fun _ => PUnit) (fun _ => PUnit)
  (fun _ _ _ _ _ _ => none)
  (fun _ _ => fun _ _ _ _ _ _ => none)
  (fun _ => fun _ _ _ _ _ _ => none)
  (fun _ => fun _ _ _ _ _ _ => none)
  (fun _ _ _ _ _ _ => none)
  (fun _ _ _ _ _ _ => none)
  (fun _ _ _ _ _ _ => none)
  (fun _ _ _ _ _ _ => none)
  (fun _ _ _ => fun _ _ _ _ _ _ => none)
  (fun _ _ => fun _ _ _ _ _ _ => none)
  (fun a b c => fun B n x d s k => ifK (Nat.beq c (nat_lit 0)) (B.obj d s a b fun ob => gotK ob fun m => cellsOfK x fun xs => ifK (Nat.beq (lenK xs) n) (ifK (Nat.beq m n) (B.ifk (Nat.beq (Nat.succ a) d) (B.sob d s a b (.cells xs) fun s => k (.tup []) s)))))
  (fun _ _ _ _ _ => fun _ _ _ _ _ _ => none)
  (fun _ _ => fun _ _ _ _ _ _ => none)
  (fun _ _ => fun _ _ _ _ _ _ => none)
  (fun _ _ _ _ _ => fun _ _ _ _ _ _ => none)
  (fun _ _ => fun _ _ _ _ _ _ => none)
  (fun _ _ => fun _ _ _ _ _ _ => none)
  (fun _ _ => fun _ _ _ _ _ _ => none)
  PUnit.unit (fun _ _ _ _ => PUnit.unit) (PUnit.unit) (fun _ _ _ _ => PUnit.unit) PUnit.unit (fun _ _ _ _ => PUnit.unit) (fun _ _ _ _ => PUnit.unit)

/-- One operation that is carried out as evO does. -/
noncomputable def plainK (q : O) : OpK := fun B _ _ G h _ e s k => B.opt2 (evO (fun _ _ _ => none) (fun _ _ _ _ => none) G h e s q) fun p => fvK p.1 B fun v => B.fst p.2 fun s => k v s
/-- One operation that leaves the frames alone. -/
noncomputable def pureK (q : O) : OpK := fun B _ _ G h _ e s k => B.opt2 (evO (fun _ _ _ => none) (fun _ _ _ _ => none) G h e s q) fun p => fvK p.1 B fun v => k v s
noncomputable def argsK (G : Nat → List AV) (e : Env) (l : List X) (k : List AV → Ans) : Ans :=
  List.rec (motive := fun _ => (List AV → Ans) → Ans) (fun k => k []) (fun x _ ih k => hdK (xK x G e) fun v => ih fun r => k (v :: r)) l k

noncomputable def evOK : O → OpK := @O.rec (fun _ => OpK)
  (fun a => fun _ _ _ G _ _ e s k => hdK (xK a G e) fun v => k v s)
  (fun a b c => fun _ _ _ G _ _ e s k => pickK (xK a G e) (xK b G e) (xK c G e) fun v => k v s)
  (fun a => fun B _ _ _ _ d _ s k => newK B d s (.cells a) fun l i s => k (.ptr l i (nat_lit 0)) s)
  (fun a => fun B _ _ G _ d e s k => cellsOfK (xK a G e) fun c => newK B d s (.cells c) fun l i s => k (.ptr l i (nat_lit 0)) s)
  (fun a b => pureK (.build a b))
  (fun a b c => pureK (.bsl a b c))
  (fun a b c => plainK (.bslo a b c))
  (fun a b c => fun B _ _ G _ d e s k => cellsK (xK c G e) B d s fun l => ofCellsK a b l fun v => k v s)
  (fun a b c => fun B _ _ G _ d e s k => hdK (xK c G e) fun x => storeK (xK b G e) B a x d s k)
  (fun a b c => fun B _ _ G _ _ e s k => binK (xK b G e) a B (xK c G e) fun v => k v s)
  (fun a b c f4 => fun B _ _ G _ _ e s k => B.opt ((eqK b (xK c G e) (xK f4 G e)).map fun t => .bool (if a = true then !t else t)) fun v => fvK v B fun v => k v s)
  (fun a => fun _ _ _ G _ _ e s k => notK (xK a G e) fun v => k v s)
  (fun a => fun B _ _ G _ _ e s k => B.opt (negAV (xK a G e)) fun v => fvK v B fun v => k v s)
  (fun a b => fun B _ _ G _ _ e s k => B.opt (cvtAV a (xK b G e)) fun v => fvK v B fun v => k v s)
  (fun a b c => pureK (.mkfn a b c))
  (plainK (.mkmap))
  (fun a b c f4 => plainK (.mksl a b c f4))
  (fun a b c f4 f5 => fun B _ _ G _ _ e s k => B.opt (sliceAV a (xK b G e) (c.map fun x => xK x G e) (f4.map fun x => xK x G e) (f5.map fun x => xK x G e)) fun v => fvK v B fun v => k v s)
  (fun a b c => fun B _ _ G _ _ e s k => B.opt (slstrAV (xK a G e) (b.map fun x => xK x G e) (c.map fun x => xK x G e)) fun v => fvK v B fun v => k v s)
  (pureK (.nilfull))
  (fun a b c f4 f5 f6 => pureK (.slarr a b c f4 f5 f6))
  (fun a b => fun B _ _ G _ _ e s k => fadK (xK b G e) B a fun v => k v s)
  (fun a b c f4 => fun _ _ _ G _ _ e s k => fieldK (xK f4 G e) a b c fun v => k v s)
  (fun a b c => fun B _ _ G _ _ e s k => natOfK (xK c G e) B fun m => iadK2 (xK b G e) B a m fun v => k v s)
  (fun a b c f4 => pureK (.iarr a b c f4))
  (fun a b c f4 f5 => fun B _ _ G _ _ e s k => B.opt (ixaAV a b c (xK f4 G e) (xK f5 G e)) fun v => fvK v B fun v => k v s)
  (fun a b => fun B _ _ G _ _ e s k => natOfK (xK b G e) B fun m => ixsK (xK a G e) B m fun v => k v s)
  (fun a b c f4 f5 => pureK (.lookup a b c f4 f5))
  (fun a b c f4 => plainK (.upd a b c f4))
  (fun a b => fun _ _ _ G _ _ e s k => extK (xK a G e) b fun v => k v s)
  (fun a b => fun B cl rd G _ d e s k => argsK G e b fun as => callK (xK a G e) B cl rd d s as k)
  (fun a b => fun B cl _ G _ _ e s k => argsK G e b fun as => pcallK (xK a G e) B cl s as k)
  (fun a b c => fun B cl rd G _ d e s k => argsK G e b fun as => callK (xK a G e) B cl rd d s as fun v s2 => B.ifk (kept s s2 e c) (k v s2))
  (fun a => fun B _ _ G _ _ e s k => lenVK (xK a G e) B fun v => k v s)
  (fun a => fun B _ _ G _ _ e s k => lensVK (xK a G e) B fun v => k v s)
  (fun a => pureK (.lenm a))
  (fun a => pureK (.lena a))
  (fun a b c f4 f5 => plainK (.app a b c f4 f5))
  (fun a b c f4 => fun B _ _ G _ _ e s k => B.appo s a b (xK c G e) (xK f4 G e) fun p => k p.1 p.2)
  (fun a b => pureK (.mn a b))
  (fun a b => pureK (.mx a b))
  (fun a b c => plainK (.copy a b c))
  (fun a b => plainK (.als a b))
  (fun a b c => fun B _ _ G _ d e s k => hdK (xK c G e) fun x => fstK (xK b G e) B a x d s k)

noncomputable def isBK : AV → Bool → Ans → Ans → Ans :=
  @AV.rec (fun _ => Bool → Ans → Ans → Ans) (fun _ => PUnit) (fun _ => PUnit) (fun _ => PUnit) (fun _ => PUnit)
  (fun _ _ _ => none)
  (fun _ _ => fun _ _ _ => none)
  (fun a => fun b y n => Bool.rec (Bool.rec y n b) (Bool.rec n y b) a)
  (fun _ => fun _ _ _ => none)
  (fun _ _ _ => none)
  (fun _ _ _ => none)
  (fun _ _ _ => none)
  (fun _ _ _ => none)
  (fun _ _ _ => fun _ _ _ => none)
  (fun _ _ => fun _ _ _ => none)
  (fun _ _ _ => fun _ _ _ => none)
  (fun _ _ _ _ _ => fun _ _ _ => none)
  (fun _ _ => fun _ _ _ => none)
  (fun _ _ => fun _ _ _ => none)
  (fun _ _ _ _ _ => fun _ _ _ => none)
  (fun _ _ => fun _ _ _ => none)
  (fun _ _ => fun _ _ _ => none)
  (fun a _ => fun _ _ n => List.rec (motive := fun _ => Ans) n (fun _ _ _ => none) a)
  PUnit.unit (fun _ _ _ _ => PUnit.unit) (PUnit.unit) (fun _ _ _ _ => PUnit.unit) PUnit.unit (fun _ _ _ _ => PUnit.unit) (fun _ _ _ _ => PUnit.unit)

noncomputable def condK : AV → Ans → Ans → Ans :=
  @AV.rec (fun _ => Ans → Ans → Ans) (fun _ => PUnit) (fun _ => PUnit) (fun _ => PUnit) (fun _ => PUnit)
  (fun _ _ => none)
  (fun _ _ => fun _ _ => none)
  (fun a => fun y n => Bool.rec n y a)
  (fun _ => fun _ _ => none)
  (fun _ _ => none)
  (fun _ _ => none)
  (fun _ _ => none)
  (fun _ _ => none)
  (fun _ _ _ => fun _ _ => none)
  (fun _ _ => fun _ _ => none)
  (fun _ _ _ => fun _ _ => none)
  (fun _ _ _ _ _ => fun _ _ => none)
  (fun _ _ => fun _ _ => none)
  (fun _ _ => fun _ _ => none)
  (fun _ _ _ _ _ => fun _ _ => none)
  (fun _ _ => fun _ _ => none)
  (fun _ _ => fun _ _ => none)
  (fun _ _ => fun _ _ => none)
  PUnit.unit (fun _ _ _ _ => PUnit.unit) (PUnit.unit) (fun _ _ _ _ => PUnit.unit) PUnit.unit (fun _ _ _ _ => PUnit.unit) (fun _ _ _ _ => PUnit.unit)

noncomputable def evOpsK (B : Bnd) (l : List Op) : CallK → RoundK → (Nat → List AV) → Nat → Nat → Env → St → (Env → St → Ans) → Ans :=
  List.rec (fun _ _ _ _ _ e s k => k e s) (fun o _ ih => Op.rec (fun dst q g => Option.rec (motive := fun _ => CallK → RoundK → (Nat → List AV) → Nat → Nat → Env → St → (Env → St → Ans) → Ans)
    (fun cl rd G h d e s k => evOK q B cl rd G h d e s fun v s => putK e dst v fun e => ih cl rd G h d e s k)
    (fun p cl rd G h d e s k => isBK (getE e (Prod.rec (fun t _ => t) p)) (Prod.rec (fun _ b => b) p) (evOK q B cl rd G h d e s fun v s => putK e dst v fun e => ih cl rd G h d e s k) (putK e dst (.tup []) fun e => ih cl rd G h d e s k)) g) o) l

noncomputable def iterK (f : Env → St → (Ex → Env → St → Ans) → Ans) (n : Nat) : Env → St → (Ex → Env → St → Ans) → Ans :=
  Nat.rec (fun _ _ _ => none) (fun _ ih e s k => f e s fun x e s => Ex.rec (motive := fun _ => Ans) (ih e s k) (fun i => k (.exit i) e s) (k .ret e s) x) n
noncomputable def tailK (s : St) (k : St → Ans) : Ans := List.rec (motive := fun _ => Ans) none (fun _ s _ => k s) s

noncomputable def clK : AV → Bnd → Nat → (AV → Ans) → Ans :=
  @AV.rec (fun _ => Bnd → Nat → (AV → Ans) → Ans) (fun _ => PUnit) (fun _ => Bnd → Nat → (List AV → Ans) → Ans) (fun _ => PUnit) (fun _ => PUnit)
  (fun _ _ _ => none)
  (fun a b => fun _ _ k => k (.int a b))
  (fun a => fun _ _ k => k (.bool a))
  (fun a => fun _ _ k => k (.str a))
  (fun _ _ k => k .nilP)
  (fun _ _ k => k .nilM)
  (fun _ _ k => k .nilF)
  (fun _ _ k => k .nilI)
  (fun a b _ => fun _ lv k => k (.sl a (clampTok lv b)))
  (fun a _ => fun _ _ k => k (.rp a))
  (fun a b c => fun B lv k => B.ifk (Nat.ble a lv) (k (.ptr a b c)))
  (fun a b c u4 u5 => fun B lv k => B.ifk (Nat.ble a lv) (k (.os a b c u4 u5)))
  (fun a b => fun B lv k => B.ifk (Nat.ble a lv) (k (.mp a b)))
  (fun a _ => fun _ _ k => k (.pm a))
  (fun a _ _ ih ih2 => fun B lv k => ih B lv fun p => ih2 B lv fun q => k (.fn a p q))
  (fun a b => fun B lv k => B.ifk (Nat.ble a lv) (k (.yl a b)))
  (fun _ ih => fun B lv k => ih B lv fun p => k (.agg p))
  (fun _ ih => fun B lv k => ih B lv fun p => k (.tup p))
  PUnit.unit (fun _ _ _ _ => PUnit.unit) (fun _ _ k => k []) (fun _ _ h t B lv k => h B lv fun v => t B lv fun r => k (v :: r)) PUnit.unit (fun _ _ _ _ => PUnit.unit) (fun _ _ _ _ => PUnit.unit)

noncomputable def clKL : List AV → Bnd → Nat → (List AV → Ans) → Ans :=
  @AV.rec_2 (fun _ => Bnd → Nat → (AV → Ans) → Ans) (fun _ => PUnit) (fun _ => Bnd → Nat → (List AV → Ans) → Ans) (fun _ => PUnit) (fun _ => PUnit)
  (fun _ _ _ => none)
  (fun a b => fun _ _ k => k (.int a b))
  (fun a => fun _ _ k => k (.bool a))
  (fun a => fun _ _ k => k (.str a))
  (fun _ _ k => k .nilP)
  (fun _ _ k => k .nilM)
  (fun _ _ k => k .nilF)
  (fun _ _ k => k .nilI)
  (fun a b _ => fun _ lv k => k (.sl a (clampTok lv b)))
  (fun a _ => fun _ _ k => k (.rp a))
  (fun a b c => fun B lv k => B.ifk (Nat.ble a lv) (k (.ptr a b c)))
  (fun a b c u4 u5 => fun B lv k => B.ifk (Nat.ble a lv) (k (.os a b c u4 u5)))
  (fun a b => fun B lv k => B.ifk (Nat.ble a lv) (k (.mp a b)))
  (fun a _ => fun _ _ k => k (.pm a))
  (fun a _ _ ih ih2 => fun B lv k => ih B lv fun p => ih2 B lv fun q => k (.fn a p q))
  (fun a b => fun B lv k => B.ifk (Nat.ble a lv) (k (.yl a b)))
  (fun _ ih => fun B lv k => ih B lv fun p => k (.agg p))
  (fun _ ih => fun B lv k => ih B lv fun p => k (.tup p))
  PUnit.unit (fun _ _ _ _ => PUnit.unit) (fun _ _ k => k []) (fun _ _ h t B lv k => h B lv fun v => t B lv fun r => k (v :: r)) PUnit.unit (fun _ _ _ _ => PUnit.unit) (fun _ _ _ _ => PUnit.unit)

noncomputable def keepK : AV → Bnd → Nat → (AV → Ans) → Ans → Ans :=
  @AV.rec (fun _ => Bnd → Nat → (AV → Ans) → Ans → Ans) (fun _ => PUnit) (fun _ => PUnit) (fun _ => PUnit) (fun _ => PUnit)
  (fun _ _ _ u => u)
  (fun a b => fun B lv k _ => clK (.int a b) B lv k)
  (fun a => fun B lv k _ => clK (.bool a) B lv k)
  (fun a => fun B lv k _ => clK (.str a) B lv k)
  (fun B lv k _ => clK .nilP B lv k)
  (fun B lv k _ => clK .nilM B lv k)
  (fun B lv k _ => clK .nilF B lv k)
  (fun B lv k _ => clK .nilI B lv k)
  (fun a b _ => fun B lv k _ => clK (.sl a b) B lv k)
  (fun a _ => fun B lv k _ => clK (.rp a) B lv k)
  (fun a b c => fun B lv k _ => clK (.ptr a b c) B lv k)
  (fun a b c u4 u5 => fun B lv k _ => clK (.os a b c u4 u5) B lv k)
  (fun a b => fun B lv k _ => clK (.mp a b) B lv k)
  (fun a _ => fun B lv k _ => clK (.pm a) B lv k)
  (fun a b c _ _ => fun B lv k _ => clK (.fn a b c) B lv k)
  (fun a b => fun B lv k _ => clK (.yl a b) B lv k)
  (fun a _ => fun B lv k _ => clK (.agg a) B lv k)
  (fun a _ => fun B lv k _ => clK (.tup a) B lv k)
  PUnit.unit (fun _ _ _ _ => PUnit.unit) (PUnit.unit) (fun _ _ _ _ => PUnit.unit) PUnit.unit (fun _ _ _ _ => PUnit.unit) (fun _ _ _ _ => PUnit.unit)

noncomputable def liveK (B : Bnd) (lv : Nat) (e : Env) (l : List Nat) (k : Env → Ans) : Ans :=
  List.rec (motive := fun _ => (Env → Ans) → Ans) (fun k => k []) (fun t _ ih k => keepK (getE e t) B lv (fun v => ih fun r => k ((t, v) :: r)) (ih k)) l k

noncomputable def rangeK : AV → Bnd → CallK → Nat → Nat → Nat → Env → St → (Ex → Env → St → Ans) → Ans :=
  @AV.rec (fun _ => Bnd → CallK → Nat → Nat → Nat → Env → St → (Ex → Env → St → Ans) → Ans) (fun _ => PUnit) (fun _ => PUnit) (fun _ => PUnit) (fun _ => PUnit)
  (fun _ _ _ _ _ _ _ _ => none)
  (fun _ _ => fun _ _ _ _ _ _ _ _ => none)
  (fun _ => fun _ _ _ _ _ _ _ _ => none)
  (fun _ => fun _ _ _ _ _ _ _ _ => none)
  (fun _ _ _ _ _ _ _ _ => none)
  (fun _ _ _ _ _ _ _ _ => none)
  (fun _ _ _ _ _ _ _ _ => none)
  (fun _ _ _ _ _ _ _ _ => none)
  (fun _ _ _ => fun _ _ _ _ _ _ _ _ => none)
  (fun _ _ => fun _ _ _ _ _ _ _ _ => none)
  (fun _ _ _ => fun _ _ _ _ _ _ _ _ => none)
  (fun _ _ _ _ _ => fun _ _ _ _ _ _ _ _ => none)
  (fun _ _ => fun _ _ _ _ _ _ _ _ => none)
  (fun _ _ => fun _ _ _ _ _ _ _ _ => none)
  (fun a b c _ _ => fun B cl l i d e s k => mapsK (fun v => erK v B) b fun first => cl d a (catK first (.yl l i :: c)) s fun _ s => B.obj d s l i fun o => match o with
        | .loop _ _ _ _ _ true .nrm => B.sob d s l i .dead fun s => k .nrm e s
        | .loop _ _ _ _ _ false (.exit j) => B.sob d s l i .dead fun s => k (.exit j) e s
        | .loop _ _ _ _ _ false .ret => B.sob d s l i .dead fun s => k .ret e s
        | _ => none)
  (fun _ _ => fun _ _ _ _ _ _ _ _ => none)
  (fun _ _ => fun _ _ _ _ _ _ _ _ => none)
  (fun _ _ => fun _ _ _ _ _ _ _ _ => none)
  PUnit.unit (fun _ _ _ _ => PUnit.unit) (PUnit.unit) (fun _ _ _ _ => PUnit.unit) PUnit.unit (fun _ _ _ _ => PUnit.unit) (fun _ _ _ _ => PUnit.unit)

/-- A loop, at most j rounds. -/
noncomputable def loopJ (B : Bnd) (ia : KC) (live : List Nat) (n j : Nat) (cl : CallK) (rd : RoundK) (G : Nat → List AV) (h d : Nat) (e : Env) (s : St) (k : Ex → Env → St → Ans) : Ans :=
  iterK (fun e s k => natK (Nat.succ d) fun d2 => ia n cl rd G h d2 e (⟨[], []⟩ :: s) fun x e s => tailK s fun s2 => liveK B (Nat.pred d) e live fun e => k x e s2) j e s k
noncomputable def evCK (B : Bnd) (c : C) : KC :=
  C.rec (motive := fun _ => KC)
    (fun _ _ _ _ _ _ e s k => k .nrm e s)
    (fun l _ cl rd G h d e s k => evOpsK B l cl rd G h d e s fun e s => k .nrm e s)
    (fun _ _ ia ib n cl rd G h d e s k => ia n cl rd G h d e s fun x e s => Ex.rec (motive := fun _ => Ans) (ib n cl rd G h d e s k) (fun i => k (.exit i) e s) (k .ret e s) x)
    (fun x _ _ ia ib n cl rd G h d e s k => condK (xK x G e) (ia n cl rd G h d e s k) (ib n cl rd G h d e s k))
    (fun i _ ia n cl rd G h d e s k => ia n cl rd G h d e s fun x e s => Ex.rec (motive := fun _ => Ans) (k .nrm e s) (fun j => Bool.rec (k (.exit j) e s) (k .nrm e s) (Nat.beq j i)) (k .ret e s) x)
    (fun live _ ia n cl rd G h d e s k => liveK B (Nat.pred d) e live fun e => B.loop ia live n n cl rd G h d e s k)
    (fun f ps asg body _ _ _ cl _ G h d e s k => newK B d s (.loop e h ps asg body true .nrm) fun l i s => rangeK (xK f G e) B cl l i d e s k)
    (fun i _ _ _ _ _ _ e s k => k (.exit i) e s)
    (fun _ _ _ _ _ _ e s k => k .ret e s)
    (fun ns _ ia n cl rd G h d e s k => optK (rsvAt ns s) fun s => B.fst s fun s => ia n cl rd G h d e s k)
    (fun _ ia n cl rd G h d e s k => ia n cl rd G h d e s k) c

noncomputable def envK (args : List AV) (k : Env → Ans) : Ans := List.rec (motive := fun _ => Nat → (Env → Ans) → Ans) (fun _ k => k []) (fun v _ ih n k => natK (Nat.succ n) fun n2 => ih n2 fun r => k ((n, v) :: r)) args (nat_lit 0) k
noncomputable def resK (B : Bnd) (d : Nat) (s : St) (e : Env) (l : List RV) (k : List AV → Ans) : Ans :=
  List.rec (motive := fun _ => (List AV → Ans) → Ans) (fun k => k []) (fun r _ ih k => RV.rec (motive := fun _ => Ans) (fun t => hdK (getE e t) fun v => ih fun r => k (v :: r)) (fun t n ag => cellsK (getE e t) B d s fun c => ofCellsK n ag c fun v => ih fun r => k (v :: r)) r) l k

noncomputable def simK : AV → Bool :=
  @AV.rec (fun _ => Bool) (fun _ => PUnit) (fun _ => PUnit) (fun _ => PUnit) (fun _ => PUnit)
  (false)
  (fun _ _ => true)
  (fun _ => true)
  (fun _ => true)
  (true)
  (true)
  (true)
  (true)
  (fun _ _ _ => true)
  (fun _ _ => false)
  (fun _ _ _ => false)
  (fun _ _ _ _ _ => false)
  (fun _ _ => false)
  (fun _ _ => false)
  (fun _ _ _ _ _ => false)
  (fun _ _ => false)
  (fun _ _ => false)
  (fun _ _ => false)
  PUnit.unit (fun _ _ _ _ => PUnit.unit) (PUnit.unit) (fun _ _ _ _ => PUnit.unit) PUnit.unit (fun _ _ _ _ => PUnit.unit) (fun _ _ _ _ => PUnit.unit)

noncomputable def frzK (B : Bnd) (l : Nat) (s : St) (v : AV) (k : AV → St → Ans) : Ans := tailK s fun s2 => B.opt (frz s l 1000 v) fun v => fvK v B fun v => k v s2
noncomputable def simsK (c : List AV) : Bool := Bool.rec false (Nat.ble (lenK c) (nat_lit 900)) (allK simK c)

noncomputable def frK1 : AV → Bnd → Nat → St → (AV → St → Ans) → Ans :=
  @AV.rec (fun _ => Bnd → Nat → St → (AV → St → Ans) → Ans) (fun _ => PUnit) (fun _ => PUnit) (fun _ => PUnit) (fun _ => PUnit)
  (fun B l s k => frzK B l s .undef k)
  (fun a b => fun _ _ s k => tailK s fun s2 => k (.int a b) s2)
  (fun a => fun _ _ s k => tailK s fun s2 => k (.bool a) s2)
  (fun a => fun _ _ s k => tailK s fun s2 => k (.str a) s2)
  (fun _ _ s k => tailK s fun s2 => k .nilP s2)
  (fun _ _ s k => tailK s fun s2 => k .nilM s2)
  (fun _ _ s k => tailK s fun s2 => k .nilF s2)
  (fun _ _ s k => tailK s fun s2 => k .nilI s2)
  (fun a b _ => fun B _ s k => tailK s fun s2 => B.tok b fun t => k (.sl a t) s2)
  (fun a _ => fun B l s k => frzK B l s (.rp a) k)
  (fun a b c => fun B l s k => frzK B l s (.ptr a b c) k)
  (fun a b c u4 u5 => fun B l s k => frzK B l s (.os a b c u4 u5) k)
  (fun a b => fun B l s k => frzK B l s (.mp a b) k)
  (fun a _ => fun B l s k => frzK B l s (.pm a) k)
  (fun a b c _ _ => fun B l s k => frzK B l s (.fn a b c) k)
  (fun a b => fun B l s k => frzK B l s (.yl a b) k)
  (fun a _ => fun B l s k => Bool.rec (frzK B l s (.agg a) k) (tailK s fun s2 => mapsK (fun v => erK v B) a fun c => k (.agg c) s2) (simsK a))
  (fun a _ => fun B l s k => Bool.rec (frzK B l s (.tup a) k) (tailK s fun s2 => mapsK (fun v => erK v B) a fun c => k (.tup c) s2) (simsK a))
  PUnit.unit (fun _ _ _ _ => PUnit.unit) (PUnit.unit) (fun _ _ _ _ => PUnit.unit) PUnit.unit (fun _ _ _ _ => PUnit.unit) (fun _ _ _ _ => PUnit.unit)

noncomputable def leaveK (B : Bnd) (mv : Bool) (l : Nat) (s : St) (v : AV) (k : AV → St → Ans) : Ans :=
  Bool.rec (motive := fun _ => Ans) (frK1 v B l s k) (B.opt2 (leave true l s v) fun p => fvK p.1 B fun v => B.fst p.2 fun s => k v s) mv

noncomputable def evKR (B : Bnd) (G : Nat → List AV) (T : Tr) (n : Nat) : CallK × RoundK :=
  Nat.rec (fun _ _ _ _ _ => none, fun _ _ _ _ _ _ => none)
    (fun n ih =>
      (fun d f args s k => optK (T.find f) fun fn => F.rec (fun res body mv np => ifK (Nat.beq (lenK args) np)
        (envK args fun e => natK (Nat.succ d) fun d2 => evCK B body n ih.1 ih.2 G d d2 e (⟨[], []⟩ :: s) fun x e s2 =>
          Ex.rec (motive := fun _ => Ans) (resK B d2 s2 e res fun vs => leaveK B mv d s2 (oneV vs) k) (fun _ => none) (resK B d2 s2 e res fun vs => leaveK B mv d s2 (oneV vs) k) x)) fn,
       fun d l i args s k => B.obj d s l i fun o => match o with
        | .loop env h ps asg body true .nrm => ifK (Nat.beq (lenK ps) (lenK args))
          (natK (Nat.succ d) fun d2 => evCK B asg n ih.1 ih.2 G h d2 ((ps.zip args).reverse ++ env) (⟨[], []⟩ :: s) fun x e s1 => B.obj d2 s1 l i fun o1 => match x, o1 with
            | .nrm, .loop env2 h2 ps2 asg2 body2 true .nrm => B.sob d2 s1 l i (.loop env2 h2 ps2 asg2 body2 false .nrm) fun s1 =>
              evCK B body n ih.1 ih.2 G h d2 e s1 fun x _ s2 => B.obj d2 s2 l i fun o2 => match o2 with
                | .loop env2 h2 ps2 asg2 body2 false .nrm => Ex.rec (motive := fun _ => Ans)
                  (B.sob d2 s2 l i (.loop env2 h2 ps2 asg2 body2 true .nrm) fun s3 => tailK s3 fun s3 => k (.bool true) s3)
                  (fun j => B.sob d2 s2 l i (.loop env2 h2 ps2 asg2 body2 false (.exit j)) fun s3 => tailK s3 fun s3 => k (.bool false) s3)
                  (B.sob d2 s2 l i (.loop env2 h2 ps2 asg2 body2 false .ret) fun s3 => tailK s3 fun s3 => k (.bool false) s3) x
                | _ => none
            | _, _ => none)
        | _ => none)) n
noncomputable def osHK (s : St) (l i o n e : Nat) (k : AV → Ans) : Ans := optK (hand s (.os l i o n e)) fun v => fV v k
/-- The record but for its loops. -/
noncomputable def Bk0 : Bnd where
  lt := ltK
  le := leK
  eq := eqiK
  add := addK
  sub := subK
  opt := optK
  len := lenS
  lens := lenS
  nth := nthS
  nthb := nthS
  byte := byteS
  natOf := natOfI
  pans := pansK
  purs := pursS
  tok := tokK
  osh := osHK
  loop := fun _ _ _ _ _ _ _ _ _ _ _ _ => none
  fint := intK
  fbool := boolK
  fstr := lsK
  frows := fLL
  ftok := fTok
  drop := dropK
  fl := lsK
  opt2 := optK
  ifk := ifK
  fnat := natK
  appo := fun s n b x y k => optK (appoAt s n b x y) fun p => fV p.1 fun v => fSt p.2 fun s => k (v, s)
  obj := objK
  sob := setObjK
  fst := fSt
  optl := optK
/-- The record as it is. -/
noncomputable def Bk : Bnd := { Bk0 with loop := loopJ Bk0 }
noncomputable def evK (G : Nat → List AV) (T : Tr) (n f : Nat) (args : List AV) : Ans := (evKR Bk G T n).1 (nat_lit 0) f args [] ansK
end Go.Ab
