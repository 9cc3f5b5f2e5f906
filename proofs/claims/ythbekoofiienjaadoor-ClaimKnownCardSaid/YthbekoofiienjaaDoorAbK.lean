/-
  The abstract machine, laid out for the kernel: in continuations, by recursors; what it says evF says.
-/
import Derived.Test.YthbekoofiienjaaDoorAb
namespace Go.Ab

abbrev Ans := Option (AV × St)
abbrev CallK := Nat → Nat → List AV → St → (AV → St → Ans) → Ans
abbrev RoundK := Nat → Nat → Nat → List AV → St → (AV → St → Ans) → Ans

/-- A table of functions. -/
inductive Tr where
  | leaf (k : Nat) (f : F)
  | node (m : Nat) (l r : Tr)
  deriving Inhabited

noncomputable def Tr.find : Tr → Nat → Option F := fun t => Tr.rec (fun k f n => Bool.rec none (some f) (Nat.beq k n)) (fun m _ _ il ir n => Bool.rec (ir n) (il n) (Nat.ble n m)) t

noncomputable def getE (e : Env) : Nat → AV := List.rec (fun _ => AV.undef) (fun p _ ih n => Prod.rec (fun k v => Bool.rec (ih n) v (Nat.beq k n)) p) e
noncomputable def nthK {α : Type} (l : List α) : Nat → Option α := List.rec (fun _ => none) (fun a _ ih n => Nat.rec (some a) (fun m _ => ih m) n) l
noncomputable def xK (x : X) : (Nat → List AV) → Env → AV := X.rec (fun n _ e => getE e n) (fun v _ _ => v) (fun n _ _ => .fn n [] []) (fun n G _ => .rp (G n)) x
noncomputable def natK (n : Nat) (k : Nat → Ans) : Ans := Nat.rec (motive := fun _ => (Nat → Ans) → Ans) (fun k => k 0) (fun m _ k => k (Nat.succ m)) n k
noncomputable def intK (n : Int) (k : Int → Ans) : Ans := Int.rec (motive := fun _ => (Int → Ans) → Ans) (fun m k => natK m fun m => k (.ofNat m)) (fun m k => natK m fun m => k (.negSucc m)) n k
noncomputable def boolK (b : Bool) (k : Bool → Ans) : Ans := Bool.rec (k false) (k true) b
noncomputable def lsK {α : Type} (l : List α) (k : List α → Ans) : Ans := List.rec (motive := fun _ => (List α → Ans) → Ans) (fun k => k []) (fun x _ ih k => ih fun l => k (x :: l)) l k
noncomputable def optK {α : Type} (o : Option α) (k : α → Ans) : Ans := Option.rec (motive := fun _ => (α → Ans) → Ans) (fun _ => none) (fun a k => k a) o k
noncomputable def ifK (b : Bool) (k : Ans) : Ans := Bool.rec none k b
noncomputable def lenK {α : Type} (l : List α) : Nat := List.rec 0 (fun _ _ ih => Nat.succ ih) l
noncomputable def catK {α : Type} (l r : List α) : List α := List.rec r (fun x _ ih => x :: ih) l
noncomputable def dropK {α : Type} (l : List α) : Nat → (List α → Ans) → Ans := List.rec (fun _ k => k []) (fun x t ih n k => Nat.rec (k (x :: t)) (fun m _ => ih m k) n) l
noncomputable def takeK {α : Type} (l : List α) : Nat → (List α → Ans) → Ans := List.rec (fun _ k => k []) (fun x _ ih n k => Nat.rec (k []) (fun m _ => ih m fun r => k (x :: r)) n) l
noncomputable def tokK (t : Tok) (k : Tok → Ans) : Ans :=
  Tok.rec (motive := fun _ => (Tok → Ans) → Ans) (fun k => k .nil) (fun k => k .any) (fun k => k .full) (fun _ _ _ k => k .any) t k
noncomputable def purTokK (t : Tok) : Bool := Tok.rec true true true (fun _ _ _ => false) t

noncomputable def hdK : AV → (AV → Ans) → Ans :=
  @AV.rec (fun _ => (AV → Ans) → Ans) (fun _ => PUnit) (fun _ => PUnit) (fun _ => PUnit) (fun _ => PUnit)
  (fun k => k .undef)
  (fun a b => fun k => k (.int a b))
  (fun a => fun k => k (.bool a))
  (fun a => fun k => k (.str a))
  (fun k => k .nilP)
  (fun k => k .nilM)
  (fun k => k .nilF)
  (fun k => k .nilI)
  (fun a b _ => fun k => k (.sl a b))
  (fun a _ => fun k => k (.rp a))
  (fun a b c => fun k => k (.ptr a b c))
  (fun a b c u4 u5 => fun k => k (.os a b c u4 u5))
  (fun a b => fun k => k (.mp a b))
  (fun a _ => fun k => k (.pm a))
  (fun a b c _ _ => fun k => k (.fn a b c))
  (fun a b => fun k => k (.yl a b))
  (fun a _ => fun k => k (.agg a))
  (fun a _ => fun k => k (.tup a))
  PUnit.unit (fun _ _ _ _ => PUnit.unit) (PUnit.unit) (fun _ _ _ _ => PUnit.unit) PUnit.unit (fun _ _ _ _ => PUnit.unit) (fun _ _ _ _ => PUnit.unit)

noncomputable def purK : AV → Bool :=
  @AV.rec (fun _ => Bool) (fun _ => PUnit) (fun _ => Bool) (fun _ => PUnit) (fun _ => PUnit)
  (false)
  (fun _ _ => true)
  (fun _ => true)
  (fun _ => true)
  (true)
  (true)
  (true)
  (true)
  (fun _ b _ => purTokK b)
  (fun _ _ => true)
  (fun _ _ _ => false)
  (fun _ _ _ _ _ => false)
  (fun _ _ => false)
  (fun _ _ => true)
  (fun _ _ _ ih ih2 => Bool.rec false ih2 ih)
  (fun _ _ => false)
  (fun _ ih => ih)
  (fun _ ih => ih)
  PUnit.unit (fun _ _ _ _ => PUnit.unit) (true) (fun _ _ h t => Bool.rec false t h) PUnit.unit (fun _ _ _ _ => PUnit.unit) (fun _ _ _ _ => PUnit.unit)

noncomputable def purKL : List AV → Bool :=
  @AV.rec_2 (fun _ => Bool) (fun _ => PUnit) (fun _ => Bool) (fun _ => PUnit) (fun _ => PUnit)
  (false)
  (fun _ _ => true)
  (fun _ => true)
  (fun _ => true)
  (true)
  (true)
  (true)
  (true)
  (fun _ b _ => purTokK b)
  (fun _ _ => true)
  (fun _ _ _ => false)
  (fun _ _ _ _ _ => false)
  (fun _ _ => false)
  (fun _ _ => true)
  (fun _ _ _ ih ih2 => Bool.rec false ih2 ih)
  (fun _ _ => false)
  (fun _ ih => ih)
  (fun _ ih => ih)
  PUnit.unit (fun _ _ _ _ => PUnit.unit) (true) (fun _ _ h t => Bool.rec false t h) PUnit.unit (fun _ _ _ _ => PUnit.unit) (fun _ _ _ _ => PUnit.unit)

noncomputable def allK (p : AV → Bool) (l : List AV) : Bool := List.rec true (fun v _ ih => Bool.rec false ih (p v)) l
noncomputable def anyK (p : AV → Bool) (l : List AV) : Bool := List.rec false (fun v _ ih => Bool.rec ih true (p v)) l

noncomputable def brwK : AV → Bool :=
  @AV.rec (fun _ => Bool) (fun _ => PUnit) (fun _ => Bool) (fun _ => PUnit) (fun _ => PUnit)
  (false)
  (fun _ _ => false)
  (fun _ => false)
  (fun _ => false)
  (false)
  (false)
  (false)
  (false)
  (fun _ _ _ => false)
  (fun _ _ => false)
  (fun _ _ _ => false)
  (fun _ _ _ _ _ => true)
  (fun _ _ => false)
  (fun _ _ => false)
  (fun _ _ _ ih ih2 => Bool.rec ih2 true ih)
  (fun _ _ => false)
  (fun _ ih => ih)
  (fun _ ih => ih)
  PUnit.unit (fun _ _ _ _ => PUnit.unit) (false) (fun _ _ h t => Bool.rec t true h) PUnit.unit (fun _ _ _ _ => PUnit.unit) (fun _ _ _ _ => PUnit.unit)

noncomputable def brwKL : List AV → Bool :=
  @AV.rec_2 (fun _ => Bool) (fun _ => PUnit) (fun _ => Bool) (fun _ => PUnit) (fun _ => PUnit)
  (false)
  (fun _ _ => false)
  (fun _ => false)
  (fun _ => false)
  (false)
  (false)
  (false)
  (false)
  (fun _ _ _ => false)
  (fun _ _ => false)
  (fun _ _ _ => false)
  (fun _ _ _ _ _ => true)
  (fun _ _ => false)
  (fun _ _ => false)
  (fun _ _ _ ih ih2 => Bool.rec ih2 true ih)
  (fun _ _ => false)
  (fun _ ih => ih)
  (fun _ ih => ih)
  PUnit.unit (fun _ _ _ _ => PUnit.unit) (false) (fun _ _ h t => Bool.rec t true h) PUnit.unit (fun _ _ _ _ => PUnit.unit) (fun _ _ _ _ => PUnit.unit)

noncomputable def flatK : AV → Bool :=
  @AV.rec (fun _ => Bool) (fun _ => PUnit) (fun _ => Bool) (fun _ => PUnit) (fun _ => PUnit)
  (false)
  (fun _ _ => true)
  (fun _ => true)
  (fun _ => true)
  (true)
  (true)
  (true)
  (true)
  (fun a b _ => List.rec (Tok.rec true false false (fun _ _ _ => false) b) (fun _ _ _ => false) a)
  (fun _ _ => false)
  (fun _ _ _ => false)
  (fun _ _ _ _ _ => false)
  (fun _ _ => false)
  (fun _ _ => false)
  (fun _ _ _ _ _ => false)
  (fun _ _ => false)
  (fun _ ih => ih)
  (fun _ ih => ih)
  PUnit.unit (fun _ _ _ _ => PUnit.unit) (true) (fun _ _ h t => Bool.rec false t h) PUnit.unit (fun _ _ _ _ => PUnit.unit) (fun _ _ _ _ => PUnit.unit)

noncomputable def flatKL : List AV → Bool :=
  @AV.rec_2 (fun _ => Bool) (fun _ => PUnit) (fun _ => Bool) (fun _ => PUnit) (fun _ => PUnit)
  (false)
  (fun _ _ => true)
  (fun _ => true)
  (fun _ => true)
  (true)
  (true)
  (true)
  (true)
  (fun a b _ => List.rec (Tok.rec true false false (fun _ _ _ => false) b) (fun _ _ _ => false) a)
  (fun _ _ => false)
  (fun _ _ _ => false)
  (fun _ _ _ _ _ => false)
  (fun _ _ => false)
  (fun _ _ => false)
  (fun _ _ _ _ _ => false)
  (fun _ _ => false)
  (fun _ ih => ih)
  (fun _ ih => ih)
  PUnit.unit (fun _ _ _ _ => PUnit.unit) (true) (fun _ _ h t => Bool.rec false t h) PUnit.unit (fun _ _ _ _ => PUnit.unit) (fun _ _ _ _ => PUnit.unit)

/-- A list of values, each brought through a step. -/
noncomputable def mapsK (f : AV → (AV → Ans) → Ans) (l : List AV) (k : List AV → Ans) : Ans :=
  List.rec (motive := fun _ => (List AV → Ans) → Ans) (fun k => k []) (fun v _ ih k => f v fun v => ih fun r => k (v :: r)) l k

noncomputable def erK : AV → (AV → Ans) → Ans :=
  @AV.rec (fun _ => (AV → Ans) → Ans) (fun _ => PUnit) (fun _ => (List AV → Ans) → Ans) (fun _ => PUnit) (fun _ => PUnit)
  (fun k => k .undef)
  (fun a b => fun k => k (.int a b))
  (fun a => fun k => k (.bool a))
  (fun a => fun k => k (.str a))
  (fun k => k .nilP)
  (fun k => k .nilM)
  (fun k => k .nilF)
  (fun k => k .nilI)
  (fun a b _ => fun k => tokK b fun t => k (.sl a t))
  (fun a _ => fun k => k (.rp a))
  (fun a b c => fun k => k (.ptr a b c))
  (fun a b c u4 u5 => fun k => k (.os a b c u4 u5))
  (fun a b => fun k => k (.mp a b))
  (fun a _ => fun k => k (.pm a))
  (fun a _ _ ih ih2 => fun k => ih fun p => ih2 fun q => k (.fn a p q))
  (fun a b => fun k => k (.yl a b))
  (fun _ ih => fun k => ih fun p => k (.agg p))
  (fun _ ih => fun k => ih fun p => k (.tup p))
  PUnit.unit (fun _ _ _ _ => PUnit.unit) (fun k => k []) (fun _ _ h t k => h fun v => t fun r => k (v :: r)) PUnit.unit (fun _ _ _ _ => PUnit.unit) (fun _ _ _ _ => PUnit.unit)

noncomputable def erKL : List AV → (List AV → Ans) → Ans :=
  @AV.rec_2 (fun _ => (AV → Ans) → Ans) (fun _ => PUnit) (fun _ => (List AV → Ans) → Ans) (fun _ => PUnit) (fun _ => PUnit)
  (fun k => k .undef)
  (fun a b => fun k => k (.int a b))
  (fun a => fun k => k (.bool a))
  (fun a => fun k => k (.str a))
  (fun k => k .nilP)
  (fun k => k .nilM)
  (fun k => k .nilF)
  (fun k => k .nilI)
  (fun a b _ => fun k => tokK b fun t => k (.sl a t))
  (fun a _ => fun k => k (.rp a))
  (fun a b c => fun k => k (.ptr a b c))
  (fun a b c u4 u5 => fun k => k (.os a b c u4 u5))
  (fun a b => fun k => k (.mp a b))
  (fun a _ => fun k => k (.pm a))
  (fun a _ _ ih ih2 => fun k => ih fun p => ih2 fun q => k (.fn a p q))
  (fun a b => fun k => k (.yl a b))
  (fun _ ih => fun k => ih fun p => k (.agg p))
  (fun _ ih => fun k => ih fun p => k (.tup p))
  PUnit.unit (fun _ _ _ _ => PUnit.unit) (fun k => k []) (fun _ _ h t k => h fun v => t fun r => k (v :: r)) PUnit.unit (fun _ _ _ _ => PUnit.unit) (fun _ _ _ _ => PUnit.unit)

noncomputable def osHK (s : St) (l i o n e : Nat) (k : AV → Ans) : Ans := optK (hand s (.os l i o n e)) fun v => fV v k

noncomputable def haK : AV → St → (AV → Ans) → Ans :=
  @AV.rec (fun _ => St → (AV → Ans) → Ans) (fun _ => PUnit) (fun _ => St → (List AV → Ans) → Ans) (fun _ => PUnit) (fun _ => PUnit)
  (fun _ _ => none)
  (fun a b => fun _ k => k (.int a b))
  (fun a => fun _ k => k (.bool a))
  (fun a => fun _ k => k (.str a))
  (fun _ k => k .nilP)
  (fun _ k => k .nilM)
  (fun _ k => k .nilF)
  (fun _ k => k .nilI)
  (fun a b _ => fun _ k => tokK b fun t => k (.sl a t))
  (fun a _ => fun _ k => k (.rp a))
  (fun a b c => fun _ k => k (.ptr a b c))
  (fun a b c u4 u5 => fun s k => osHK s a b c u4 u5 k)
  (fun a b => fun _ k => k (.mp a b))
  (fun a _ => fun _ k => k (.pm a))
  (fun a _ _ ih ih2 => fun s k => ih s fun p => ih2 s fun q => k (.fn a p q))
  (fun a b => fun _ k => k (.yl a b))
  (fun _ ih => fun s k => ih s fun p => k (.agg p))
  (fun _ ih => fun s k => ih s fun p => k (.tup p))
  PUnit.unit (fun _ _ _ _ => PUnit.unit) (fun _ k => k []) (fun _ _ h t s k => h s fun v => t s fun r => k (v :: r)) PUnit.unit (fun _ _ _ _ => PUnit.unit) (fun _ _ _ _ => PUnit.unit)

noncomputable def haKL : List AV → St → (List AV → Ans) → Ans :=
  @AV.rec_2 (fun _ => St → (AV → Ans) → Ans) (fun _ => PUnit) (fun _ => St → (List AV → Ans) → Ans) (fun _ => PUnit) (fun _ => PUnit)
  (fun _ _ => none)
  (fun a b => fun _ k => k (.int a b))
  (fun a => fun _ k => k (.bool a))
  (fun a => fun _ k => k (.str a))
  (fun _ k => k .nilP)
  (fun _ k => k .nilM)
  (fun _ k => k .nilF)
  (fun _ k => k .nilI)
  (fun a b _ => fun _ k => tokK b fun t => k (.sl a t))
  (fun a _ => fun _ k => k (.rp a))
  (fun a b c => fun _ k => k (.ptr a b c))
  (fun a b c u4 u5 => fun s k => osHK s a b c u4 u5 k)
  (fun a b => fun _ k => k (.mp a b))
  (fun a _ => fun _ k => k (.pm a))
  (fun a _ _ ih ih2 => fun s k => ih s fun p => ih2 s fun q => k (.fn a p q))
  (fun a b => fun _ k => k (.yl a b))
  (fun _ ih => fun s k => ih s fun p => k (.agg p))
  (fun _ ih => fun s k => ih s fun p => k (.tup p))
  PUnit.unit (fun _ _ _ _ => PUnit.unit) (fun _ k => k []) (fun _ _ h t s k => h s fun v => t s fun r => k (v :: r)) PUnit.unit (fun _ _ _ _ => PUnit.unit) (fun _ _ _ _ => PUnit.unit)

/-- The frame of a level, the frames being d. -/
noncomputable def frK (d : Nat) (s : St) (l : Nat) : Option Fr := Nat.rec (motive := fun _ => St → Option Fr) (fun _ => none) (fun m _ s => nthK s m) (Nat.sub d l) s
noncomputable def objK (d : Nat) (s : St) (l i : Nat) (k : AObj → Ans) : Ans := optK (frK d s l) fun f => optK (nthK (Fr.rec (fun os _ => os) f) i) k
noncomputable def cellsObK (o : AObj) : (List AV → Ans) → Ans := AObj.rec (fun c k => k c) (fun _ _ => none) (fun _ _ _ _ _ _ _ _ => none) (fun _ => none) (fun _ _ => none) (fun _ _ => none) o

noncomputable def cellsK : AV → Nat → St → (List AV → Ans) → Ans :=
  @AV.rec (fun _ => Nat → St → (List AV → Ans) → Ans) (fun _ => PUnit) (fun _ => PUnit) (fun _ => PUnit) (fun _ => PUnit)
  (fun _ _ _ => none)
  (fun _ _ => fun _ _ _ => none)
  (fun _ => fun _ _ _ => none)
  (fun _ => fun _ _ _ => none)
  (fun _ _ _ => none)
  (fun _ _ _ => none)
  (fun _ _ _ => none)
  (fun _ _ _ => none)
  (fun _ _ _ => fun _ _ _ => none)
  (fun a _ => fun _ _ k => k a)
  (fun a b c => fun d s k => objK d s a b fun ob => cellsObK ob fun l => dropK l c k)
  (fun _ _ _ _ _ => fun _ _ _ => none)
  (fun _ _ => fun _ _ _ => none)
  (fun _ _ => fun _ _ _ => none)
  (fun _ _ _ _ _ => fun _ _ _ => none)
  (fun _ _ => fun _ _ _ => none)
  (fun _ _ => fun _ _ _ => none)
  (fun _ _ => fun _ _ _ => none)
  PUnit.unit (fun _ _ _ _ => PUnit.unit) (PUnit.unit) (fun _ _ _ _ => PUnit.unit) PUnit.unit (fun _ _ _ _ => PUnit.unit) (fun _ _ _ _ => PUnit.unit)

/-- Objects changed. -/
noncomputable def setNthK {α : Type} (l : List α) (a : α) : Nat → (List α → Ans) → Ans := List.rec (fun _ k => k []) (fun x r ih n k => Nat.rec (k (a :: r)) (fun m _ => ih m fun l => k (x :: l)) n) l
noncomputable def setFrK (s : St) (i : Nat) (o : AObj) : Nat → (St → Ans) → Ans :=
  List.rec (fun _ k => k []) (fun f r ih n k => Nat.rec (Fr.rec (fun os t => setNthK os o i fun os => k (⟨os, t⟩ :: r)) f) (fun m _ => ih m fun s => k (f :: s)) n) s
noncomputable def setObjK (d : Nat) (s : St) (l i : Nat) (o : AObj) (k : St → Ans) : Ans :=
  Nat.rec (motive := fun _ => Ans) (k s) (fun m _ => setFrK s i o m k) (Nat.sub d l)
noncomputable def appK {α : Type} (l : List α) (a : α) (k : List α → Ans) : Ans := List.rec (motive := fun _ => (List α → Ans) → Ans) (fun k => k [a]) (fun x _ ih k => ih fun l => k (x :: l)) l k
noncomputable def newK (d : Nat) (s : St) (o : AObj) (k : Nat → Nat → St → Ans) : Ans :=
  List.rec (motive := fun _ => Ans) none (fun f r _ => Fr.rec (fun os t => natK (lenK os) fun i => appK os o fun os => natK (Nat.pred d) fun l => k l i (⟨os, t⟩ :: r)) f) s

/-- A value of n cells. -/
noncomputable def ofCellsK (n : Nat) (ag : Bool) (c : List AV) (k : AV → Ans) : Ans :=
  Bool.rec (motive := fun _ => Ans) (List.rec (motive := fun _ => Ans) none (fun v _ _ => hdK v k) c) (ifK (Nat.ble n (lenK c)) (takeK c n fun c => k (.agg c))) ag
noncomputable def putK (e : Env) (d : Option Nat) (v : AV) (k : Env → Ans) : Ans := Option.rec (motive := fun _ => Ans) (k e) (fun t => k ((t, v) :: e)) d

noncomputable def ansK (v : AV) (s : St) : Ans := some (v, s)
abbrev OpK := CallK → RoundK → (Nat → List AV) → Nat → Nat → Env → St → (AV → St → Ans) → Ans

noncomputable def callK : AV → CallK → RoundK → Nat → St → List AV → (AV → St → Ans) → Ans :=
  @AV.rec (fun _ => CallK → RoundK → Nat → St → List AV → (AV → St → Ans) → Ans) (fun _ => PUnit) (fun _ => PUnit) (fun _ => PUnit) (fun _ => PUnit)
  (fun _ _ _ _ _ _ => none)
  (fun _ _ => fun _ _ _ _ _ _ => none)
  (fun _ => fun _ _ _ _ _ _ => none)
  (fun _ => fun _ _ _ _ _ _ => none)
  (fun _ _ _ _ _ _ => none)
  (fun _ _ _ _ _ _ => none)
  (fun _ _ _ _ _ _ => none)
  (fun _ _ _ _ _ _ => none)
  (fun _ _ _ => fun _ _ _ _ _ _ => none)
  (fun _ _ => fun _ _ _ _ _ _ => none)
  (fun _ _ _ => fun _ _ _ _ _ _ => none)
  (fun _ _ _ _ _ => fun _ _ _ _ _ _ => none)
  (fun _ _ => fun _ _ _ _ _ _ => none)
  (fun _ _ => fun _ _ _ _ _ _ => none)
  (fun a b c _ _ => fun cl _ d s args k => mapsK erK (catK b args) fun as => cl d a (catK as c) s k)
  (fun a b => fun _ rd d s args k => mapsK erK args fun as => rd d a b as s k)
  (fun _ _ => fun _ _ _ _ _ _ => none)
  (fun _ _ => fun _ _ _ _ _ _ => none)
  PUnit.unit (fun _ _ _ _ => PUnit.unit) (PUnit.unit) (fun _ _ _ _ => PUnit.unit) PUnit.unit (fun _ _ _ _ => PUnit.unit) (fun _ _ _ _ => PUnit.unit)

noncomputable def pcallK : AV → CallK → St → List AV → (AV → St → Ans) → Ans :=
  @AV.rec (fun _ => CallK → St → List AV → (AV → St → Ans) → Ans) (fun _ => PUnit) (fun _ => PUnit) (fun _ => PUnit) (fun _ => PUnit)
  (fun _ _ _ _ => none)
  (fun _ _ => fun _ _ _ _ => none)
  (fun _ => fun _ _ _ _ => none)
  (fun _ => fun _ _ _ _ => none)
  (fun _ _ _ _ => none)
  (fun _ _ _ _ => none)
  (fun _ _ _ _ => none)
  (fun _ _ _ _ => none)
  (fun _ _ _ => fun _ _ _ _ => none)
  (fun _ _ => fun _ _ _ _ => none)
  (fun _ _ _ => fun _ _ _ _ => none)
  (fun _ _ _ _ _ => fun _ _ _ _ => none)
  (fun _ _ => fun _ _ _ _ => none)
  (fun _ _ => fun _ _ _ _ => none)
  (fun a b c _ _ => fun cl s args k => mapsK (fun v => haK v s) (catK b args) fun as => ifK (allK purK as) (ifK (allK purK c) (optK (cl (nat_lit 0) a (catK as c) [] ansK) fun p => Prod.rec (fun v _ => hdK v fun v => Bool.rec (ifK (Bool.not (anyK brwK (catK b args))) (k v s)) (k v s) (flatK v)) p)))
  (fun _ _ => fun _ _ _ _ => none)
  (fun _ _ => fun _ _ _ _ => none)
  (fun _ _ => fun _ _ _ _ => none)
  PUnit.unit (fun _ _ _ _ => PUnit.unit) (PUnit.unit) (fun _ _ _ _ => PUnit.unit) PUnit.unit (fun _ _ _ _ => PUnit.unit) (fun _ _ _ _ => PUnit.unit)

noncomputable def cellsOfK : AV → (List AV → Ans) → Ans :=
  @AV.rec (fun _ => (List AV → Ans) → Ans) (fun _ => PUnit) (fun _ => PUnit) (fun _ => PUnit) (fun _ => PUnit)
  (fun _ => none)
  (fun a b => fun k => k [(.int a b)])
  (fun a => fun k => k [(.bool a)])
  (fun a => fun k => k [(.str a)])
  (fun k => k [.nilP])
  (fun k => k [.nilM])
  (fun k => k [.nilF])
  (fun k => k [.nilI])
  (fun a b _ => fun k => k [(.sl a b)])
  (fun a _ => fun k => k [(.rp a)])
  (fun a b c => fun k => k [(.ptr a b c)])
  (fun a b c u4 u5 => fun k => k [(.os a b c u4 u5)])
  (fun a b => fun k => k [(.mp a b)])
  (fun a _ => fun k => k [(.pm a)])
  (fun a b c _ _ => fun k => k [(.fn a b c)])
  (fun a b => fun k => k [(.yl a b)])
  (fun a _ => fun k => k a)
  (fun _ _ => fun _ => none)
  PUnit.unit (fun _ _ _ _ => PUnit.unit) (PUnit.unit) (fun _ _ _ _ => PUnit.unit) PUnit.unit (fun _ _ _ _ => PUnit.unit) (fun _ _ _ _ => PUnit.unit)

noncomputable def ltK (a b : Int) (k : Bool → Ans) : Ans :=
  Int.rec (motive := fun _ => Ans) (fun m => Int.rec (motive := fun _ => Ans) (fun n => boolK (Nat.ble (Nat.succ m) n) k) (fun _ => k false) b) (fun m => Int.rec (motive := fun _ => Ans) (fun _ => k true) (fun n => boolK (Nat.ble (Nat.succ n) m) k) b) a
noncomputable def leK (a b : Int) (k : Bool → Ans) : Ans :=
  Int.rec (motive := fun _ => Ans) (fun m => Int.rec (motive := fun _ => Ans) (fun n => boolK (Nat.ble m n) k) (fun _ => k false) b) (fun m => Int.rec (motive := fun _ => Ans) (fun _ => k true) (fun n => boolK (Nat.ble n m) k) b) a
noncomputable def eqiK (a b : Int) (k : Bool → Ans) : Ans :=
  Int.rec (motive := fun _ => Ans) (fun m => Int.rec (motive := fun _ => Ans) (fun n => boolK (Nat.beq m n) k) (fun _ => k false) b) (fun m => Int.rec (motive := fun _ => Ans) (fun _ => k false) (fun n => boolK (Nat.beq m n) k) b) a
noncomputable def wrpK (q : IntKind) (n : Int) (k : AV → Ans) : Ans := intK n fun n => Bool.rec (intK (q.wrap n) fun n => k (.int q n)) (k (.int q n)) (fits q n)
noncomputable def addK (q : IntKind) (a b : Int) (k : AV → Ans) : Ans :=
  Int.rec (motive := fun _ => Ans) (fun m => Int.rec (motive := fun _ => Ans) (fun n => wrpK q (.ofNat (Nat.add m n)) k) (fun n => wrpK q (Int.add (.ofNat m) (.negSucc n)) k) b) (fun m => wrpK q (Int.add (.negSucc m) b) k) a
noncomputable def subK (q : IntKind) (a b : Int) (k : AV → Ans) : Ans :=
  Int.rec (motive := fun _ => Ans) (fun m => Int.rec (motive := fun _ => Ans) (fun n => Bool.rec (wrpK q (Int.sub (.ofNat m) (.ofNat n)) k) (wrpK q (.ofNat (Nat.sub m n)) k) (Nat.ble n m)) (fun n => wrpK q (Int.sub (.ofNat m) (.negSucc n)) k) b) (fun m => wrpK q (Int.sub (.negSucc m) b) k) a

noncomputable def kix (q : IntKind) : Nat := @IntKind.rec (fun _ => Nat) (nat_lit 0) (nat_lit 1) (nat_lit 2) (nat_lit 3) (nat_lit 4) (nat_lit 5) (nat_lit 6) (nat_lit 7) q

noncomputable def binIK (op : BinOp) : IntKind → IntKind → Int → Int → (AV → Ans) → Ans := @BinOp.rec (fun _ => IntKind → IntKind → Int → Int → (AV → Ans) → Ans)
  (fun q q2 a b k => ifK (Nat.beq (kix q) (kix q2)) (addK q a b k))
  (fun q q2 a b k => ifK (Nat.beq (kix q) (kix q2)) (subK q a b k))
  (fun q q2 a b k => optK (binAV .mul (.int q a) (.int q2 b)) fun v => fV v k)
  (fun q q2 a b k => optK (binAV .quo (.int q a) (.int q2 b)) fun v => fV v k)
  (fun q q2 a b k => optK (binAV .rem (.int q a) (.int q2 b)) fun v => fV v k)
  (fun q q2 a b k => optK (binAV .and (.int q a) (.int q2 b)) fun v => fV v k)
  (fun q q2 a b k => optK (binAV .or (.int q a) (.int q2 b)) fun v => fV v k)
  (fun q q2 a b k => optK (binAV .xor (.int q a) (.int q2 b)) fun v => fV v k)
  (fun q q2 a b k => optK (binAV .shl (.int q a) (.int q2 b)) fun v => fV v k)
  (fun q q2 a b k => optK (binAV .shr (.int q a) (.int q2 b)) fun v => fV v k)
  (fun q q2 a b k => optK (binAV .andNot (.int q a) (.int q2 b)) fun v => fV v k)
  (fun q q2 a b k => ifK (Nat.beq (kix q) (kix q2)) (eqiK a b fun t => k (.bool t)))
  (fun q q2 a b k => ifK (Nat.beq (kix q) (kix q2)) (eqiK a b fun t => boolK (Bool.not t) fun t => k (.bool t)))
  (fun q q2 a b k => ifK (Nat.beq (kix q) (kix q2)) (ltK a b fun t => k (.bool t)))
  (fun q q2 a b k => ifK (Nat.beq (kix q) (kix q2)) (leK a b fun t => k (.bool t)))
  (fun q q2 a b k => ifK (Nat.beq (kix q) (kix q2)) (ltK b a fun t => k (.bool t)))
  (fun q q2 a b k => ifK (Nat.beq (kix q) (kix q2)) (leK b a fun t => k (.bool t))) op

noncomputable def binK2 : AV → BinOp → IntKind → Int → (AV → Ans) → Ans :=
  @AV.rec (fun _ => BinOp → IntKind → Int → (AV → Ans) → Ans) (fun _ => PUnit) (fun _ => PUnit) (fun _ => PUnit) (fun _ => PUnit)
  (fun op q n k => optK (binAV op (.int q n) .undef) fun v => fV v k)
  (fun a b => fun op q n k => binIK op q a n b k)
  (fun a => fun op q n k => optK (binAV op (.int q n) (.bool a)) fun v => fV v k)
  (fun a => fun op q n k => optK (binAV op (.int q n) (.str a)) fun v => fV v k)
  (fun op q n k => optK (binAV op (.int q n) .nilP) fun v => fV v k)
  (fun op q n k => optK (binAV op (.int q n) .nilM) fun v => fV v k)
  (fun op q n k => optK (binAV op (.int q n) .nilF) fun v => fV v k)
  (fun op q n k => optK (binAV op (.int q n) .nilI) fun v => fV v k)
  (fun a b _ => fun op q n k => optK (binAV op (.int q n) (.sl a b)) fun v => fV v k)
  (fun a _ => fun op q n k => optK (binAV op (.int q n) (.rp a)) fun v => fV v k)
  (fun a b c => fun op q n k => optK (binAV op (.int q n) (.ptr a b c)) fun v => fV v k)
  (fun a b c u4 u5 => fun op q n k => optK (binAV op (.int q n) (.os a b c u4 u5)) fun v => fV v k)
  (fun a b => fun op q n k => optK (binAV op (.int q n) (.mp a b)) fun v => fV v k)
  (fun a _ => fun op q n k => optK (binAV op (.int q n) (.pm a)) fun v => fV v k)
  (fun a b c _ _ => fun op q n k => optK (binAV op (.int q n) (.fn a b c)) fun v => fV v k)
  (fun a b => fun op q n k => optK (binAV op (.int q n) (.yl a b)) fun v => fV v k)
  (fun a _ => fun op q n k => optK (binAV op (.int q n) (.agg a)) fun v => fV v k)
  (fun a _ => fun op q n k => optK (binAV op (.int q n) (.tup a)) fun v => fV v k)
  PUnit.unit (fun _ _ _ _ => PUnit.unit) (PUnit.unit) (fun _ _ _ _ => PUnit.unit) PUnit.unit (fun _ _ _ _ => PUnit.unit) (fun _ _ _ _ => PUnit.unit)

noncomputable def binK : AV → BinOp → AV → (AV → Ans) → Ans :=
  @AV.rec (fun _ => BinOp → AV → (AV → Ans) → Ans) (fun _ => PUnit) (fun _ => PUnit) (fun _ => PUnit) (fun _ => PUnit)
  (fun op y k => optK (binAV op .undef y) fun v => fV v k)
  (fun a b => fun op y k => binK2 y op a b k)
  (fun a => fun op y k => optK (binAV op (.bool a) y) fun v => fV v k)
  (fun a => fun op y k => optK (binAV op (.str a) y) fun v => fV v k)
  (fun op y k => optK (binAV op .nilP y) fun v => fV v k)
  (fun op y k => optK (binAV op .nilM y) fun v => fV v k)
  (fun op y k => optK (binAV op .nilF y) fun v => fV v k)
  (fun op y k => optK (binAV op .nilI y) fun v => fV v k)
  (fun a b _ => fun op y k => optK (binAV op (.sl a b) y) fun v => fV v k)
  (fun a _ => fun op y k => optK (binAV op (.rp a) y) fun v => fV v k)
  (fun a b c => fun op y k => optK (binAV op (.ptr a b c) y) fun v => fV v k)
  (fun a b c u4 u5 => fun op y k => optK (binAV op (.os a b c u4 u5) y) fun v => fV v k)
  (fun a b => fun op y k => optK (binAV op (.mp a b) y) fun v => fV v k)
  (fun a _ => fun op y k => optK (binAV op (.pm a) y) fun v => fV v k)
  (fun a b c _ _ => fun op y k => optK (binAV op (.fn a b c) y) fun v => fV v k)
  (fun a b => fun op y k => optK (binAV op (.yl a b) y) fun v => fV v k)
  (fun a _ => fun op y k => optK (binAV op (.agg a) y) fun v => fV v k)
  (fun a _ => fun op y k => optK (binAV op (.tup a) y) fun v => fV v k)
  PUnit.unit (fun _ _ _ _ => PUnit.unit) (PUnit.unit) (fun _ _ _ _ => PUnit.unit) PUnit.unit (fun _ _ _ _ => PUnit.unit) (fun _ _ _ _ => PUnit.unit)

noncomputable def notK : AV → (AV → Ans) → Ans :=
  @AV.rec (fun _ => (AV → Ans) → Ans) (fun _ => PUnit) (fun _ => PUnit) (fun _ => PUnit) (fun _ => PUnit)
  (fun _ => none)
  (fun _ _ => fun _ => none)
  (fun a => fun k => boolK (Bool.not a) fun b => k (.bool b))
  (fun _ => fun _ => none)
  (fun _ => none)
  (fun _ => none)
  (fun _ => none)
  (fun _ => none)
  (fun _ _ _ => fun _ => none)
  (fun _ _ => fun _ => none)
  (fun _ _ _ => fun _ => none)
  (fun _ _ _ _ _ => fun _ => none)
  (fun _ _ => fun _ => none)
  (fun _ _ => fun _ => none)
  (fun _ _ _ _ _ => fun _ => none)
  (fun _ _ => fun _ => none)
  (fun _ _ => fun _ => none)
  (fun _ _ => fun _ => none)
  PUnit.unit (fun _ _ _ _ => PUnit.unit) (PUnit.unit) (fun _ _ _ _ => PUnit.unit) PUnit.unit (fun _ _ _ _ => PUnit.unit) (fun _ _ _ _ => PUnit.unit)

noncomputable def pickK : AV → AV → AV → (AV → Ans) → Ans :=
  @AV.rec (fun _ => AV → AV → (AV → Ans) → Ans) (fun _ => PUnit) (fun _ => PUnit) (fun _ => PUnit) (fun _ => PUnit)
  (fun _ _ _ => none)
  (fun _ _ => fun _ _ _ => none)
  (fun a => fun x y k => Bool.rec (hdK y k) (hdK x k) a)
  (fun _ => fun _ _ _ => none)
  (fun _ _ _ => none)
  (fun _ _ _ => none)
  (fun _ _ _ => none)
  (fun _ _ _ => none)
  (fun _ _ _ => fun _ _ _ => none)
  (fun _ _ => fun _ _ _ => none)
  (fun _ _ _ => fun _ _ _ => none)
  (fun _ _ _ _ _ => fun _ _ _ => none)
  (fun _ _ => fun _ _ _ => none)
  (fun _ _ => fun _ _ _ => none)
  (fun _ _ _ _ _ => fun _ _ _ => none)
  (fun _ _ => fun _ _ _ => none)
  (fun _ _ => fun _ _ _ => none)
  (fun _ _ => fun _ _ _ => none)
  PUnit.unit (fun _ _ _ _ => PUnit.unit) (PUnit.unit) (fun _ _ _ _ => PUnit.unit) PUnit.unit (fun _ _ _ _ => PUnit.unit) (fun _ _ _ _ => PUnit.unit)

noncomputable def fadK : AV → Nat → (AV → Ans) → Ans :=
  @AV.rec (fun _ => Nat → (AV → Ans) → Ans) (fun _ => PUnit) (fun _ => PUnit) (fun _ => PUnit) (fun _ => PUnit)
  (fun _ _ => none)
  (fun _ _ => fun _ _ => none)
  (fun _ => fun _ _ => none)
  (fun _ => fun _ _ => none)
  (fun _ _ => none)
  (fun _ _ => none)
  (fun _ _ => none)
  (fun _ _ => none)
  (fun _ _ _ => fun _ _ => none)
  (fun a _ => fun off k => dropK a off fun c => k (.rp c))
  (fun a b c => fun off k => natK (Nat.add c off) fun o => k (.ptr a b o))
  (fun _ _ _ _ _ => fun _ _ => none)
  (fun _ _ => fun _ _ => none)
  (fun _ _ => fun _ _ => none)
  (fun _ _ _ _ _ => fun _ _ => none)
  (fun _ _ => fun _ _ => none)
  (fun _ _ => fun _ _ => none)
  (fun _ _ => fun _ _ => none)
  PUnit.unit (fun _ _ _ _ => PUnit.unit) (PUnit.unit) (fun _ _ _ _ => PUnit.unit) PUnit.unit (fun _ _ _ _ => PUnit.unit) (fun _ _ _ _ => PUnit.unit)

noncomputable def iadK2 : AV → Nat → Nat → (AV → Ans) → Ans :=
  @AV.rec (fun _ => Nat → Nat → (AV → Ans) → Ans) (fun _ => PUnit) (fun _ => PUnit) (fun _ => PUnit) (fun _ => PUnit)
  (fun _ _ _ => none)
  (fun _ _ => fun _ _ _ => none)
  (fun _ => fun _ _ _ => none)
  (fun _ => fun _ _ _ => none)
  (fun _ _ _ => none)
  (fun _ _ _ => none)
  (fun _ _ _ => none)
  (fun _ _ _ => none)
  (fun a _ _ => fun e m k => optK (nthK a m) fun row => ifK (Nat.beq (lenK row) e) (k (.rp row)))
  (fun _ _ => fun _ _ _ => none)
  (fun _ _ _ => fun _ _ _ => none)
  (fun a b c u4 u5 => fun e m k => ifK (Nat.ble (Nat.succ m) u4) (ifK (Nat.beq e u5) (natK (Nat.add c (Nat.mul m e)) fun o => k (.ptr a b o))))
  (fun _ _ => fun _ _ _ => none)
  (fun _ _ => fun _ _ _ => none)
  (fun _ _ _ _ _ => fun _ _ _ => none)
  (fun _ _ => fun _ _ _ => none)
  (fun _ _ => fun _ _ _ => none)
  (fun _ _ => fun _ _ _ => none)
  PUnit.unit (fun _ _ _ _ => PUnit.unit) (PUnit.unit) (fun _ _ _ _ => PUnit.unit) PUnit.unit (fun _ _ _ _ => PUnit.unit) (fun _ _ _ _ => PUnit.unit)

noncomputable def natOfK : AV → (Nat → Ans) → Ans :=
  @AV.rec (fun _ => (Nat → Ans) → Ans) (fun _ => PUnit) (fun _ => PUnit) (fun _ => PUnit) (fun _ => PUnit)
  (fun _ => none)
  (fun _ b => fun k => Int.rec (motive := fun _ => Ans) (fun m => k m) (fun _ => none) b)
  (fun _ => fun _ => none)
  (fun _ => fun _ => none)
  (fun _ => none)
  (fun _ => none)
  (fun _ => none)
  (fun _ => none)
  (fun _ _ _ => fun _ => none)
  (fun _ _ => fun _ => none)
  (fun _ _ _ => fun _ => none)
  (fun _ _ _ _ _ => fun _ => none)
  (fun _ _ => fun _ => none)
  (fun _ _ => fun _ => none)
  (fun _ _ _ _ _ => fun _ => none)
  (fun _ _ => fun _ => none)
  (fun _ _ => fun _ => none)
  (fun _ _ => fun _ => none)
  PUnit.unit (fun _ _ _ _ => PUnit.unit) (PUnit.unit) (fun _ _ _ _ => PUnit.unit) PUnit.unit (fun _ _ _ _ => PUnit.unit) (fun _ _ _ _ => PUnit.unit)

noncomputable def lenVK : AV → (AV → Ans) → Ans :=
  @AV.rec (fun _ => (AV → Ans) → Ans) (fun _ => PUnit) (fun _ => PUnit) (fun _ => PUnit) (fun _ => PUnit)
  (fun _ => none)
  (fun _ _ => fun _ => none)
  (fun _ => fun _ => none)
  (fun _ => fun _ => none)
  (fun _ => none)
  (fun _ => none)
  (fun _ => none)
  (fun _ => none)
  (fun a _ _ => fun k => natK (lenK a) fun n => k (.int .i64 (.ofNat n)))
  (fun _ _ => fun _ => none)
  (fun _ _ _ => fun _ => none)
  (fun _ _ _ u4 _ => fun k => k (.int .i64 (.ofNat u4)))
  (fun _ _ => fun _ => none)
  (fun _ _ => fun _ => none)
  (fun _ _ _ _ _ => fun _ => none)
  (fun _ _ => fun _ => none)
  (fun _ _ => fun _ => none)
  (fun _ _ => fun _ => none)
  PUnit.unit (fun _ _ _ _ => PUnit.unit) (PUnit.unit) (fun _ _ _ _ => PUnit.unit) PUnit.unit (fun _ _ _ _ => PUnit.unit) (fun _ _ _ _ => PUnit.unit)

noncomputable def lensVK : AV → (AV → Ans) → Ans :=
  @AV.rec (fun _ => (AV → Ans) → Ans) (fun _ => PUnit) (fun _ => PUnit) (fun _ => PUnit) (fun _ => PUnit)
  (fun _ => none)
  (fun _ _ => fun _ => none)
  (fun _ => fun _ => none)
  (fun a => fun k => natK (lenK a) fun n => k (.int .i64 (.ofNat n)))
  (fun _ => none)
  (fun _ => none)
  (fun _ => none)
  (fun _ => none)
  (fun _ _ _ => fun _ => none)
  (fun _ _ => fun _ => none)
  (fun _ _ _ => fun _ => none)
  (fun _ _ _ _ _ => fun _ => none)
  (fun _ _ => fun _ => none)
  (fun _ _ => fun _ => none)
  (fun _ _ _ _ _ => fun _ => none)
  (fun _ _ => fun _ => none)
  (fun _ _ => fun _ => none)
  (fun _ _ => fun _ => none)
  PUnit.unit (fun _ _ _ _ => PUnit.unit) (PUnit.unit) (fun _ _ _ _ => PUnit.unit) PUnit.unit (fun _ _ _ _ => PUnit.unit) (fun _ _ _ _ => PUnit.unit)

noncomputable def extK : AV → Nat → (AV → Ans) → Ans :=
  @AV.rec (fun _ => Nat → (AV → Ans) → Ans) (fun _ => PUnit) (fun _ => PUnit) (fun _ => PUnit) (fun _ => PUnit)
  (fun _ _ => none)
  (fun _ _ => fun _ _ => none)
  (fun _ => fun _ _ => none)
  (fun _ => fun _ _ => none)
  (fun _ _ => none)
  (fun _ _ => none)
  (fun _ _ => none)
  (fun _ _ => none)
  (fun _ _ _ => fun _ _ => none)
  (fun _ _ => fun _ _ => none)
  (fun _ _ _ => fun _ _ => none)
  (fun _ _ _ _ _ => fun _ _ => none)
  (fun _ _ => fun _ _ => none)
  (fun _ _ => fun _ _ => none)
  (fun _ _ _ _ _ => fun _ _ => none)
  (fun _ _ => fun _ _ => none)
  (fun _ _ => fun _ _ => none)
  (fun a _ => fun i k => optK (nthK a i) fun v => hdK v k)
  PUnit.unit (fun _ _ _ _ => PUnit.unit) (PUnit.unit) (fun _ _ _ _ => PUnit.unit) PUnit.unit (fun _ _ _ _ => PUnit.unit) (fun _ _ _ _ => PUnit.unit)

noncomputable def fieldK : AV → Nat → Nat → Bool → (AV → Ans) → Ans :=
  @AV.rec (fun _ => Nat → Nat → Bool → (AV → Ans) → Ans) (fun _ => PUnit) (fun _ => PUnit) (fun _ => PUnit) (fun _ => PUnit)
  (fun _ _ _ _ => none)
  (fun _ _ => fun _ _ _ _ => none)
  (fun _ => fun _ _ _ _ => none)
  (fun _ => fun _ _ _ _ => none)
  (fun _ _ _ _ => none)
  (fun _ _ _ _ => none)
  (fun _ _ _ _ => none)
  (fun _ _ _ _ => none)
  (fun _ _ _ => fun _ _ _ _ => none)
  (fun _ _ => fun _ _ _ _ => none)
  (fun _ _ _ => fun _ _ _ _ => none)
  (fun _ _ _ _ _ => fun _ _ _ _ => none)
  (fun _ _ => fun _ _ _ _ => none)
  (fun _ _ => fun _ _ _ _ => none)
  (fun _ _ _ _ _ => fun _ _ _ _ => none)
  (fun _ _ => fun _ _ _ _ => none)
  (fun a _ => fun off n ag k => dropK a off fun c => ofCellsK n ag c k)
  (fun _ _ => fun _ _ _ _ => none)
  PUnit.unit (fun _ _ _ _ => PUnit.unit) (PUnit.unit) (fun _ _ _ _ => PUnit.unit) PUnit.unit (fun _ _ _ _ => PUnit.unit) (fun _ _ _ _ => PUnit.unit)

noncomputable def ixsK : AV → Nat → (AV → Ans) → Ans :=
  @AV.rec (fun _ => Nat → (AV → Ans) → Ans) (fun _ => PUnit) (fun _ => PUnit) (fun _ => PUnit) (fun _ => PUnit)
  (fun _ _ => none)
  (fun _ _ => fun _ _ => none)
  (fun _ => fun _ _ => none)
  (fun a => fun m k => optK (nthK a m) fun b => natK b.toNat fun n => k (.int .u8 (.ofNat n)))
  (fun _ _ => none)
  (fun _ _ => none)
  (fun _ _ => none)
  (fun _ _ => none)
  (fun _ _ _ => fun _ _ => none)
  (fun _ _ => fun _ _ => none)
  (fun _ _ _ => fun _ _ => none)
  (fun _ _ _ _ _ => fun _ _ => none)
  (fun _ _ => fun _ _ => none)
  (fun _ _ => fun _ _ => none)
  (fun _ _ _ _ _ => fun _ _ => none)
  (fun _ _ => fun _ _ => none)
  (fun _ _ => fun _ _ => none)
  (fun _ _ => fun _ _ => none)
  PUnit.unit (fun _ _ _ _ => PUnit.unit) (PUnit.unit) (fun _ _ _ _ => PUnit.unit) PUnit.unit (fun _ _ _ _ => PUnit.unit) (fun _ _ _ _ => PUnit.unit)

noncomputable def storeK : AV → Nat → AV → Nat → St → (AV → St → Ans) → Ans :=
  @AV.rec (fun _ => Nat → AV → Nat → St → (AV → St → Ans) → Ans) (fun _ => PUnit) (fun _ => PUnit) (fun _ => PUnit) (fun _ => PUnit)
  (fun _ _ _ _ _ => none)
  (fun _ _ => fun _ _ _ _ _ => none)
  (fun _ => fun _ _ _ _ _ => none)
  (fun _ => fun _ _ _ _ _ => none)
  (fun _ _ _ _ _ => none)
  (fun _ _ _ _ _ => none)
  (fun _ _ _ _ _ => none)
  (fun _ _ _ _ _ => none)
  (fun _ _ _ => fun _ _ _ _ _ => none)
  (fun _ _ => fun _ _ _ _ _ => none)
  (fun a b c => fun n x d s k => objK d s a b fun ob => cellsObK ob fun cs => cellsOfK x fun xs => ifK (Nat.beq (lenK xs) n) (ifK (Nat.ble (Nat.add c n) (lenK cs)) (Bool.rec (optK (clamps a xs) fun ys => lsK (putAt cs c ys) fun r => setObjK d s a b (.cells r) fun s => k (.tup []) s) (lsK (putAt cs c xs) fun r => setObjK d s a b (.cells r) fun s => k (.tup []) s) (Nat.beq (Nat.succ a) d))))
  (fun _ _ _ _ _ => fun _ _ _ _ _ => none)
  (fun _ _ => fun _ _ _ _ _ => none)
  (fun _ _ => fun _ _ _ _ _ => none)
  (fun _ _ _ _ _ => fun _ _ _ _ _ => none)
  (fun _ _ => fun _ _ _ _ _ => none)
  (fun _ _ => fun _ _ _ _ _ => none)
  (fun _ _ => fun _ _ _ _ _ => none)
  PUnit.unit (fun _ _ _ _ => PUnit.unit) (PUnit.unit) (fun _ _ _ _ => PUnit.unit) PUnit.unit (fun _ _ _ _ => PUnit.unit) (fun _ _ _ _ => PUnit.unit)

/-- One operation that is carried out as evO does. -/
noncomputable def plainK (q : O) : OpK := fun _ _ G h _ e s k => optK (evO (fun _ _ _ => none) (fun _ _ _ _ => none) G h e s q) fun p => fV p.1 fun v => fSt p.2 fun s => k v s
/-- One operation that leaves the frames alone. -/
noncomputable def pureK (q : O) : OpK := fun _ _ G h _ e s k => optK (evO (fun _ _ _ => none) (fun _ _ _ _ => none) G h e s q) fun p => fV p.1 fun v => k v s
noncomputable def argsK (G : Nat → List AV) (e : Env) (l : List X) (k : List AV → Ans) : Ans :=
  List.rec (motive := fun _ => (List AV → Ans) → Ans) (fun k => k []) (fun x _ ih k => hdK (xK x G e) fun v => ih fun r => k (v :: r)) l k

noncomputable def evOK : O → OpK := @O.rec (fun _ => OpK)
  (fun a => fun _ _ G _ _ e s k => hdK (xK a G e) fun v => k v s)
  (fun a b c => fun _ _ G _ _ e s k => pickK (xK a G e) (xK b G e) (xK c G e) fun v => k v s)
  (fun a => fun _ _ _ _ d _ s k => newK d s (.cells a) fun l i s => k (.ptr l i (nat_lit 0)) s)
  (fun a => fun _ _ G _ d e s k => cellsOfK (xK a G e) fun c => newK d s (.cells c) fun l i s => k (.ptr l i (nat_lit 0)) s)
  (fun a b => pureK (.build a b))
  (fun a b c => pureK (.bsl a b c))
  (fun a b c => plainK (.bslo a b c))
  (fun a b c => fun _ _ G _ d e s k => cellsK (xK c G e) d s fun l => ofCellsK a b l fun v => k v s)
  (fun a b c => fun _ _ G _ d e s k => hdK (xK c G e) fun x => storeK (xK b G e) a x d s k)
  (fun a b c => fun _ _ G _ _ e s k => binK (xK b G e) a (xK c G e) fun v => k v s)
  (fun a b c f4 => pureK (.eq a b c f4))
  (fun a => fun _ _ G _ _ e s k => notK (xK a G e) fun v => k v s)
  (fun a => pureK (.neg a))
  (fun a b => pureK (.cvt a b))
  (fun a b c => pureK (.mkfn a b c))
  (plainK (.mkmap))
  (fun a b c f4 => plainK (.mksl a b c f4))
  (fun a b c f4 f5 => pureK (.slice a b c f4 f5))
  (fun a b c => pureK (.slstr a b c))
  (pureK (.nilfull))
  (fun a b c f4 f5 f6 => pureK (.slarr a b c f4 f5 f6))
  (fun a b => fun _ _ G _ _ e s k => fadK (xK b G e) a fun v => k v s)
  (fun a b c f4 => fun _ _ G _ _ e s k => fieldK (xK f4 G e) a b c fun v => k v s)
  (fun a b c => fun _ _ G _ _ e s k => natOfK (xK c G e) fun m => iadK2 (xK b G e) a m fun v => k v s)
  (fun a b c f4 => pureK (.iarr a b c f4))
  (fun a b c f4 f5 => pureK (.ixa a b c f4 f5))
  (fun a b => fun _ _ G _ _ e s k => natOfK (xK b G e) fun m => ixsK (xK a G e) m fun v => k v s)
  (fun a b c f4 f5 => pureK (.lookup a b c f4 f5))
  (fun a b c f4 => plainK (.upd a b c f4))
  (fun a b => fun _ _ G _ _ e s k => extK (xK a G e) b fun v => k v s)
  (fun a b => fun cl rd G _ d e s k => argsK G e b fun as => callK (xK a G e) cl rd d s as k)
  (fun a b => fun cl _ G _ _ e s k => argsK G e b fun as => pcallK (xK a G e) cl s as k)
  (fun a b c => fun cl rd G _ d e s k => argsK G e b fun as => callK (xK a G e) cl rd d s as fun v s2 => ifK (kept s s2 e c) (k v s2))
  (fun a => fun _ _ G _ _ e s k => lenVK (xK a G e) fun v => k v s)
  (fun a => fun _ _ G _ _ e s k => lensVK (xK a G e) fun v => k v s)
  (fun a => pureK (.lenm a))
  (fun a => pureK (.lena a))
  (fun a b c f4 f5 => plainK (.app a b c f4 f5))
  (fun a b c f4 => plainK (.appo a b c f4))
  (fun a b => pureK (.mn a b))
  (fun a b => pureK (.mx a b))
  (fun a b c => plainK (.copy a b c))
  (fun a b => plainK (.als a b))
  (fun a b c => plainK (.fst a b c))

noncomputable def isBK : AV → Bool → Ans → Ans → Ans :=
  @AV.rec (fun _ => Bool → Ans → Ans → Ans) (fun _ => PUnit) (fun _ => PUnit) (fun _ => PUnit) (fun _ => PUnit)
  (fun _ _ _ => none)
  (fun _ _ => fun _ _ _ => none)
  (fun a => fun b y n => Bool.rec (Bool.rec y n b) (Bool.rec n y b) a)
  (fun _ => fun _ _ _ => none)
  (fun _ _ _ => none)
  (fun _ _ _ => none)
  (fun _ _ _ => none)
  (fun _ _ _ => none)
  (fun _ _ _ => fun _ _ _ => none)
  (fun _ _ => fun _ _ _ => none)
  (fun _ _ _ => fun _ _ _ => none)
  (fun _ _ _ _ _ => fun _ _ _ => none)
  (fun _ _ => fun _ _ _ => none)
  (fun _ _ => fun _ _ _ => none)
  (fun _ _ _ _ _ => fun _ _ _ => none)
  (fun _ _ => fun _ _ _ => none)
  (fun _ _ => fun _ _ _ => none)
  (fun a _ => fun _ _ n => List.rec (motive := fun _ => Ans) n (fun _ _ _ => none) a)
  PUnit.unit (fun _ _ _ _ => PUnit.unit) (PUnit.unit) (fun _ _ _ _ => PUnit.unit) PUnit.unit (fun _ _ _ _ => PUnit.unit) (fun _ _ _ _ => PUnit.unit)

noncomputable def condK : AV → Ans → Ans → Ans :=
  @AV.rec (fun _ => Ans → Ans → Ans) (fun _ => PUnit) (fun _ => PUnit) (fun _ => PUnit) (fun _ => PUnit)
  (fun _ _ => none)
  (fun _ _ => fun _ _ => none)
  (fun a => fun y n => Bool.rec n y a)
  (fun _ => fun _ _ => none)
  (fun _ _ => none)
  (fun _ _ => none)
  (fun _ _ => none)
  (fun _ _ => none)
  (fun _ _ _ => fun _ _ => none)
  (fun _ _ => fun _ _ => none)
  (fun _ _ _ => fun _ _ => none)
  (fun _ _ _ _ _ => fun _ _ => none)
  (fun _ _ => fun _ _ => none)
  (fun _ _ => fun _ _ => none)
  (fun _ _ _ _ _ => fun _ _ => none)
  (fun _ _ => fun _ _ => none)
  (fun _ _ => fun _ _ => none)
  (fun _ _ => fun _ _ => none)
  PUnit.unit (fun _ _ _ _ => PUnit.unit) (PUnit.unit) (fun _ _ _ _ => PUnit.unit) PUnit.unit (fun _ _ _ _ => PUnit.unit) (fun _ _ _ _ => PUnit.unit)

noncomputable def evOpsK (l : List Op) : CallK → RoundK → (Nat → List AV) → Nat → Nat → Env → St → (Env → St → Ans) → Ans :=
  List.rec (fun _ _ _ _ _ e s k => k e s) (fun o _ ih => Op.rec (fun dst q g => Option.rec (motive := fun _ => CallK → RoundK → (Nat → List AV) → Nat → Nat → Env → St → (Env → St → Ans) → Ans)
    (fun cl rd G h d e s k => evOK q cl rd G h d e s fun v s => putK e dst v fun e => ih cl rd G h d e s k)
    (fun p cl rd G h d e s k => isBK (getE e (Prod.rec (fun t _ => t) p)) (Prod.rec (fun _ b => b) p) (evOK q cl rd G h d e s fun v s => putK e dst v fun e => ih cl rd G h d e s k) (putK e dst (.tup []) fun e => ih cl rd G h d e s k)) g) o) l

abbrev KC := Nat → CallK → RoundK → (Nat → List AV) → Nat → Nat → Env → St → (Ex → Env → St → Ans) → Ans
noncomputable def iterK (f : Env → St → (Ex → Env → St → Ans) → Ans) (n : Nat) : Env → St → (Ex → Env → St → Ans) → Ans :=
  Nat.rec (fun _ _ _ => none) (fun _ ih e s k => f e s fun x e s => Ex.rec (motive := fun _ => Ans) (ih e s k) (fun i => k (.exit i) e s) (k .ret e s) x) n
noncomputable def tailK (s : St) (k : St → Ans) : Ans := List.rec (motive := fun _ => Ans) none (fun _ s _ => k s) s

noncomputable def keepK : AV → Nat → (AV → Ans) → Ans → Ans :=
  @AV.rec (fun _ => Nat → (AV → Ans) → Ans → Ans) (fun _ => PUnit) (fun _ => PUnit) (fun _ => PUnit) (fun _ => PUnit)
  (fun _ _ u => u)
  (fun a b => fun _ k _ => k (.int a b))
  (fun a => fun _ k _ => k (.bool a))
  (fun a => fun lv k _ => optK (clamp lv (.str a)) fun v => fV v k)
  (fun lv k _ => optK (clamp lv .nilP) fun v => fV v k)
  (fun lv k _ => optK (clamp lv .nilM) fun v => fV v k)
  (fun lv k _ => optK (clamp lv .nilF) fun v => fV v k)
  (fun lv k _ => optK (clamp lv .nilI) fun v => fV v k)
  (fun a b _ => fun lv k _ => optK (clamp lv (.sl a b)) fun v => fV v k)
  (fun a _ => fun lv k _ => optK (clamp lv (.rp a)) fun v => fV v k)
  (fun a b c => fun lv k _ => optK (clamp lv (.ptr a b c)) fun v => fV v k)
  (fun a b c u4 u5 => fun lv k _ => optK (clamp lv (.os a b c u4 u5)) fun v => fV v k)
  (fun a b => fun lv k _ => optK (clamp lv (.mp a b)) fun v => fV v k)
  (fun a _ => fun lv k _ => optK (clamp lv (.pm a)) fun v => fV v k)
  (fun a b c _ _ => fun lv k _ => optK (clamp lv (.fn a b c)) fun v => fV v k)
  (fun a b => fun lv k _ => optK (clamp lv (.yl a b)) fun v => fV v k)
  (fun a _ => fun lv k _ => optK (clamp lv (.agg a)) fun v => fV v k)
  (fun a _ => fun lv k _ => optK (clamp lv (.tup a)) fun v => fV v k)
  PUnit.unit (fun _ _ _ _ => PUnit.unit) (PUnit.unit) (fun _ _ _ _ => PUnit.unit) PUnit.unit (fun _ _ _ _ => PUnit.unit) (fun _ _ _ _ => PUnit.unit)

noncomputable def liveK (lv : Nat) (e : Env) (l : List Nat) (k : Env → Ans) : Ans :=
  List.rec (motive := fun _ => (Env → Ans) → Ans) (fun k => k []) (fun t _ ih k => keepK (getE e t) lv (fun v => ih fun r => k ((t, v) :: r)) (ih k)) l k

noncomputable def rangeK : AV → CallK → Nat → Nat → Nat → Env → St → (Ex → Env → St → Ans) → Ans :=
  @AV.rec (fun _ => CallK → Nat → Nat → Nat → Env → St → (Ex → Env → St → Ans) → Ans) (fun _ => PUnit) (fun _ => PUnit) (fun _ => PUnit) (fun _ => PUnit)
  (fun _ _ _ _ _ _ _ => none)
  (fun _ _ => fun _ _ _ _ _ _ _ => none)
  (fun _ => fun _ _ _ _ _ _ _ => none)
  (fun _ => fun _ _ _ _ _ _ _ => none)
  (fun _ _ _ _ _ _ _ => none)
  (fun _ _ _ _ _ _ _ => none)
  (fun _ _ _ _ _ _ _ => none)
  (fun _ _ _ _ _ _ _ => none)
  (fun _ _ _ => fun _ _ _ _ _ _ _ => none)
  (fun _ _ => fun _ _ _ _ _ _ _ => none)
  (fun _ _ _ => fun _ _ _ _ _ _ _ => none)
  (fun _ _ _ _ _ => fun _ _ _ _ _ _ _ => none)
  (fun _ _ => fun _ _ _ _ _ _ _ => none)
  (fun _ _ => fun _ _ _ _ _ _ _ => none)
  (fun a b c _ _ => fun cl l i d e s k => mapsK erK b fun first => cl d a (catK first (.yl l i :: c)) s fun _ s => objK d s l i fun o => match o with
        | .loop _ _ _ _ _ true .nrm => setObjK d s l i .dead fun s => k .nrm e s
        | .loop _ _ _ _ _ false (.exit j) => setObjK d s l i .dead fun s => k (.exit j) e s
        | .loop _ _ _ _ _ false .ret => setObjK d s l i .dead fun s => k .ret e s
        | _ => none)
  (fun _ _ => fun _ _ _ _ _ _ _ => none)
  (fun _ _ => fun _ _ _ _ _ _ _ => none)
  (fun _ _ => fun _ _ _ _ _ _ _ => none)
  PUnit.unit (fun _ _ _ _ => PUnit.unit) (PUnit.unit) (fun _ _ _ _ => PUnit.unit) PUnit.unit (fun _ _ _ _ => PUnit.unit) (fun _ _ _ _ => PUnit.unit)

noncomputable def evCK (c : C) : KC :=
  C.rec (motive := fun _ => KC)
    (fun _ _ _ _ _ _ e s k => k .nrm e s)
    (fun l _ cl rd G h d e s k => evOpsK l cl rd G h d e s fun e s => k .nrm e s)
    (fun _ _ ia ib n cl rd G h d e s k => ia n cl rd G h d e s fun x e s => Ex.rec (motive := fun _ => Ans) (ib n cl rd G h d e s k) (fun i => k (.exit i) e s) (k .ret e s) x)
    (fun x _ _ ia ib n cl rd G h d e s k => condK (xK x G e) (ia n cl rd G h d e s k) (ib n cl rd G h d e s k))
    (fun i _ ia n cl rd G h d e s k => ia n cl rd G h d e s fun x e s => Ex.rec (motive := fun _ => Ans) (k .nrm e s) (fun j => Bool.rec (k (.exit j) e s) (k .nrm e s) (Nat.beq j i)) (k .ret e s) x)
    (fun live _ ia n cl rd G h d e s k => iterK (fun e s k => natK (Nat.succ d) fun d2 => ia n cl rd G h d2 e (⟨[], []⟩ :: s) fun x e s => tailK s fun s2 => liveK (Nat.pred d) e live fun e => k x e s2) n e s k)
    (fun f ps asg body _ _ _ cl _ G h d e s k => newK d s (.loop e h ps asg body true .nrm) fun l i s => rangeK (xK f G e) cl l i d e s k)
    (fun i _ _ _ _ _ _ e s k => k (.exit i) e s)
    (fun _ _ _ _ _ _ e s k => k .ret e s)
    (fun ns _ ia n cl rd G h d e s k => optK (rsvAt ns s) fun s => fSt s fun s => ia n cl rd G h d e s k)
    (fun _ ia n cl rd G h d e s k => ia n cl rd G h d e s k) c

noncomputable def envK (args : List AV) (k : Env → Ans) : Ans := List.rec (motive := fun _ => Nat → (Env → Ans) → Ans) (fun _ k => k []) (fun v _ ih n k => natK (Nat.succ n) fun n2 => ih n2 fun r => k ((n, v) :: r)) args (nat_lit 0) k
noncomputable def resK (d : Nat) (s : St) (e : Env) (l : List RV) (k : List AV → Ans) : Ans :=
  List.rec (motive := fun _ => (List AV → Ans) → Ans) (fun k => k []) (fun r _ ih k => RV.rec (motive := fun _ => Ans) (fun t => hdK (getE e t) fun v => ih fun r => k (v :: r)) (fun t n ag => cellsK (getE e t) d s fun c => ofCellsK n ag c fun v => ih fun r => k (v :: r)) r) l k

noncomputable def simK : AV → Bool :=
  @AV.rec (fun _ => Bool) (fun _ => PUnit) (fun _ => PUnit) (fun _ => PUnit) (fun _ => PUnit)
  (false)
  (fun _ _ => true)
  (fun _ => true)
  (fun _ => true)
  (true)
  (true)
  (true)
  (true)
  (fun _ _ _ => true)
  (fun _ _ => false)
  (fun _ _ _ => false)
  (fun _ _ _ _ _ => false)
  (fun _ _ => false)
  (fun _ _ => false)
  (fun _ _ _ _ _ => false)
  (fun _ _ => false)
  (fun _ _ => false)
  (fun _ _ => false)
  PUnit.unit (fun _ _ _ _ => PUnit.unit) (PUnit.unit) (fun _ _ _ _ => PUnit.unit) PUnit.unit (fun _ _ _ _ => PUnit.unit) (fun _ _ _ _ => PUnit.unit)

noncomputable def frzK (l : Nat) (s : St) (v : AV) (k : AV → St → Ans) : Ans := tailK s fun s2 => optK (frz s l 1000 v) fun v => fV v fun v => k v s2
noncomputable def simsK (c : List AV) : Bool := Bool.rec false (Nat.ble (lenK c) (nat_lit 900)) (allK simK c)

noncomputable def frK1 : AV → Nat → St → (AV → St → Ans) → Ans :=
  @AV.rec (fun _ => Nat → St → (AV → St → Ans) → Ans) (fun _ => PUnit) (fun _ => PUnit) (fun _ => PUnit) (fun _ => PUnit)
  (fun l s k => frzK l s .undef k)
  (fun a b => fun _ s k => tailK s fun s2 => k (.int a b) s2)
  (fun a => fun _ s k => tailK s fun s2 => k (.bool a) s2)
  (fun a => fun _ s k => tailK s fun s2 => k (.str a) s2)
  (fun _ s k => tailK s fun s2 => k .nilP s2)
  (fun _ s k => tailK s fun s2 => k .nilM s2)
  (fun _ s k => tailK s fun s2 => k .nilF s2)
  (fun _ s k => tailK s fun s2 => k .nilI s2)
  (fun a b _ => fun _ s k => tailK s fun s2 => tokK b fun t => k (.sl a t) s2)
  (fun a _ => fun l s k => frzK l s (.rp a) k)
  (fun a b c => fun l s k => frzK l s (.ptr a b c) k)
  (fun a b c u4 u5 => fun l s k => frzK l s (.os a b c u4 u5) k)
  (fun a b => fun l s k => frzK l s (.mp a b) k)
  (fun a _ => fun l s k => frzK l s (.pm a) k)
  (fun a b c _ _ => fun l s k => frzK l s (.fn a b c) k)
  (fun a b => fun l s k => frzK l s (.yl a b) k)
  (fun a _ => fun l s k => Bool.rec (frzK l s (.agg a) k) (tailK s fun s2 => mapsK erK a fun c => k (.agg c) s2) (simsK a))
  (fun a _ => fun l s k => Bool.rec (frzK l s (.tup a) k) (tailK s fun s2 => mapsK erK a fun c => k (.tup c) s2) (simsK a))
  PUnit.unit (fun _ _ _ _ => PUnit.unit) (PUnit.unit) (fun _ _ _ _ => PUnit.unit) PUnit.unit (fun _ _ _ _ => PUnit.unit) (fun _ _ _ _ => PUnit.unit)

noncomputable def leaveK (mv : Bool) (l : Nat) (s : St) (v : AV) (k : AV → St → Ans) : Ans :=
  Bool.rec (motive := fun _ => Ans) (frK1 v l s k) (optK (leave true l s v) fun p => fV p.1 fun v => fSt p.2 fun s => k v s) mv

noncomputable def evKR (G : Nat → List AV) (T : Tr) (n : Nat) : CallK × RoundK :=
  Nat.rec (fun _ _ _ _ _ => none, fun _ _ _ _ _ _ => none)
    (fun n ih =>
      (fun d f args s k => optK (T.find f) fun fn => F.rec (fun res body mv np => ifK (Nat.beq (lenK args) np)
        (envK args fun e => natK (Nat.succ d) fun d2 => evCK body n ih.1 ih.2 G d d2 e (⟨[], []⟩ :: s) fun x e s2 =>
          Ex.rec (motive := fun _ => Ans) (resK d2 s2 e res fun vs => leaveK mv d s2 (oneV vs) k) (fun _ => none) (resK d2 s2 e res fun vs => leaveK mv d s2 (oneV vs) k) x)) fn,
       fun d l i args s k => objK d s l i fun o => match o with
        | .loop env h ps asg body true .nrm => ifK (Nat.beq (lenK ps) (lenK args))
          (natK (Nat.succ d) fun d2 => evCK asg n ih.1 ih.2 G h d2 ((ps.zip args).reverse ++ env) (⟨[], []⟩ :: s) fun x e s1 => objK d2 s1 l i fun o1 => match x, o1 with
            | .nrm, .loop env2 h2 ps2 asg2 body2 true .nrm => setObjK d2 s1 l i (.loop env2 h2 ps2 asg2 body2 false .nrm) fun s1 =>
              evCK body n ih.1 ih.2 G h d2 e s1 fun x _ s2 => objK d2 s2 l i fun o2 => match o2 with
                | .loop env2 h2 ps2 asg2 body2 false .nrm => Ex.rec (motive := fun _ => Ans)
                  (setObjK d2 s2 l i (.loop env2 h2 ps2 asg2 body2 true .nrm) fun s3 => tailK s3 fun s3 => k (.bool true) s3)
                  (fun j => setObjK d2 s2 l i (.loop env2 h2 ps2 asg2 body2 false (.exit j)) fun s3 => tailK s3 fun s3 => k (.bool false) s3)
                  (setObjK d2 s2 l i (.loop env2 h2 ps2 asg2 body2 false .ret) fun s3 => tailK s3 fun s3 => k (.bool false) s3) x
                | _ => none
            | _, _ => none)
        | _ => none)) n
noncomputable def evK (G : Nat → List AV) (T : Tr) (n f : Nat) (args : List AV) : Ans := (evKR G T n).1 (nat_lit 0) f args [] ansK
end Go.Ab
