/-
  What the machine that is laid out for the kernel says is what evF says.
-/
import Derived.Test.YthbekoofiienjaaDoorAbK
import Derived.Test.YthbekoofiienjaaDoorAbFn
namespace Go.Ab

theorem getE_eq (e : Env) (n : Nat) : getE e n = e.get n := by
  induction e with
  | nil => rfl
  | cons p e ih =>
    obtain ⟨k, v⟩ := p
    simp only [Env.get]
    have ih' : getE e n = Env.get e n := ih
    show (Bool.rec (getE e n) v (Nat.beq k n) : AV) = _
    rw [ih']
    cases Nat.beq k n <;> rfl
theorem nthK_eq {α : Type} (l : List α) (n : Nat) : nthK l n = l[n]? := by
  induction l generalizing n with
  | nil => rfl
  | cons a l ih => cases n with
    | zero => rfl
    | succ n => exact ih n
theorem xK_eq (x : X) (G : Nat → List AV) (e : Env) : xK x G e = x.ev G e := by cases x <;> first | rfl | exact getE_eq _ _
theorem natK_eq (n : Nat) (k : Nat → Ans) : natK n k = k n := by cases n <;> rfl
theorem intK_eq (n : Int) (k : Int → Ans) : intK n k = k n := by cases n <;> exact natK_eq _ _
theorem boolK_eq (b : Bool) (k : Bool → Ans) : boolK b k = k b := by cases b <;> rfl
theorem lsK_eq {α : Type} (l : List α) (k : List α → Ans) : lsK l k = k l := by
  induction l generalizing k with
  | nil => rfl
  | cons a l ih => exact ih fun l => k (a :: l)
theorem optK_eq {α : Type} (o : Option α) (k : α → Ans) : optK o k = o.bind k := by cases o <;> rfl
theorem ifK_eq (b : Bool) (k : Ans) : ifK b k = if b = true then k else none := by cases b <;> rfl
theorem lenK_eq {α : Type} (l : List α) : lenK l = l.length := by
  induction l with
  | nil => rfl
  | cons a l ih => exact congrArg Nat.succ ih
theorem catK_eq {α : Type} (l r : List α) : catK l r = l ++ r := by
  induction l with
  | nil => rfl
  | cons a l ih => exact congrArg (a :: ·) ih
theorem dropK_eq {α : Type} (l : List α) (n : Nat) (k : List α → Ans) : dropK l n k = k (l.drop n) := by
  induction l generalizing n with
  | nil => cases n <;> rfl
  | cons a l ih => cases n with
    | zero => rfl
    | succ n => exact ih n
theorem takeK_eq {α : Type} (l : List α) (n : Nat) (k : List α → Ans) : takeK l n k = k (l.take n) := by
  induction l generalizing n k with
  | nil => cases n <;> rfl
  | cons a l ih => cases n with
    | zero => rfl
    | succ n => exact ih n fun r => k (a :: r)
theorem tokK_eq (t : Tok) (k : Tok → Ans) : tokK t k = k (eraseTok t) := by cases t <;> rfl
theorem hdK_eq (v : AV) (k : AV → Ans) : hdK v k = k v := by cases v <;> rfl

mutual
theorem purK_eq : ∀ v : AV, purK v = pur v
  | .undef | .int .. | .bool _ | .str _ | .nilP | .nilM | .nilF | .nilI | .rp _ | .ptr .. | .os .. | .mp .. | .pm _ | .yl .. => rfl
  | .sl r t => by cases t <;> rfl
  | .fn f a b => by
    show (Bool.rec false (purKL b) (purKL a) : Bool) = (purs a && purs b)
    rw [purKL_eq a, purKL_eq b]
    cases purs a <;> rfl
  | .agg c => purKL_eq c
  | .tup c => purKL_eq c
theorem purKL_eq : ∀ l : List AV, purKL l = purs l
  | [] => rfl
  | v :: l => by
    show (Bool.rec false (purKL l) (purK v) : Bool) = (pur v && purs l)
    rw [purK_eq v, purKL_eq l]
    cases pur v <;> rfl
end
theorem pursK_eq (l : List AV) : allK purK l = purs l := by
  induction l with
  | nil => rfl
  | cons v l ih =>
    show (Bool.rec false (allK purK l) (purK v) : Bool) = (pur v && purs l)
    rw [purK_eq v, ih]
    cases pur v <;> rfl
mutual
theorem brwK_eq : ∀ v : AV, brwK v = borrows v
  | .undef | .int .. | .bool _ | .str _ | .nilP | .nilM | .nilF | .nilI | .rp _ | .ptr .. | .os .. | .mp .. | .pm _ | .yl .. | .sl .. => rfl
  | .fn f a b => by
    show (Bool.rec (brwKL b) true (brwKL a) : Bool) = (borrowss a || borrowss b)
    rw [brwKL_eq a, brwKL_eq b]
    cases borrowss a <;> rfl
  | .agg c => brwKL_eq c
  | .tup c => brwKL_eq c
theorem brwKL_eq : ∀ l : List AV, brwKL l = borrowss l
  | [] => rfl
  | v :: l => by
    show (Bool.rec (brwKL l) true (brwK v) : Bool) = (borrows v || borrowss l)
    rw [brwK_eq v, brwKL_eq l]
    cases borrows v <;> rfl
end
theorem brwsK_eq (l : List AV) : anyK brwK l = borrowss l := by
  induction l with
  | nil => rfl
  | cons v l ih =>
    show (Bool.rec (anyK brwK l) true (brwK v) : Bool) = (borrows v || borrowss l)
    rw [brwK_eq v, ih]
    cases borrows v <;> rfl
mutual
theorem flatK_eq : ∀ v : AV, flatK v = flat v
  | .undef | .int .. | .bool _ | .str _ | .nilP | .nilM | .nilF | .nilI | .rp _ | .ptr .. | .os .. | .mp .. | .pm _ | .yl .. | .fn .. => rfl
  | .sl r t => by cases r <;> cases t <;> rfl
  | .agg c => flatKL_eq c
  | .tup c => flatKL_eq c
theorem flatKL_eq : ∀ l : List AV, flatKL l = flats l
  | [] => rfl
  | v :: l => by
    show (Bool.rec false (flatKL l) (flatK v) : Bool) = (flat v && flats l)
    rw [flatK_eq v, flatKL_eq l]
    cases flat v <;> rfl
end
mutual
theorem erK_eq : ∀ (v : AV) (k : AV → Ans), erK v Bk k = k (erase v)
  | .undef, k | .int .., k | .bool _, k | .str _, k | .nilP, k | .nilM, k | .nilF, k | .nilI, k | .rp _, k | .ptr .., k | .os .., k | .mp .., k | .pm _, k | .yl .., k => rfl
  | .sl r t, k => by cases t <;> rfl
  | .fn f a b, k => by
    show erKL a Bk (fun a => erKL b Bk fun b => k (.fn f a b)) = _
    rw [erKL_eq a, erKL_eq b]; rfl
  | .agg c, k => erKL_eq c fun c => k (.agg c)
  | .tup c, k => erKL_eq c fun c => k (.tup c)
theorem erKL_eq : ∀ (l : List AV) (k : List AV → Ans), erKL l Bk k = k (erases l)
  | [], k => rfl
  | v :: l, k => by
    show erK v Bk (fun v => erKL l Bk fun r => k (v :: r)) = _
    rw [erK_eq v, erKL_eq l]; rfl
end
theorem ersK_eq (l : List AV) (k : List AV → Ans) : mapsK (fun v => erK v Bk) l k = k (erases l) := by
  induction l generalizing k with
  | nil => rfl
  | cons v l ih =>
    show erK v Bk (fun v => mapsK (fun v => erK v Bk) l fun r => k (v :: r)) = _
    rw [erK_eq v, ih]; rfl
mutual
theorem haK_eq (s : St) : ∀ (v : AV) (k : AV → Ans), haK v Bk s k = (hand s v).bind k
  | .undef, k | .int .., k | .bool _, k | .str _, k | .nilP, k | .nilM, k | .nilF, k | .nilI, k | .rp _, k | .ptr .., k | .mp .., k | .pm _, k | .yl .., k => rfl
  | .os l i o n e, k => by
    show osHK s l i o n e k = _
    unfold osHK
    rw [optK_eq]
    congr 1
    funext v
    exact fV_eq v k
  | .sl r t, k => by cases t <;> rfl
  | .fn f a b, k => by
    show haKL a Bk s (fun a => haKL b Bk s fun b => k (.fn f a b)) = _
    rw [haKL_eq s a]
    simp only [hand]
    cases hands s a with
    | none => rfl
    | some a' =>
      simp only [Option.bind_some]
      rw [haKL_eq s b]
      cases hands s b <;> rfl
  | .agg c, k => by
    show haKL c Bk s (fun c => k (.agg c)) = _
    rw [haKL_eq s c]
    simp only [hand]
    cases hands s c <;> rfl
  | .tup c, k => by
    show haKL c Bk s (fun c => k (.tup c)) = _
    rw [haKL_eq s c]
    simp only [hand]
    cases hands s c <;> rfl
theorem haKL_eq (s : St) : ∀ (l : List AV) (k : List AV → Ans), haKL l Bk s k = (hands s l).bind k
  | [], k => rfl
  | v :: l, k => by
    show haK v Bk s (fun v => haKL l Bk s fun r => k (v :: r)) = _
    rw [haK_eq s v]
    simp only [hands]
    cases hand s v with
    | none => rfl
    | some v' =>
      simp only [Option.bind_some]
      rw [haKL_eq s l]
      cases hands s l <;> rfl
end
theorem hasK_eq (s : St) (l : List AV) (k : List AV → Ans) : mapsK (fun v => haK v Bk s) l k = (hands s l).bind k := by
  induction l generalizing k with
  | nil => rfl
  | cons v l ih =>
    show haK v Bk s (fun v => mapsK (fun v => haK v Bk s) l fun r => k (v :: r)) = _
    rw [haK_eq s v]
    simp only [hands]
    cases hand s v with
    | none => rfl
    | some v' =>
      simp only [Option.bind_some]
      rw [ih]
      cases hands s l <;> rfl
theorem frK_eq (s : St) (l : Nat) : frK s.length s l = getFr s l := by
  unfold frK
  induction s with
  | nil => simp [getFr]; rfl
  | cons f s ih =>
    simp only [getFr]
    by_cases h : l = s.length
    · subst h
      rw [if_pos rfl]
      have : Nat.sub (f :: s).length s.length = 1 := by simp
      rw [this]; rfl
    · rw [if_neg h, ← ih]
      by_cases h2 : l < s.length
      · have h3 : Nat.sub (f :: s).length l = Nat.sub s.length l + 1 := by simp; omega
        have h4 : ∃ m, Nat.sub s.length l = m + 1 := ⟨s.length - l - 1, by simp; omega⟩
        obtain ⟨m, hm⟩ := h4
        rw [h3, hm]; rfl
      · have h3 : Nat.sub (f :: s).length l = 0 := by simp; omega
        have h4 : Nat.sub s.length l = 0 := by simp; omega
        rw [h3, h4]; rfl
theorem objK_eq {d : Nat} {s : St} (hd : d = s.length) (l i : Nat) (k : AObj → Ans) : objK d s l i k = (getObj s l i).bind k := by
  subst hd
  unfold objK getObj
  rw [optK_eq, frK_eq]
  cases getFr s l with
  | none => rfl
  | some f =>
    simp only [Option.bind_some]
    rw [optK_eq, nthK_eq, getO_eq]
theorem cellsObK_eq (o : AObj) (k : List AV → Ans) : cellsObK o k = (match o with | .cells c => k c | _ => none) := by cases o <;> rfl
theorem cellsK_eq {d : Nat} {s : St} (hd : d = s.length) (v : AV) (k : List AV → Ans) : cellsK v Bk d s k = (cellsAt s v).bind k := by
  cases v <;> try rfl
  case ptr l i o =>
    show objK d s l i (fun ob => cellsObK ob fun l => dropK l o k) = _
    rw [objK_eq hd]
    simp only [cellsAt]
    cases getObj s l i with
    | none => rfl
    | some ob => cases ob <;> first | rfl | exact dropK_eq _ _ _
theorem setNthK_eq {α : Type} (l : List α) (a : α) (n : Nat) (k : List α → Ans) : setNthK l a n k = k (l.set n a) := by
  induction l generalizing n k with
  | nil => cases n <;> rfl
  | cons b l ih => cases n with
    | zero => rfl
    | succ n => exact ih n fun l => k (b :: l)
theorem setObjK_eq {d : Nat} {s : St} (hd : d = s.length) (l i : Nat) (o : AObj) (k : St → Ans) : setObjK d s l i o k = k (setObj s l i o) := by
  subst hd
  unfold setObjK setObj
  induction s generalizing k with
  | nil => simp [modFr]; rfl
  | cons f s ih =>
    simp only [modFr]
    by_cases h : l = s.length
    · subst h
      rw [if_pos rfl]
      have : Nat.sub (f :: s).length s.length = 1 := by simp
      rw [this]
      show setNthK f.objs o i (fun os => k (⟨os, f.toks⟩ :: s)) = _
      rw [setNthK_eq]; simp [setO]
    · rw [if_neg h]
      rw [← ih fun s => k (f :: s)]
      by_cases h2 : l < s.length
      · have h3 : Nat.sub (f :: s).length l = Nat.sub s.length l + 1 := by simp; omega
        have h4 : ∃ m, Nat.sub s.length l = m + 1 := ⟨s.length - l - 1, by simp; omega⟩
        obtain ⟨m, hm⟩ := h4
        rw [h3, hm]; rfl
      · have h3 : Nat.sub (f :: s).length l = 0 := by simp; omega
        have h4 : Nat.sub s.length l = 0 := by simp; omega
        rw [h3, h4]; rfl
theorem appK_eq {α : Type} (l : List α) (a : α) (k : List α → Ans) : appK l a k = k (l ++ [a]) := by
  induction l generalizing k with
  | nil => rfl
  | cons b l ih => exact ih fun l => k (b :: l)
theorem newK_eq {d : Nat} {s : St} (hd : d = s.length) (o : AObj) (k : Nat → Nat → St → Ans) : newK Bk d s o k = (newObj s o).bind fun p => k p.1 p.2.1 p.2.2 := by
  subst hd
  cases s with
  | nil => rfl
  | cons f s =>
    obtain ⟨os, t⟩ := f
    show natK (lenK os) (fun i => appK os o fun os => natK (Nat.pred (Fr.mk _ t :: s).length) fun l => k l i (⟨os, t⟩ :: s)) = _
    simp [natK_eq, lenK_eq, appK_eq, newObj]
theorem ofCellsK_eq (n : Nat) (ag : Bool) (c : List AV) (k : AV → Ans) : ofCellsK n ag c k = (ofCells n ag c).bind k := by
  cases ag with
  | false =>
    cases c with
    | nil => rfl
    | cons v c => exact hdK_eq v k
  | true =>
    show ifK (Nat.ble n (lenK c)) (takeK c n fun c => k (.agg c)) = _
    rw [ifK_eq, takeK_eq, lenK_eq]
    simp only [ofCells, if_true, Nat.ble_eq]
    split <;> rfl
theorem putK_eq (e : Env) (d : Option Nat) (v : AV) (k : Env → Ans) : putK e d v k = k (e.put d v) := by cases d <;> rfl


theorem callK_eq {cl : Call} {rd : Round} {cl' : CallK} {rd' : RoundK} (hc : ∀ (d f : Nat) (args : List AV) (s : St) (k : AV → St → Ans), d = s.length → cl' d f args s k = (cl f args s).bind fun p => k p.1 p.2)
    (hr : ∀ (d l i : Nat) (args : List AV) (s : St) (k : AV → St → Ans), d = s.length → rd' d l i args s k = (rd l i args s).bind fun p => k p.1 p.2)
    {d : Nat} {s : St} (hd : d = s.length) (f : AV) (args : List AV) (k : AV → St → Ans) : callK f Bk cl' rd' d s args k = (callV cl rd s f args).bind fun p => k p.1 p.2 := by
  cases f <;> try rfl
  case fn f first caps =>
    show mapsK (fun v => erK v Bk) (catK first args) (fun as => cl' d f (catK as caps) s k) = _
    rw [ersK_eq, catK_eq, catK_eq, hc _ _ _ _ _ hd]; rfl
  case yl l i =>
    show mapsK (fun v => erK v Bk) args (fun as => rd' d l i as s k) = _
    rw [ersK_eq, hr _ _ _ _ _ _ hd]; rfl
theorem pcallK_eq {cl : Call} {cl' : CallK} (hc : ∀ (d f : Nat) (args : List AV) (s : St) (k : AV → St → Ans), d = s.length → cl' d f args s k = (cl f args s).bind fun p => k p.1 p.2)
    (s : St) (f : AV) (args : List AV) (k : AV → St → Ans) : pcallK f Bk cl' s args k = (pcallV cl s f args).bind fun p => k p.1 p.2 := by
  cases f <;> try rfl
  case fn f first caps =>
    show mapsK (fun v => haK v Bk s) (catK first args) (fun as => ifK (allK purK as) (ifK (allK purK caps) (optK (cl' (nat_lit 0) f (catK as caps) [] ansK) fun p => Prod.rec (fun v _ => hdK v fun v => ifK (Bool.rec (Bool.not (anyK brwK (catK first args))) true (flatK v)) (k v s)) p))) = _
    rw [hasK_eq, catK_eq]
    simp only [pcallV]
    cases hands s (first ++ args) with
    | none => rfl
    | some as =>
      simp only [Option.bind_some]
      rw [ifK_eq, ifK_eq, pursK_eq, pursK_eq]
      by_cases h1 : purs as = true
      · by_cases h2 : purs caps = true
        · rw [if_pos h1, if_pos h2, if_pos (by simp [h1, h2]), optK_eq, catK_eq, hc 0 _ _ [] _ rfl]
          cases cl f (as ++ caps) [] with
          | none => rfl
          | some p =>
            obtain ⟨v, s'⟩ := p
            simp only [Option.bind_some, ansK]
            rw [hdK_eq, flatK_eq, ifK_eq, brwsK_eq]
            cases flat v <;> cases borrowss (first ++ args) <;> rfl
        · rw [if_pos h1, if_neg h2, if_neg (by simp [h1, h2])]; rfl
      · rw [if_neg h1, if_neg (by simp [h1])]; rfl
theorem cellsOfK_eq (v : AV) (k : List AV → Ans) : cellsOfK v k = (cellsOf v).bind k := by cases v <;> rfl

theorem ltK_eq (a b : Int) (k : Bool → Ans) : ltK a b k = k (decide (a < b)) := by
  cases a with
  | ofNat m =>
    cases b with
    | ofNat n =>
      show boolK (Nat.ble (Nat.succ m) n) k = _
      rw [boolK_eq]; congr 1
      rw [Bool.eq_iff_iff, Nat.ble_eq, decide_eq_true_eq, Int.ofNat_eq_natCast, Int.ofNat_eq_natCast]; omega
    | negSucc n =>
      show k false = _
      congr 1 <;> (symm; rw [decide_eq_false_iff_not]; have := Int.negSucc_lt_zero n; have := Int.natCast_nonneg m; simp only [Int.ofNat_eq_natCast]; omega)
  | negSucc m =>
    cases b with
    | ofNat n =>
      show k true = _
      congr 1 <;> (symm; rw [decide_eq_true_eq]; have := Int.negSucc_lt_zero m; have := Int.natCast_nonneg n; simp only [Int.ofNat_eq_natCast]; omega)
    | negSucc n =>
      show boolK (Nat.ble (Nat.succ n) m) k = _
      rw [boolK_eq]; congr 1
      rw [Bool.eq_iff_iff, Nat.ble_eq, decide_eq_true_eq]; omega
theorem leK_eq (a b : Int) (k : Bool → Ans) : leK a b k = k (decide (a ≤ b)) := by
  cases a with
  | ofNat m =>
    cases b with
    | ofNat n =>
      show boolK (Nat.ble m n) k = _
      rw [boolK_eq]; congr 1
      rw [Bool.eq_iff_iff, Nat.ble_eq, decide_eq_true_eq, Int.ofNat_eq_natCast, Int.ofNat_eq_natCast]; omega
    | negSucc n =>
      show k false = _
      congr 1 <;> (symm; rw [decide_eq_false_iff_not]; have := Int.negSucc_lt_zero n; have := Int.natCast_nonneg m; simp only [Int.ofNat_eq_natCast]; omega)
  | negSucc m =>
    cases b with
    | ofNat n =>
      show k true = _
      congr 1 <;> (symm; rw [decide_eq_true_eq]; have := Int.negSucc_lt_zero m; have := Int.natCast_nonneg n; simp only [Int.ofNat_eq_natCast]; omega)
    | negSucc n =>
      show boolK (Nat.ble n m) k = _
      rw [boolK_eq]; congr 1
      rw [Bool.eq_iff_iff, Nat.ble_eq, decide_eq_true_eq]; omega
theorem eqiK_eq (a b : Int) (k : Bool → Ans) : eqiK a b k = k (a == b) := by
  cases a with
  | ofNat m =>
    cases b with
    | ofNat n =>
      show boolK (Nat.beq m n) k = _
      rw [boolK_eq]; congr 1
      rw [Bool.eq_iff_iff, Nat.beq_eq, beq_iff_eq, Int.ofNat_eq_natCast, Int.ofNat_eq_natCast]; omega
    | negSucc n => show k false = _; congr 1
  | negSucc m =>
    cases b with
    | ofNat n => show k false = _; congr 1
    | negSucc n =>
      show boolK (Nat.beq m n) k = _
      rw [boolK_eq]; congr 1
      rw [Bool.eq_iff_iff, Nat.beq_eq, beq_iff_eq]; omega
theorem wrpK_eq (q : IntKind) (n : Int) (k : AV → Ans) : wrpK q n k = k (.int q (wrp q n)) := by
  unfold wrpK
  rw [intK_eq, intK_eq]
  unfold wrp
  cases fits q n <;> rfl
theorem addK_eq (q : IntKind) (a b : Int) (k : AV → Ans) : addK q a b k = k (.int q (wrp q (a + b))) := by
  cases a <;> cases b <;> exact wrpK_eq _ _ _
theorem subK_eq (q : IntKind) (a b : Int) (k : AV → Ans) : subK q a b k = k (.int q (wrp q (a - b))) := by
  cases a with
  | ofNat m =>
    cases b with
    | ofNat n =>
      show (Bool.rec (wrpK q (Int.sub (.ofNat m) (.ofNat n)) k) (wrpK q (.ofNat (Nat.sub m n)) k) (Nat.ble n m) : Ans) = _
      cases h : Nat.ble n m with
      | false => exact wrpK_eq _ _ _
      | true =>
        show wrpK q (.ofNat (Nat.sub m n)) k = _
        rw [wrpK_eq]
        have h1 : n ≤ m := by simpa using h
        congr 3
        simp only [Int.ofNat_eq_natCast]
        have : Nat.sub m n = m - n := rfl
        omega
    | negSucc n => exact wrpK_eq _ _ _
  | negSucc m => exact wrpK_eq _ _ _
theorem kix_eq (a b : IntKind) : Nat.beq (kix a) (kix b) = true ↔ a = b := by cases a <;> cases b <;> simp [kix]
theorem fvK_eq (v : AV) (k : AV → Ans) : fvK v Bk k = k v := by
  cases v <;> try rfl
  case int q n => exact intK_eq n fun n => k (.int q n)
  case bool b => exact boolK_eq b fun b => k (.bool b)
  case str s => exact lsK_eq s fun s => k (.str s)
  case sl r t =>
    show fLL r (fun r => fTok t fun t => k (.sl r t)) = _
    rw [fLL_eq, fTok_eq]
  case rp c => exact lsK_eq c fun c => k (.rp c)
  case agg c => exact lsK_eq c fun c => k (.agg c)
  case tup c => exact lsK_eq c fun c => k (.tup c)
  case ptr l i o =>
    show natK l (fun l => natK i fun i => natK o fun o => k (.ptr l i o)) = _
    rw [natK_eq, natK_eq, natK_eq]
  case os l i o n e =>
    show natK l (fun l => natK i fun i => natK o fun o => natK n fun n => natK e fun e => k (.os l i o n e)) = _
    rw [natK_eq, natK_eq, natK_eq, natK_eq, natK_eq]
  case mp l i =>
    show natK l (fun l => natK i fun i => k (.mp l i)) = _
    rw [natK_eq, natK_eq]
  case fn f a b =>
    show lsK a (fun p => lsK b fun q => k (.fn f p q)) = _
    rw [lsK_eq, lsK_eq]
theorem binIK_eq (op : BinOp) (q r : IntKind) (a b : Int) (k : AV → Ans) : binIK op Bk q r a b k = (binAV op (.int q a) (.int r b)).bind k := by
  have dflt : Bk.opt (binAV op (.int q a) (.int r b)) (fun v => fvK v Bk k) = (binAV op (.int q a) (.int r b)).bind k := by
    show optK _ _ = _
    rw [optK_eq]; congr 1; funext v; exact fvK_eq v k
  have go : ∀ (x : Ans) (y : Option AV), (q = r → x = y.bind k) → ifK (Nat.beq (kix q) (kix r)) x = (if q = r then y else none).bind k := by
    intro x y h
    rw [ifK_eq]
    by_cases hq : q = r
    · rw [if_pos ((kix_eq q r).2 hq), if_pos hq, h hq]
    · rw [if_neg (fun hh => hq ((kix_eq q r).1 hh)), if_neg hq]; rfl
  cases op
  case add => exact go _ _ fun _ => addK_eq _ _ _ _
  case sub => exact go _ _ fun _ => subK_eq _ _ _ _
  case eql => exact go _ _ fun _ => eqiK_eq _ _ _
  case neq => exact go _ _ fun _ => by show eqiK a b _ = _; rw [eqiK_eq, boolK_eq]; rfl
  case lss => exact go _ _ fun _ => ltK_eq _ _ _
  case leq => exact go _ _ fun _ => leK_eq _ _ _
  case gtr => exact go _ _ fun _ => ltK_eq _ _ _
  case geq => exact go _ _ fun _ => leK_eq _ _ _
  all_goals exact dflt
theorem binK_eq (x : AV) (op : BinOp) (y : AV) (k : AV → Ans) : binK x op Bk y k = (binAV op x y).bind k := by
  have dflt : ∀ x y, Bk.opt (binAV op x y) (fun v => fvK v Bk k) = (binAV op x y).bind k := fun x y => by
    show optK _ _ = _
    rw [optK_eq]; congr 1; funext v; exact fvK_eq v k
  cases x
  case int q a =>
    show binK2 y op Bk q a k = _
    cases y
    case int r b => exact binIK_eq _ _ _ _ _ _
    all_goals (rw [← dflt]; rfl)
  all_goals (rw [← dflt]; rfl)
theorem notK_eq (v : AV) (k : AV → Ans) : notK v k = (notAV v).bind k := by
  cases v <;> try rfl
  case bool b => cases b <;> rfl
theorem pickK_eq (c x y : AV) (k : AV → Ans) : pickK c x y k = (pickAV c x y).bind k := by
  cases c <;> try rfl
  case bool b => cases b <;> exact hdK_eq _ _
theorem fadK_eq (v : AV) (off : Nat) (k : AV → Ans) : fadK v Bk off k = (fadAV off v).bind k := by
  cases v <;> try rfl
  case rp c => exact dropK_eq _ _ _
  case ptr l i o => exact natK_eq _ _
theorem natOfK_eq (v : AV) (k : Nat → Ans) : natOfK v Bk k = (match v with | .int _ (.ofNat m) => k m | _ => none) := by
  cases v <;> try rfl
  case int q n => cases n <;> rfl
theorem iadK_eq (e : Nat) (x i : AV) (k : AV → Ans) : natOfK i Bk (fun m => iadK2 x Bk e m k) = (iadAV e x i).bind k := by
  rw [natOfK_eq]
  cases i <;> try rfl
  case int q n =>
    cases n with
    | negSucc n =>
      simp only [iadAV]
      rw [if_neg (by have := Int.negSucc_lt_zero n; omega)]; rfl
    | ofNat m =>
      simp only [iadAV, Int.ofNat_eq_natCast]
      rw [if_pos (Int.natCast_nonneg m)]
      cases x <;> try rfl
      case sl r t =>
        show optK (nthK r m) (fun row => ifK (Nat.beq (lenK row) e) (k (.rp row))) = _
        rw [optK_eq, nthK_eq]
        simp only [Int.toNat_natCast]
        cases r[m]? with
        | none => rfl
        | some row =>
          simp only [Option.bind_some]
          rw [ifK_eq, lenK_eq]
          by_cases h : row.length = e
          · rw [if_pos (by simpa using h), if_pos h]; rfl
          · rw [if_neg (by simpa using h), if_neg h]; rfl
      case os l i o n e' =>
        show ifK (Nat.ble (Nat.succ m) n) (ifK (Nat.beq e e') (natK (Nat.add o (Nat.mul m e)) fun o => k (.ptr l i o))) = _
        rw [ifK_eq, ifK_eq, natK_eq]
        simp only [Int.toNat_natCast]
        by_cases h1 : m < n
        · by_cases h2 : e = e'
          · rw [if_pos (by simp; omega), if_pos (by simpa using h2), if_pos ⟨by omega, h2⟩]; rfl
          · rw [if_pos (by simp; omega), if_neg (by simpa using h2), if_neg (fun h => h2 h.2)]; rfl
        · rw [if_neg (by simp; omega), if_neg (fun h => h1 (by omega))]; rfl
theorem lenVK_eq (v : AV) (k : AV → Ans) : lenVK v Bk k = (lenAV v).bind k := by
  cases v <;> try rfl
  case sl r t =>
    show natK (lenK r) (fun n => k (.int .i64 (.ofNat n))) = _
    rw [natK_eq, lenK_eq]; rfl
theorem lensVK_eq (v : AV) (k : AV → Ans) : lensVK v Bk k = (lensAV v).bind k := by
  cases v <;> try rfl
  case str r =>
    show natK (lenK r) (fun n => k (.int .i64 (.ofNat n))) = _
    rw [natK_eq, lenK_eq]; rfl
theorem extK_eq (v : AV) (i : Nat) (k : AV → Ans) : extK v i k = (extAV v i).bind k := by
  cases v <;> try rfl
  case tup l =>
    show optK (nthK l i) (fun v => hdK v k) = _
    rw [optK_eq, nthK_eq]; simp only [extAV]; congr 1; funext v; exact hdK_eq v k
theorem fieldK_eq (v : AV) (off n : Nat) (ag : Bool) (k : AV → Ans) : fieldK v off n ag k = (fieldAV off n ag v).bind k := by
  cases v <;> try rfl
  case agg c =>
    show dropK c off (fun c => ofCellsK n ag c k) = _
    rw [dropK_eq, ofCellsK_eq]; rfl
theorem ixsK_eq (x i : AV) (k : AV → Ans) : natOfK i Bk (fun m => ixsK x Bk m k) = (ixsAV x i).bind k := by
  rw [natOfK_eq]
  cases i <;> try (cases x <;> rfl)
  case int q n =>
    cases n with
    | negSucc n =>
      cases x <;> first
        | rfl
        | (simp only [ixsAV]
           rw [if_neg (by have := Int.negSucc_lt_zero n; omega)]; rfl)
    | ofNat m =>
      cases x <;> try rfl
      case str s =>
        show optK (nthK s m) (fun b => natK b.toNat fun n => k (.int .u8 (.ofNat n))) = _
        simp only [ixsAV, Int.ofNat_eq_natCast]
        rw [if_pos (Int.natCast_nonneg m), optK_eq, nthK_eq]
        simp only [Int.toNat_natCast]
        cases s[m]? with
        | none => rfl
        | some b => exact natK_eq _ _
theorem storeK_eq {d : Nat} {s : St} (hd : d = s.length) (n : Nat) (a x : AV) (k : AV → St → Ans) : storeK a Bk n x d s k = (storeAt s n a x).bind fun s => k (.tup []) s := by
  cases a <;> try rfl
  case ptr l i o =>
    show objK d s l i (fun ob => cellsObK ob fun cs => cellsOfK x fun xs => ifK (Nat.beq (lenK xs) n) (ifK (Nat.ble (Nat.add o n) (lenK cs)) (boolK (Nat.beq (Nat.succ l) d) fun t => Bool.rec (optK (clamps l xs) fun ys => lsK (putAt cs o ys) fun r => setObjK d s l i (.cells r) fun s => k (.tup []) s) (lsK (putAt cs o xs) fun r => setObjK d s l i (.cells r) fun s => k (.tup []) s) t))) = _
    rw [objK_eq hd]
    simp only [storeAt]
    cases getObj s l i with
    | none => rfl
    | some ob =>
      simp only [Option.bind_some]
      rw [cellsObK_eq]
      cases ob <;> try rfl
      case cells c =>
        simp only
        rw [cellsOfK_eq]
        cases cellsOf x with
        | none => rfl
        | some xs =>
          simp only [Option.bind_some]
          rw [ifK_eq, ifK_eq, lenK_eq, lenK_eq]
          by_cases h1 : xs.length = n
          · by_cases h2 : o + n ≤ c.length
            · rw [if_pos (by simpa using h1), if_pos (by simpa using h2), if_pos ⟨h1, h2⟩]
              by_cases h3 : l + 1 = s.length
              · rw [if_pos h3]
                have : Nat.beq (Nat.succ l) d = true := by rw [hd]; simpa using h3
                rw [this]
                show lsK (putAt c o xs) (fun r => setObjK d s l i (.cells r) fun s => k (.tup []) s) = _
                rw [lsK_eq, setObjK_eq hd]; rfl
              · rw [if_neg h3]
                have : Nat.beq (Nat.succ l) d = false := by rw [hd]; cases hb : Nat.beq (Nat.succ l) s.length; exact rfl; exact absurd (Nat.eq_of_beq_eq_true hb) h3
                rw [this]
                show optK (clamps l xs) (fun ys => lsK (putAt c o ys) fun r => setObjK d s l i (.cells r) fun s => k (.tup []) s) = _
                rw [optK_eq]
                cases clamps l xs with
                | none => rfl
                | some ys =>
                  simp only [Option.bind_some, Option.map_some]
                  rw [lsK_eq, setObjK_eq hd]
            · rw [if_pos (by simpa using h1), if_neg (by simpa using h2), if_neg (fun h => h2 h.2)]; rfl
          · rw [if_neg (by simpa using h1), if_neg (fun h => h1 h.1)]; rfl


theorem gotK_eq (o : AObj) (k : Nat → Ans) : gotK o k = (match o with | .got n => k n | _ => none) := by cases o <;> rfl
theorem fstK_eq {d : Nat} {s : St} (hd : d = s.length) (n : Nat) (a x : AV) (k : AV → St → Ans) : fstK a Bk n x d s k = (fstAt s n a x).bind fun s => k (.tup []) s := by
  cases a <;> try rfl
  case ptr l i o =>
    show ifK (Nat.beq o 0) (objK d s l i fun ob => gotK ob fun m => cellsOfK x fun xs => ifK (Nat.beq (lenK xs) n) (ifK (Nat.beq m n) (ifK (Nat.beq (Nat.succ l) d) (setObjK d s l i (.cells xs) fun s => k (.tup []) s)))) = _
    rw [ifK_eq]
    cases o with
    | succ o => rfl
    | zero =>
      rw [if_pos (show Nat.beq 0 0 = true from rfl), objK_eq hd]
      simp only [fstAt]
      cases getObj s l i with
      | none => rfl
      | some ob =>
        simp only [Option.bind_some]
        rw [gotK_eq]
        cases ob <;> try rfl
        case got m =>
          simp only
          rw [cellsOfK_eq]
          cases cellsOf x with
          | none => rfl
          | some xs =>
            simp only [Option.bind_some]
            rw [ifK_eq, ifK_eq, ifK_eq, lenK_eq, setObjK_eq hd]
            by_cases h1 : xs.length = n
            · by_cases h2 : m = n
              · by_cases h3 : l + 1 = s.length
                · rw [if_pos (by simpa using h1), if_pos (by simpa using h2), if_pos (by rw [hd]; simpa using h3), if_pos ⟨h1, h2, h3⟩]; rfl
                · rw [if_pos (by simpa using h1), if_pos (by simpa using h2), if_neg (fun h => h3 (by rw [hd] at h; exact Nat.eq_of_beq_eq_true h)), if_neg (fun h => h3 h.2.2)]; rfl
              · rw [if_pos (by simpa using h1), if_neg (by simpa using h2), if_neg (fun h => h2 h.2.1)]; rfl
            · rw [if_neg (by simpa using h1), if_neg (fun h => h1 h.1)]; rfl
theorem plainK_eq {q : O} {cl0 : Call} {rd0 : Round} (hq : ∀ G h e s, evO (fun _ _ _ => none) (fun _ _ _ _ => none) G h e s q = evO cl0 rd0 G h e s q) (cl : CallK) (rd : RoundK) (G : Nat → List AV) (h d : Nat) (e : Env) (s : St) (k : AV → St → Ans) :
    plainK q Bk cl rd G h d e s k = (evO cl0 rd0 G h e s q).bind fun p => k p.1 p.2 := by
  show optK (evO (fun _ _ _ => none) (fun _ _ _ _ => none) G h e s q) (fun p => fvK p.1 Bk fun v => fSt p.2 fun s => k v s) = _
  rw [optK_eq, hq]
  congr 1; funext p
  rw [fvK_eq, fSt_eq]
theorem pureK_eq {q : O} {cl0 : Call} {rd0 : Round} (hq : ∀ G h e s, evO (fun _ _ _ => none) (fun _ _ _ _ => none) G h e s q = evO cl0 rd0 G h e s q) (hs : ∀ G h e s v s', evO cl0 rd0 G h e s q = some (v, s') → s' = s) (cl : CallK) (rd : RoundK) (G : Nat → List AV) (h d : Nat) (e : Env) (s : St) (k : AV → St → Ans) :
    pureK q Bk cl rd G h d e s k = (evO cl0 rd0 G h e s q).bind fun p => k p.1 p.2 := by
  show optK (evO (fun _ _ _ => none) (fun _ _ _ _ => none) G h e s q) (fun p => fvK p.1 Bk fun v => k v s) = _
  rw [optK_eq, hq]
  cases he : evO cl0 rd0 G h e s q with
  | none => rfl
  | some p =>
    obtain ⟨v, s'⟩ := p
    rw [hs _ _ _ _ _ _ he]
    simp only [Option.bind_some]
    exact fvK_eq _ _
theorem argsK_eq (G : Nat → List AV) (e : Env) (l : List X) (k : List AV → Ans) : argsK G e l k = k (l.map (·.ev G e)) := by
  induction l generalizing k with
  | nil => rfl
  | cons x l ih =>
    show hdK (xK x G e) (fun v => argsK G e l fun r => k (v :: r)) = _
    rw [hdK_eq, ih, xK_eq]; rfl

section
variable {cl : Call} {rd : Round} {cl' : CallK} {rd' : RoundK} (hc : ∀ (d f : Nat) (args : List AV) (s : St) (k : AV → St → Ans), d = s.length → cl' d f args s k = (cl f args s).bind fun p => k p.1 p.2)
    (hr : ∀ (d l i : Nat) (args : List AV) (s : St) (k : AV → St → Ans), d = s.length → rd' d l i args s k = (rd l i args s).bind fun p => k p.1 p.2)
include hc hr

theorem evOK_eq (q : O) (G : Nat → List AV) (h : Nat) {d : Nat} (e : Env) {s : St} (hd : d = s.length) (k : AV → St → Ans) : evOK q Bk cl' rd' G h d e s k = (evO cl rd G h e s q).bind fun p => k p.1 p.2 := by
  have mapb : ∀ (o : Option AV) (k : AV → St → Ans), (o.map (·, s)).bind (fun p => k p.1 p.2) = o.bind fun v => k v s := fun o k => by cases o <;> rfl
  have optfv : ∀ (o : Option AV) (k : AV → St → Ans), Bk.opt o (fun v => fvK v Bk fun v => k v s) = (o.map (·, s)).bind (fun p => k p.1 p.2) := fun o k => by
    show optK o _ = _
    rw [optK_eq, mapb]
    congr 1; funext v; exact fvK_eq v _
  have xm : ∀ o : Option X, o.map (fun x => xK x G e) = o.map (·.ev G e) := fun o => by cases o <;> simp [xK_eq]
  cases q
  case eq neg kk x y =>
    show Bk.opt ((eqK kk (xK x G e) (xK y G e)).map fun t => .bool (if neg = true then !t else t)) (fun v => fvK v Bk fun v => k v s) = _
    rw [optfv, xK_eq, xK_eq, evO, Option.map_map]; rfl
  case neg x => show Bk.opt (negAV (xK x G e)) (fun v => fvK v Bk fun v => k v s) = _; rw [optfv, xK_eq, evO]
  case cvt c x => show Bk.opt (cvtAV c (xK x G e)) (fun v => fvK v Bk fun v => k v s) = _; rw [optfv, xK_eq, evO]
  case slice n x lo hi mx => show Bk.opt (sliceAV n (xK x G e) (lo.map fun x => xK x G e) (hi.map fun x => xK x G e) (mx.map fun x => xK x G e)) (fun v => fvK v Bk fun v => k v s) = _; rw [optfv, xK_eq, xm, xm, xm, evO]
  case slstr x lo hi => show Bk.opt (slstrAV (xK x G e) (lo.map fun x => xK x G e) (hi.map fun x => xK x G e)) (fun v => fvK v Bk fun v => k v s) = _; rw [optfv, xK_eq, xm, xm, evO]
  case ixa n m ag x i => show Bk.opt (ixaAV n m ag (xK x G e) (xK i G e)) (fun v => fvK v Bk fun v => k v s) = _; rw [optfv, xK_eq, xK_eq, evO]
  case mv x => show hdK (xK x G e) (fun v => k v s) = _; rw [hdK_eq, xK_eq]; rfl
  case pick c a b => show pickK (xK c G e) (xK a G e) (xK b G e) (fun v => k v s) = _; rw [pickK_eq, xK_eq, xK_eq, xK_eq, evO, mapb]
  case alloc z => show newK Bk d s (.cells z) (fun l i s => k (.ptr l i 0) s) = _; rw [newK_eq hd, evO]; cases newObj s (.cells z) <;> rfl
  case box x =>
    show cellsOfK (xK x G e) (fun c => newK Bk d s (.cells c) fun l i s => k (.ptr l i 0) s) = _
    rw [cellsOfK_eq, xK_eq, evO]
    cases cellsOf (x.ev G e) with
    | none => rfl
    | some c => simp only [Option.bind_some]; rw [newK_eq hd]; cases newObj s (.cells c) <;> rfl
  case load n ag x =>
    show cellsK (xK x G e) Bk d s (fun l => ofCellsK n ag l fun v => k v s) = _
    rw [cellsK_eq hd, xK_eq, evO]
    cases cellsAt s (x.ev G e) with
    | none => rfl
    | some c => simp only [Option.bind_some]; rw [ofCellsK_eq, mapb]
  case store n a x =>
    show hdK (xK x G e) (fun v => storeK (xK a G e) Bk n v d s k) = _
    rw [hdK_eq, storeK_eq hd, xK_eq, xK_eq, evO]
    cases storeAt s n (a.ev G e) (x.ev G e) <;> rfl
  case bin op x y => show binK (xK x G e) op Bk (xK y G e) (fun v => k v s) = _; rw [binK_eq, xK_eq, xK_eq, evO, mapb]
  case not x => show notK (xK x G e) (fun v => k v s) = _; rw [notK_eq, xK_eq, evO, mapb]
  case fad off x => show fadK (xK x G e) Bk off (fun v => k v s) = _; rw [fadK_eq, xK_eq, evO, mapb]
  case field off n ag x => show fieldK (xK x G e) off n ag (fun v => k v s) = _; rw [fieldK_eq, xK_eq, evO, mapb]
  case iad n x i => show natOfK (xK i G e) Bk (fun m => iadK2 (xK x G e) Bk n m fun v => k v s) = _; rw [iadK_eq, xK_eq, xK_eq, evO, mapb]
  case ixs x i => show natOfK (xK i G e) Bk (fun m => ixsK (xK x G e) Bk m fun v => k v s) = _; rw [ixsK_eq, xK_eq, xK_eq, evO, mapb]
  case ext x i => show extK (xK x G e) i (fun v => k v s) = _; rw [extK_eq, xK_eq, evO, mapb]
  case len x => show lenVK (xK x G e) Bk (fun v => k v s) = _; rw [lenVK_eq, xK_eq, evO, mapb]
  case lens x => show lensVK (xK x G e) Bk (fun v => k v s) = _; rw [lensVK_eq, xK_eq, evO, mapb]
  case call f args => show argsK G e args (fun as => callK (xK f G e) Bk cl' rd' d s as k) = _; rw [argsK_eq, callK_eq hc hr hd, xK_eq, evO]
  case pcall f args => show argsK G e args (fun as => pcallK (xK f G e) Bk cl' s as k) = _; rw [argsK_eq, pcallK_eq hc, xK_eq, evO]
  case callk f args ks =>
    show argsK G e args (fun as => callK (xK f G e) Bk cl' rd' d s as fun v s2 => ifK (kept s s2 e ks) (k v s2)) = _
    rw [argsK_eq, callK_eq hc hr hd, xK_eq, evO]
    cases callV cl rd s (f.ev G e) (args.map (·.ev G e)) with
    | none => rfl
    | some p =>
      simp only [Option.bind_some]
      rw [ifK_eq]
      split <;> rfl
  case bslo z n ps => exact plainK_eq (cl0 := cl) (rd0 := rd) (fun _ _ _ _ => rfl) cl' rd' G h d e s k
  case mkmap => exact plainK_eq (cl0 := cl) (rd0 := rd) (fun _ _ _ _ => rfl) cl' rd' G h d e s k
  case mksl z b n c => exact plainK_eq (cl0 := cl) (rd0 := rd) (fun _ _ _ _ => rfl) cl' rd' G h d e s k
  case upd kk m a v => exact plainK_eq (cl0 := cl) (rd0 := rd) (fun _ _ _ _ => rfl) cl' rd' G h d e s k
  case app p n b x y => exact plainK_eq (cl0 := cl) (rd0 := rd) (fun _ _ _ _ => rfl) cl' rd' G h d e s k
  case appo n b x y =>
    show optK (appoAt s n b (xK x G e) (xK y G e)) (fun p => fV p.1 fun v => fSt p.2 fun s => k v s) = _
    rw [optK_eq, xK_eq, xK_eq, evO]
    congr 1; funext p
    rw [fV_eq, fSt_eq]
  case copy a b c => exact plainK_eq (cl0 := cl) (rd0 := rd) (fun _ _ _ _ => rfl) cl' rd' G h d e s k
  case als a n => exact plainK_eq (cl0 := cl) (rd0 := rd) (fun _ _ _ _ => rfl) cl' rd' G h d e s k
  case fst n a x =>
    show hdK (xK x G e) (fun v => fstK (xK a G e) Bk n v d s k) = _
    rw [hdK_eq, fstK_eq hd, xK_eq, xK_eq, evO]
    cases fstAt s n (a.ev G e) (x.ev G e) <;> rfl
  case lookup kk z ok m a => exact pureK_eq (cl0 := cl) (rd0 := rd) (fun _ _ _ _ => rfl) (fun _ _ _ _ _ _ hv => (eff_rm (t := []) rfl hv).1) cl' rd' G h d e s k
  case lenm x => exact pureK_eq (cl0 := cl) (rd0 := rd) (fun _ _ _ _ => rfl) (fun _ _ _ _ _ _ hv => (eff_rm (t := []) rfl hv).1) cl' rd' G h d e s k
  all_goals exact pureK_eq (cl0 := cl) (rd0 := rd) (fun _ _ _ _ => rfl) (fun _ _ _ _ _ _ hv => (eff_n rfl hv).1) cl' rd' G h d e s k

theorem evOpsK_eq (hL : LenOK cl rd) (G : Nat → List AV) (h d : Nat) : ∀ (l : List Op) (e : Env) (s : St), d = s.length → ∀ k : Env → St → Ans, evOpsK Bk l cl' rd' G h d e s k = (evOps cl rd G h l e s).bind fun p => k p.1 p.2
  | [], e, s, _, k => rfl
  | o :: l, e, s, hd, k => by
    obtain ⟨dst, q, g⟩ := o
    have go : evOK q Bk cl' rd' G h d e s (fun v s => putK e dst v fun e => evOpsK Bk l cl' rd' G h d e s k) = (evO cl rd G h e s q).bind fun p => (evOps cl rd G h l (e.put dst p.1) p.2).bind fun p => k p.1 p.2 := by
      rw [evOK_eq hc hr _ _ _ _ hd]
      cases he : evO cl rd G h e s q with
      | none => rfl
      | some p =>
        simp only [Option.bind_some]
        rw [putK_eq, evOpsK_eq hL G h d l _ _ (by rw [evO_len hL he]; exact hd)]
    have no : putK e dst (.tup []) (fun e => evOpsK Bk l cl' rd' G h d e s k) = (evOps cl rd G h l (e.put dst (.tup [])) s).bind fun p => k p.1 p.2 := by
      rw [putK_eq, evOpsK_eq hL G h d l _ _ hd]
    rw [evOps_cons]
    unfold stepOp
    cases g with
    | none =>
      show evOK q Bk cl' rd' G h d e s (fun v s => putK e dst v fun e => evOpsK Bk l cl' rd' G h d e s k) = _
      rw [go]
      simp only [wantedOp, Option.bind_some, if_true]
      cases evO cl rd G h e s q <;> rfl
    | some p =>
      obtain ⟨t, b⟩ := p
      show isBK (getE e t) b (evOK q Bk cl' rd' G h d e s (fun v s => putK e dst v fun e => evOpsK Bk l cl' rd' G h d e s k)) (putK e dst (.tup []) (fun e => evOpsK Bk l cl' rd' G h d e s k)) = _
      rw [go, no, getE_eq]
      simp only [wantedOp]
      cases e.get t
      case bool c =>
        cases b <;> cases c <;> simp only [Option.bind_some] <;> first
          | rfl
          | (show _ = _; cases evO cl rd G h e s q <;> rfl)
      case tup l => cases l <;> rfl
      all_goals rfl
end
end Go.Ab
