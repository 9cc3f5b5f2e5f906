/-
  Steps of the machine on values that are not known: what a proof about a function of the program takes.
-/
import Derived.Test.YthbekoofiienjaaDoorAbKRun
namespace Go.Ab

/-- A function's body, its calls left to cl and rd. -/
noncomputable def runK (B : Bnd) (G : Nat → List AV) (cl : CallK) (rd : RoundK) (n : Nat) (fn : F) (d : Nat) (args : List AV) (s : St) (k : AV → St → Ans) : Ans :=
  ifK (Nat.beq (lenK args) fn.np) (envK args fun e => natK (Nat.succ d) fun d2 => evCK B fn.body n cl rd G d d2 e (⟨[], []⟩ :: s) fun x e s2 =>
    Ex.rec (motive := fun _ => Ans) (resK B d2 s2 e fn.res fun vs => leaveK B fn.mv d s2 (oneV vs) k) (fun _ => none) (resK B d2 s2 e fn.res fun vs => leaveK B fn.mv d s2 (oneV vs) k) x)

theorem call_eq {G : Nat → List AV} {T : Tr} {f : Nat} {fn : F} (hf : T.find f = some fn) (n d : Nat) (args : List AV) (s : St) (k : AV → St → Ans) :
    (evKR Bk G T (n + 1)).1 d f args s k = runK Bk G (evKR Bk G T n).1 (evKR Bk G T n).2 n fn d args s k := by
  show optK (T.find f) _ = _
  rw [hf]
  obtain ⟨res, body, mv, np⟩ := fn
  rfl

/-- To show something of a call: its fuel, and what is left open. -/
theorem call_open {G : Nat → List AV} {T : Tr} {f : Nat} {fn : F} {n d : Nat} {args : List AV} {s : St} {k : AV → St → Ans} {r : Ans} (hf : T.find f = some fn) (hn : 1 ≤ n)
    (h : ∀ (m : Nat) (B : Bnd) (cl : CallK) (rd : RoundK), n = m + 1 → B = Bk → cl = (evKR Bk G T m).1 → rd = (evKR Bk G T m).2 → runK B G cl rd m fn d args s k = r) : (evKR Bk G T n).1 d f args s k = r := by
  obtain ⟨m, rfl⟩ : ∃ m, n = m + 1 := ⟨n - 1, by omega⟩
  rw [call_eq hf]
  exact h m Bk _ _ rfl rfl rfl rfl

theorem fits_i64 {n : Int} (h1 : -9223372036854775808 ≤ n) (h2 : n ≤ 9223372036854775807) : fits .i64 n = true := by
  cases n with
  | ofNat m => simp only [fits, Nat.ble_eq]; simp only [Int.ofNat_eq_natCast] at h2; omega
  | negSucc m => simp only [fits, Nat.ble_eq]; omega
theorem wrp_i64 {n : Int} (h1 : -9223372036854775808 ≤ n) (h2 : n ≤ 9223372036854775807) : wrp .i64 n = n := by unfold wrp; rw [fits_i64 h1 h2]; rfl
@[simp] theorem wrp_byte (b : UInt8) : wrp .i64 (b.toNat : Int) = b.toNat := by
  have := b.toNat_lt
  exact wrp_i64 (by omega) (by omega)
theorem clampTok_pur {l : Nat} {t : Tok} (h : purTok t = true) : clampTok l t = t := by cases t <;> first | rfl | cases h
theorem purTok_clamp {l : Nat} {t : Tok} (h : purTok t = true) : purTok (clampTok l t) = true := by rw [clampTok_pur h]; exact h
theorem eraseTok_pur {t : Tok} (h : purTok t = true) : eraseTok t = t := by cases t <;> first | rfl | cases h

theorem Qp {x b : Bool} (h : x = true) : (Bool.rec x true b : Bool) = true := by cases b; exact h; rfl

section
variable {B : Bnd} (hB : B = Bk) {r : Ans}
include hB

theorem Q1 {a b : Int} {k : Bool → Ans} (h : a < b) (h1 : k true = r) : B.lt a b k = r := by subst hB; show ltK a b k = r; rw [ltK_eq, decide_eq_true h]; exact h1
theorem Q2 {a b : Int} {k : Bool → Ans} (h : ¬ a < b) (h1 : k false = r) : B.lt a b k = r := by subst hB; show ltK a b k = r; rw [ltK_eq, decide_eq_false h]; exact h1
theorem Q3 {a b : Int} {k : Bool → Ans} (h : a ≤ b) (h1 : k true = r) : B.le a b k = r := by subst hB; show leK a b k = r; rw [leK_eq, decide_eq_true h]; exact h1
theorem Q4 {a b : Int} {k : Bool → Ans} (h : ¬ a ≤ b) (h1 : k false = r) : B.le a b k = r := by subst hB; show leK a b k = r; rw [leK_eq, decide_eq_false h]; exact h1
theorem Q5 {a b : Int} {k : Bool → Ans} (h : a = b) (h1 : k true = r) : B.eq a b k = r := by subst hB; show eqiK a b k = r; rw [eqiK_eq, show (a == b) = true by simpa using h]; exact h1
theorem Q6 {a b : Int} {k : Bool → Ans} (h : ¬ a = b) (h1 : k false = r) : B.eq a b k = r := by subst hB; show eqiK a b k = r; rw [eqiK_eq, show (a == b) = false by simpa using h]; exact h1
theorem lt_split {a b : Int} {k : Bool → Ans} (h1 : a < b → k true = r) (h2 : ¬ a < b → k false = r) : B.lt a b k = r := by
  by_cases h : a < b
  · exact Q1 hB h (h1 h)
  · exact Q2 hB h (h2 h)
theorem le_split {a b : Int} {k : Bool → Ans} (h1 : a ≤ b → k true = r) (h2 : ¬ a ≤ b → k false = r) : B.le a b k = r := by
  by_cases h : a ≤ b
  · exact Q3 hB h (h1 h)
  · exact Q4 hB h (h2 h)
theorem eq_split {a b : Int} {k : Bool → Ans} (h1 : a = b → k true = r) (h2 : ¬ a = b → k false = r) : B.eq a b k = r := by
  by_cases h : a = b
  · exact Q5 hB h (h1 h)
  · exact Q6 hB h (h2 h)
theorem lt_nat {a b : Nat} {k : Bool → Ans} (h1 : a < b → k true = r) (h2 : ¬ a < b → k false = r) : B.lt (.ofNat a) (.ofNat b) k = r :=
  lt_split hB (fun h => h1 (by simpa using h)) (fun h => h2 (by simpa using h))
theorem add_step {a b : Int} {k : AV → Ans} (h1 : -9223372036854775808 ≤ a + b) (h2 : a + b ≤ 9223372036854775807) (h : k (.int .i64 (a + b)) = r) : B.add .i64 a b k = r := by
  subst hB; show addK .i64 a b k = r; rw [addK_eq, wrp_i64 h1 h2]; exact h
theorem sub_step {a b : Int} {k : AV → Ans} (h1 : -9223372036854775808 ≤ a - b) (h2 : a - b ≤ 9223372036854775807) (h : k (.int .i64 (a - b)) = r) : B.sub .i64 a b k = r := by
  subst hB; show subK .i64 a b k = r; rw [subK_eq, wrp_i64 h1 h2]; exact h
theorem Ql {a : Nat} {k : AV → Ans} (h1 : a < 9223372036854775807) (h : k (.int .i64 (.ofNat (a + 1))) = r) : B.add .i64 (.ofNat a) 1 k = r :=
  add_step hB (by simp only [Int.ofNat_eq_natCast]; omega) (by simp only [Int.ofNat_eq_natCast]; omega) (by simpa using h)
theorem sub_u8 {a : Nat} {k : AV → Ans} (h1 : 48 ≤ a) (h2 : a < 256) (h : k (.int .u8 ((a : Int) - 48)) = r) : B.sub .u8 (.ofNat a) 48 k = r := by
  subst hB
  show subK .u8 (.ofNat a) 48 k = r
  rw [subK_eq]
  have : wrp .u8 ((Int.ofNat a) - 48) = (a : Int) - 48 := by
    have e : (Int.ofNat a) - 48 = ((a - 48 : Nat) : Int) := by simp only [Int.ofNat_eq_natCast]; omega
    rw [e]
    have f : fits .u8 ((a - 48 : Nat) : Int) = true := by
      show Nat.ble (a - 48) 255 = true
      rw [Nat.ble_eq]; omega
    unfold wrp
    rw [f]
    show ((a - 48 : Nat) : Int) = _
    omega
  rw [this]; exact h
theorem Qm {o : Option AV} {v : AV} {k : AV → Ans} (ho : o = some v) (h : k v = r) : B.opt o k = r := by subst hB; show optK o k = r; rw [optK_eq, ho]; exact h
theorem Qg {l : List (List AV)} {k : Nat → Ans} (h : k l.length = r) : B.len l k = r := by subst hB; show lenS l k = r; unfold lenS; rw [natK_eq, lenK_eq]; exact h
theorem Qf {α : Type} {f : α → List AV} {l : List α} {k : Nat → Ans} (h : k l.length = r) : B.len (l.map f) k = r := Qg hB (by simpa using h)
theorem Qh {l : List UInt8} {k : Nat → Ans} (h : k l.length = r) : B.lens l k = r := by subst hB; show lenS l k = r; unfold lenS; rw [natK_eq, lenK_eq]; exact h
theorem QB {l : List (List AV)} {m : Nat} {x : List AV} {k : List AV → Ans} (hx : l[m]? = some x) (h : k x = r) : B.nth l m k = r := by subst hB; show nthS l m k = r; unfold nthS; rw [optK_eq, nthK_eq, hx]; exact h
theorem nthb_step {l : List UInt8} {m : Nat} {x : UInt8} {k : UInt8 → Ans} (hx : l[m]? = some x) (h : k x = r) : B.nthb l m k = r := by subst hB; show nthS l m k = r; unfold nthS; rw [optK_eq, nthK_eq, hx]; exact h
theorem Qi {b : UInt8} {k : Nat → Ans} (h : k b.toNat = r) : B.byte b k = r := by subst hB; show byteS b k = r; unfold byteS; rw [natK_eq]; exact h
theorem QC {z : Int} {m : Nat} {k : Nat → Ans} (hz : z = (m : Int)) (h : k m = r) : B.natOf z k = r := by subst hB; subst hz; exact h
theorem Qx {cl : CallK} {f : Nat} {as : List AV} {v : AV} {s : St} {k : AV × St → Ans} (hc : cl 0 f as [] ansK = some (v, s)) (h : k (v, s) = r) : B.pans cl f as k = r := by
  subst hB; show pansK cl f as k = r; unfold pansK; rw [show cl (nat_lit 0) f as [] ansK = some (v, s) from hc]; exact h
theorem Qy {cl : CallK} {f : Nat} {as : List AV} {b : Bool} {s : St} {k : AV × St → Ans} (hc : cl 0 f as [] ansK = some (.bool b, s)) (h1 : b = true → k (.bool true, s) = r) (h2 : b = false → k (.bool false, s) = r) : B.pans cl f as k = r := by
  refine Qx hB hc ?_
  cases b
  · exact h2 rfl
  · exact h1 rfl
theorem Q0 {l : List AV} {k : Ans} (hp : purs l = true) (h : k = r) : B.purs l k = r := by
  subst hB; show pursS l k = r; unfold pursS; rw [ifK_eq, pursK_eq, if_pos hp]; exact h
theorem Qv {t : Tok} {k : Tok → Ans} (ht : purTok t = true) (h : k t = r) : B.tok t k = r := by
  subst hB; show tokK t k = r
  cases t <;> first | exact h | cases ht
theorem Q8 {n : Int} {k : Int → Ans} (h : k n = r) : B.fint n k = r := by subst hB; show intK n k = r; rw [intK_eq]; exact h
theorem Q7 {n : Int} {k : Int → Ans} (h1 : -9223372036854775808 ≤ n) (h2 : n ≤ 9223372036854775807) (h : k n = r) : B.fint (wrp .i64 n) k = r := Q8 hB (by rw [wrp_i64 h1 h2]; exact h)
theorem Q9 {k : Bool → Ans} (h : k true = r) : B.fbool true k = r := by subst hB; exact h
theorem Qa {k : Bool → Ans} (h : k false = r) : B.fbool false k = r := by subst hB; exact h
theorem Qb {b : Bool} {k : Bool → Ans} (h1 : b = true → k true = r) (h2 : b = false → k false = r) : B.fbool b k = r := by
  subst hB
  cases b
  · exact h2 rfl
  · exact h1 rfl
theorem Qe {l : List UInt8} {k : List UInt8 → Ans} (h : k l = r) : B.fstr l k = r := by subst hB; show lsK l k = r; rw [lsK_eq]; exact h
theorem Qd {l : List (List AV)} {k : List (List AV) → Ans} (h : k l = r) : B.frows l k = r := by subst hB; show fLL l k = r; rw [fLL_eq]; exact h
theorem Qc {t : Tok} {k : Tok → Ans} (h : k t = r) : B.ftok t k = r := by subst hB; show fTok t k = r; rw [fTok_eq]; exact h
theorem Qj {l x : List AV} {n : Nat} {k : List AV → Ans} (hx : l.drop n = x) (h : k x = r) : B.drop l n k = r := by subst hB; show dropK l n k = r; rw [dropK_eq, hx]; exact h
theorem Qk {l x : List AV} {k : List AV → Ans} (hx : l = x) (h : k x = r) : B.fl l k = r := by subst hB; show lsK l k = r; rw [lsK_eq, hx]; exact h
theorem Qq {o : Option (AV × St)} {p : AV × St} {k : AV × St → Ans} (ho : o = some p) (h : k p = r) : B.opt2 o k = r := by subst hB; show optK o k = r; rw [optK_eq, ho]; exact h
theorem Qo {b : Bool} {k : Ans} (hb : b = true) (h : k = r) : B.ifk b k = r := by subst hB; show ifK b k = r; rw [ifK_eq, if_pos hb]; exact h
theorem Qn {n : Nat} {k : Nat → Ans} (h : k n = r) : B.fnat n k = r := by subst hB; show natK n k = r; rw [natK_eq]; exact h
theorem appo_step {s : St} {n b : Nat} {x y : AV} {p : AV × St} {k : AV × St → Ans} (ho : appoAt s n b x y = some p) (h : k p = r) : B.appo s n b x y k = r := by
  subst hB
  show optK (appoAt s n b x y) (fun p => fV p.1 fun v => fSt p.2 fun s => k (v, s)) = r
  rw [optK_eq, ho]
  show fV p.1 (fun v => fSt p.2 fun s => k (v, s)) = r
  rw [fV_eq, fSt_eq]; exact h
theorem osh_step {s : St} {l i o n e : Nat} {v : AV} {k : AV → Ans} (hv : hand s (.os l i o n e) = some v) (h : k v = r) : B.osh s l i o n e k = r := by
  subst hB; show osHK s l i o n e k = r; unfold osHK; rw [optK_eq, hv]; show fV v k = r; rw [fV_eq]; exact h
theorem Qz {d : Nat} {s : St} {l i : Nat} {o : AObj} {k : AObj → Ans} (hd : d = s.length) (ho : getObj s l i = some o) (h : k o = r) : B.obj d s l i k = r := by
  subst hB; show objK d s l i k = r; rw [objK_eq hd, ho]; exact h
theorem QA {d : Nat} {s s' : St} {l i : Nat} {o : AObj} {k : St → Ans} (hd : d = s.length) (hs : setObj s l i o = s') (h : k s' = r) : B.sob d s l i o k = r := by
  subst hB; show setObjK d s l i o k = r; rw [setObjK_eq hd, hs]; exact h
theorem fst_step {s s' : St} {k : St → Ans} (hs : s = s') (h : k s' = r) : B.fst s k = r := by subst hB; show fSt s k = r; rw [fSt_eq, hs]; exact h
theorem optl_step {o : Option (List AV)} {v : List AV} {k : List AV → Ans} (ho : o = some v) (h : k v = r) : B.optl o k = r := by subst hB; show optK o k = r; rw [optK_eq, ho]; exact h
theorem Qr {d : Nat} {s : St} {l i : Nat} {k : AObj → Ans} (h : objK d s l i k = r) : B.obj d s l i k = r := by subst hB; exact h
theorem Qs {d : Nat} {s : St} {l i : Nat} {o : AObj} {k : St → Ans} (h : setObjK d s l i o k = r) : B.sob d s l i o k = r := by subst hB; exact h
theorem Qt {s : St} {k : St → Ans} (h : fSt s k = r) : B.fst s k = r := by subst hB; exact h
theorem Qu {o : Option (List AV)} {k : List AV → Ans} (h : optK o k = r) : B.optl o k = r := by subst hB; exact h
theorem Qw {n : Nat} {k : Nat → Ans} (h : k n = r) : B.fnat (Nat.pred (n + 1)) k = r := Qn hB h
theorem fbool_same {a b : Nat} {k : Bool → Ans} (h : a = b) (h1 : k true = r) : B.fbool (Nat.beq a b) k = r := by
  rw [show Nat.beq a b = true by rw [h, Nat.beq_refl]]; exact Q9 hB h1
theorem fbool_other {a b : Nat} {k : Bool → Ans} (h : a ≠ b) (h1 : k false = r) : B.fbool (Nat.beq a b) k = r := by
  rw [show Nat.beq a b = false by cases hb : Nat.beq a b; rfl; exact absurd (Nat.eq_of_beq_eq_true hb) h]; exact Qa hB h1
theorem loop_succ {ia : KC} {live : List Nat} {n j : Nat} {cl : CallK} {rd : RoundK} {G : Nat → List AV} {h d : Nat} {e : Env} {s : St} {k : Ex → Env → St → Ans}
    (hb : (ia n cl rd G h (d + 1) e (⟨[], []⟩ :: s) fun x e s => tailK s fun s2 => liveK B (d - 1) e live fun e =>
      Ex.rec (motive := fun _ => Ans) (B.loop ia live n j cl rd G h d e s2 k) (fun i => k (.exit i) e s2) (k .ret e s2) x) = r) : B.loop ia live n (j + 1) cl rd G h d e s k = r := by
  subst hB
  have e1 : Bk.loop ia live n (j + 1) cl rd G h d e s k = natK (Nat.succ d) fun d2 => ia n cl rd G h d2 e (⟨[], []⟩ :: s) fun x e s => tailK s fun s2 => liveK Bk0 (Nat.pred d) e live fun e =>
      Ex.rec (motive := fun _ => Ans) (Bk.loop ia live n j cl rd G h d e s2 k) (fun i => k (.exit i) e s2) (k .ret e s2) x := rfl
  rw [e1, natK_eq]
  have e2 : ∀ (lv : Nat) (e : Env) (l : List Nat) (k : Env → Ans), liveK Bk0 lv e l k = liveK Bk lv e l k := fun lv e l k => by rw [liveK_eq rfl, liveK_eq rfl]
  simp only [e2]
  exact hb
theorem loop_step {ia : KC} {live : List Nat} {n j : Nat} {cl : CallK} {rd : RoundK} {G : Nat → List AV} {h d : Nat} {e : Env} {s : St} {k : Ex → Env → St → Ans} (hj : 1 ≤ j)
    (hb : (ia n cl rd G h (d + 1) e (⟨[], []⟩ :: s) fun x e s => tailK s fun s2 => liveK B (d - 1) e live fun e =>
      Ex.rec (motive := fun _ => Ans) (B.loop ia live n (j - 1) cl rd G h d e s2 k) (fun i => k (.exit i) e s2) (k .ret e s2) x) = r) : B.loop ia live n j cl rd G h d e s k = r := by
  obtain ⟨j, rfl⟩ : ∃ m, j = m + 1 := ⟨j - 1, by omega⟩
  exact loop_succ hB hb
end

theorem lookup_ok {cl : Call} {rd : Round} {G : Nat → List AV} {h : Nat} {e : Env} {s : St} {kk : EqK} {z : AV} {m k : X} {es : List (AV × AV)} {r : Option AV} (hm : mapAt s (m.ev G e) = some es) (hk : keyOK kk (k.ev G e) = true) (hl : lookE kk (k.ev G e) es = some r) :
    evO cl rd G h e s (.lookup kk z true m k) = some (.tup [r.getD z, .bool r.isSome], s) := by
  simp only [evO, hm, Option.bind_some, if_pos hk, hl, Option.map_some, if_true]
theorem upd_ok {cl : Call} {rd : Round} {G : Nat → List AV} {h : Nat} {e : Env} {s : St} {kk : EqK} {m k v : X} {l i : Nat} {es es' : List (AV × AV)} {w : AV} (hm : m.ev G e = .mp l i) (hs : getObj s l i = some (.map es)) (hk : keyOK kk (k.ev G e) = true) (hv : clamp l (v.ev G e) = some w) (hl : setE kk (k.ev G e) w es = some es') :
    evO cl rd G h e s (.upd kk m k v) = some (.tup [], setObj s l i (.map es')) := by
  simp only [evO, updAt, hm, hs, if_pos hk, hv, Option.bind_some, hl, Option.map_some]
theorem mkmap_ok {cl : Call} {rd : Round} {G : Nat → List AV} {h : Nat} {e : Env} {os : List AObj} {t : List (Nat × Nat × Nat)} {s : St} : evO cl rd G h e (⟨os, t⟩ :: s) .mkmap = some (.mp s.length os.length, ⟨os ++ [.map []], t⟩ :: s) := by
  simp [evO, newObj]
/-- To show something of a round. -/
theorem round_open {G : Nat → List AV} {T : Tr} {n d l i h : Nat} {env : Env} {ps : List Nat} {asg body : C} {args : List AV} {s : St} {k : AV → St → Ans} {r : Ans} (hd : d = s.length) (ho : getObj s l i = some (.loop env h ps asg body true .nrm)) (hn : 1 ≤ n) (hl : ps.length = args.length)
    (H : ∀ (m : Nat) (B : Bnd) (cl : CallK) (rd : RoundK), n = m + 1 → B = Bk → cl = (evKR Bk G T m).1 → rd = (evKR Bk G T m).2 →
      (evCK B asg m cl rd G h (d + 1) ((ps.zip args).reverse ++ env) (⟨[], []⟩ :: s) fun x e s1 => B.obj (d + 1) s1 l i fun o1 => match x, o1 with
            | .nrm, .loop env2 h2 ps2 asg2 body2 true .nrm => B.sob (d + 1) s1 l i (.loop env2 h2 ps2 asg2 body2 false .nrm) fun s1 =>
              evCK B body m cl rd G h (d + 1) e s1 fun x _ s2 => B.obj (d + 1) s2 l i fun o2 => match o2 with
                | .loop env2 h2 ps2 asg2 body2 false .nrm => Ex.rec (motive := fun _ => Ans)
                  (B.sob (d + 1) s2 l i (.loop env2 h2 ps2 asg2 body2 true .nrm) fun s3 => tailK s3 fun s3 => k (.bool true) s3)
                  (fun j => B.sob (d + 1) s2 l i (.loop env2 h2 ps2 asg2 body2 false (.exit j)) fun s3 => tailK s3 fun s3 => k (.bool false) s3)
                  (B.sob (d + 1) s2 l i (.loop env2 h2 ps2 asg2 body2 false .ret) fun s3 => tailK s3 fun s3 => k (.bool false) s3) x
                | _ => none
            | _, _ => none) = r) : (evKR Bk G T n).2 d l i args s k = r := by
  obtain ⟨m, rfl⟩ : ∃ m, n = m + 1 := ⟨n - 1, by omega⟩
  rw [← H m Bk _ _ rfl rfl rfl rfl]
  show objK d s l i _ = _
  rw [objK_eq hd, ho]
  show ifK (Nat.beq (lenK ps) (lenK args)) _ = _
  rw [ifK_eq, lenK_eq, lenK_eq, if_pos (by simpa using hl)]
  rfl

/-! ### frames -/
theorem getObj_sub {f : Fr} {s : St} {l i : Nat} (h : l < s.length) : getObj (f :: s) l i = getObj s l i := by
  unfold getObj
  show (if l = s.length then some f else getFr s l).bind _ = _
  rw [if_neg (by omega)]
theorem getObj_top {f : Fr} {s : St} {l i : Nat} (h : l = s.length) : getObj (f :: s) l i = getO f.objs i := by
  unfold getObj
  show (if l = s.length then some f else getFr s l).bind _ = _
  rw [if_pos h]; rfl
theorem setObj_sub {f : Fr} {s : St} {l i : Nat} {o : AObj} (h : l < s.length) : setObj (f :: s) l i o = f :: setObj s l i o := by
  show (if l = s.length then _ else f :: modFr (setO i o) s l) = _
  rw [if_neg (by omega)]; rfl
theorem setObj_top {os : List AObj} {t : List (Nat × Nat × Nat)} {s : St} {l i : Nat} {o : AObj} (h : l = s.length) : setObj (⟨os, t⟩ :: s) l i o = ⟨os.set i o, t⟩ :: s := by
  show (if l = s.length then setO i o ⟨os, t⟩ :: s else _) = _
  rw [if_pos h]; simp [setO]
theorem setObj_len {s : St} {l i : Nat} {o : AObj} : (setObj s l i o).length = s.length := setObj_length ..
theorem getO_set {os : List AObj} {i : Nat} {o o' : AObj} (h : getO os i = some o') : getO (os.set i o) i = some o := by
  induction os generalizing i with
  | nil => cases i <;> cases h
  | cons x os ih => cases i with
    | zero => rfl
    | succ i => exact ih h
theorem getObj_set {s : St} {l i : Nat} {o o' : AObj} (h : getObj s l i = some o') : getObj (setObj s l i o) l i = some o := by
  induction s with
  | nil => cases h
  | cons f s ih =>
    obtain ⟨os, t⟩ := f
    by_cases hl : l = s.length
    · rw [setObj_top hl, getObj_top hl]
      rw [getObj_top hl] at h
      exact getO_set h
    · have h2 : l < s.length := by have := getObj_lt h; simp at this; omega
      rw [getObj_sub h2] at h
      rw [setObj_sub h2, getObj_sub (by rw [setObj_len]; exact h2)]
      exact ih h
theorem setObj_set {s : St} {l i : Nat} {o o' : AObj} : setObj (setObj s l i o) l i o' = setObj s l i o' := by
  induction s with
  | nil => rfl
  | cons f s ih =>
    obtain ⟨os, t⟩ := f
    by_cases hl : l = s.length
    · rw [setObj_top hl, setObj_top hl, setObj_top hl, List.set_set]
    · by_cases h2 : l < s.length
      · rw [setObj_sub h2, setObj_sub (by rw [setObj_len]; exact h2), setObj_sub h2, ih]
      · have e : ∀ (s : St) (o : AObj), s.length ≤ l → setObj s l i o = s := by
          intro s o h
          induction s with
          | nil => rfl
          | cons f s ih =>
            show (if l = s.length then _ else f :: modFr (setO i o) s l) = _
            simp at h
            rw [if_neg (by omega)]
            exact congrArg (f :: ·) (ih (by omega))
        have hle : (⟨os, t⟩ :: s : St).length ≤ l := by simp; omega
        rw [e _ _ hle, e _ _ hle]
theorem getO_same {os : List AObj} {i : Nat} {o : AObj} (h : getO os i = some o) : os.set i o = os := by
  induction os generalizing i with
  | nil => rfl
  | cons x os ih => cases i with
    | zero => cases h; rfl
    | succ i => exact congrArg (x :: ·) (ih h)
theorem setObj_same {s : St} {l i : Nat} {o : AObj} (h : getObj s l i = some o) : setObj s l i o = s := by
  induction s with
  | nil => rfl
  | cons f s ih =>
    obtain ⟨os, t⟩ := f
    by_cases hl : l = s.length
    · rw [setObj_top hl]; rw [getObj_top hl] at h; rw [getO_same h]
    · have h2 : l < s.length := by have := getObj_lt h; simp at this; omega
      rw [setObj_sub h2, ih (by rw [getObj_sub h2] at h; exact h)]
theorem getObj_over {fr : List Fr} {s : St} {l i : Nat} (h : l < s.length) : getObj (fr ++ s) l i = getObj s l i := by
  induction fr with
  | nil => rfl
  | cons f fr ih => rw [List.cons_append, getObj_sub (by simp; omega), ih]
theorem setObj_over {fr : List Fr} {s : St} {l i : Nat} {o : AObj} (h : l < s.length) : setObj (fr ++ s) l i o = fr ++ setObj s l i o := by
  induction fr with
  | nil => rfl
  | cons f fr ih => rw [List.cons_append, setObj_sub (by simp; omega), ih]; rfl
theorem setTop0 {x0 : AObj} {r : List AObj} {t : List (Nat × Nat × Nat)} {s : St} {l : Nat} {o : AObj} (h : l = s.length) : setObj (⟨x0 :: r, t⟩ :: s) l 0 o = ⟨o :: r, t⟩ :: s := setObj_top h
theorem setTop1 {x0 x1 : AObj} {r : List AObj} {t : List (Nat × Nat × Nat)} {s : St} {l : Nat} {o : AObj} (h : l = s.length) : setObj (⟨x0 :: x1 :: r, t⟩ :: s) l 1 o = ⟨x0 :: o :: r, t⟩ :: s := setObj_top h
theorem setTop2 {x0 x1 x2 : AObj} {r : List AObj} {t : List (Nat × Nat × Nat)} {s : St} {l : Nat} {o : AObj} (h : l = s.length) : setObj (⟨x0 :: x1 :: x2 :: r, t⟩ :: s) l 2 o = ⟨x0 :: x1 :: o :: r, t⟩ :: s := setObj_top h
theorem setTop3 {x0 x1 x2 x3 : AObj} {r : List AObj} {t : List (Nat × Nat × Nat)} {s : St} {l : Nat} {o : AObj} (h : l = s.length) : setObj (⟨x0 :: x1 :: x2 :: x3 :: r, t⟩ :: s) l 3 o = ⟨x0 :: x1 :: x2 :: o :: r, t⟩ :: s := setObj_top h
theorem setTop4 {x0 x1 x2 x3 x4 : AObj} {r : List AObj} {t : List (Nat × Nat × Nat)} {s : St} {l : Nat} {o : AObj} (h : l = s.length) : setObj (⟨x0 :: x1 :: x2 :: x3 :: x4 :: r, t⟩ :: s) l 4 o = ⟨x0 :: x1 :: x2 :: x3 :: o :: r, t⟩ :: s := setObj_top h
theorem setTop5 {x0 x1 x2 x3 x4 x5 : AObj} {r : List AObj} {t : List (Nat × Nat × Nat)} {s : St} {l : Nat} {o : AObj} (h : l = s.length) : setObj (⟨x0 :: x1 :: x2 :: x3 :: x4 :: x5 :: r, t⟩ :: s) l 5 o = ⟨x0 :: x1 :: x2 :: x3 :: x4 :: o :: r, t⟩ :: s := setObj_top h
theorem mapAt_mp {s : St} {l i : Nat} {es : List (AV × AV)} (h : getObj s l i = some (.map es)) : mapAt s (.mp l i) = some es := by simp [mapAt, h]
mutual
/-- A value that is surely the same as itself. -/
def selfV : AV → Bool
  | .int .. | .bool _ | .str _ | .nilP | .nilM | .nilF => true
  | .sl r _ => selfVss r
  | .rp c => selfVs c
  | _ => false
def selfVs : List AV → Bool
  | [] => true
  | v :: l => selfV v && selfVs l
def selfVss : List (List AV) → Bool
  | [] => true
  | r :: l => selfVs r && selfVss l
end
mutual
theorem same_self : ∀ v : AV, selfV v = true → sameV v v = true
  | .int .., _ | .bool _, _ | .str _, _ => by simp [sameV]
  | .nilP, _ | .nilM, _ | .nilF, _ => by simp [sameV]
  | .sl r _, h => by simp [sameV, same_selfss r h]
  | .rp c, h => by simp [sameV, same_selfs c h]
  | .undef, h | .nilI, h | .ptr .., h | .os .., h | .mp .., h | .pm _, h | .fn .., h | .yl .., h | .agg _, h | .tup _, h => by cases h
theorem same_selfs : ∀ l : List AV, selfVs l = true → sameVs l l = true
  | [], _ => by simp [sameVs]
  | v :: l, h => by
    simp only [selfVs, Bool.and_eq_true] at h
    simp [sameVs, same_self v h.1, same_selfs l h.2]
theorem same_selfss : ∀ l : List (List AV), selfVss l = true → sameVss l l = true
  | [], _ => by simp [sameVss]
  | v :: l, h => by
    simp only [selfVss, Bool.and_eq_true] at h
    simp [sameVss, same_selfs v h.1, same_selfss l h.2]
end
theorem selfVss_map {α : Type} {f : α → List AV} (h : ∀ a, selfVs (f a) = true) (l : List α) : selfVss (l.map f) = true := by
  induction l with
  | nil => rfl
  | cons a l ih => simp [selfVss, h a, ih]
theorem kept_one {s s' : St} {e : Env} {t : Nat} {c : List AV} (h1 : cellsAt s (e.get t) = some c) (h2 : cellsAt s' (e.get t) = some c) (h : selfVs c = true) : kept s s' e [t] = true := by
  simp [kept, h1, h2, same_selfs c h]
end Go.Ab
