/-
  The claims: plain desks, and what the small functions of the program say of them.
-/
import Derived.Test.YthbekoofiienjaaDoorCodeY
import Derived.Test.YthbekoofiienjaaDoorAbSym
namespace Go.Ab.Cl
open Go.Ab

def within (a b c : Int) : Bool := decide (b ≤ a) && decide (a ≤ c)
def isSpan (a b c d : Int) : Bool := decide (c ≤ a) && decide (a ≤ b) && decide (b ≤ d)
structure Parcel where
  day : Int
  weight : Int
  mark : Int
  value : Int
def Parcel.c (p : Parcel) : List AV := [.int .i64 p.day, .int .i64 p.weight, .int .i64 p.mark, .int .i64 p.value]
structure Box where
  day : Int
  low : Int
  high : Int
  mark : List UInt8
  stamp : Bool
def Box.c (b : Box) : List AV := [.int .i64 b.day, .int .i64 b.low, .int .i64 b.high, .str b.mark, .bool b.stamp]
structure Desk where
  lo : Int
  hi : Int
  wear : Int
  strange : Int
  ps : List Parcel
  bs : List Box
  tp : Tok
  tb : Tok
def Desk.c (d : Desk) : List AV := [.int .i64 d.lo, .int .i64 d.hi, .int .i64 d.wear, .int .i64 d.strange, .sl (d.ps.map Parcel.c) d.tp, .sl (d.bs.map Box.c) d.tb]
def Desk.v (d : Desk) : AV := .agg d.c
structure Desk.ok (d : Desk) : Prop where
  tp : purTok d.tp = true
  tb : purTok d.tb = true
  ps : d.ps.length ≤ 200000000000000
  bs : d.bs.length ≤ 200000000000000
  str : ∀ b ∈ d.bs, b.mark.length ≤ 1000000000000000

def okParcel (p : Parcel) : Bool := within p.day 0 4000 && within p.weight 0 50000 && within p.mark 0 9999 && within p.value 0 100000
def okDigit (b : UInt8) : Bool := decide ((b.toNat : Int) = 63) || within b.toNat 48 57
def okSeal (s : List UInt8) : Bool := (s.isEmpty || s.length == 4) && s.all okDigit
def okBox (b : Box) : Bool := within b.day 0 4000 && isSpan b.low b.high 0 50000 && okSeal b.mark
def Desk.check (d : Desk) : Bool := isSpan d.lo d.hi 0 400 && within d.wear 0 5000 && within d.strange 0 6 && decide (d.ps.length ≤ 8) && decide (d.bs.length ≤ 6) && d.ps.all okParcel && d.bs.all okBox

theorem within_ev {G : Nat → List AV} {n : Nat} (hn : 1 ≤ n) (a b c : Int) : (evKR Bk G fsT n).1 0 58 [.int .i64 a, .int .i64 b, .int .i64 c] [] ansK = some (.bool (within a b c), []) := by
  refine call_open (show fsT.find 58 = some a58 from rfl) (by omega) fun n B cl rd hn' hB hcl hrd => ?_
  conv => lhs; whnf
  repeat' ((first
    | refine le_split hB (fun _ => ?_) (fun _ => ?_)
    | refine purs_step hB rfl ?_
    | refine lt_tt hB (by decide) ?_
    | refine lt_ff hB (by decide) ?_
    | refine le_tt hB (by decide) ?_
    | refine le_ff hB (by decide) ?_
    | refine eq_tt hB (by decide) ?_
    | refine eq_ff hB (by decide) ?_
    | refine fint_wrp hB (by omega) (by omega) ?_
    | refine fint_step hB ?_
    | refine fbool_tt hB ?_
    | refine fbool_ff hB ?_
    | refine fbool_split hB (fun _ => ?_) (fun _ => ?_)
    | refine ftok_step hB ?_
    | refine frows_step hB ?_
    | refine fstr_step hB ?_
    | refine len_map hB ?_
    | refine len_step hB ?_
    | refine lens_step hB ?_
    | refine byte_step hB ?_
    | refine drop_step hB rfl ?_
    | refine fl_step hB rfl ?_
    | refine add_one hB (by first | omega | decide) ?_
    | refine opt_step hB rfl ?_
    | refine fnat_step hB ?_
    | refine ifk_step hB rfl ?_
    | refine ifk_step hB (flat_or rfl) ?_
    | refine opt2_step hB rfl ?_
    | refine obj_raw hB ?_
    | refine sob_raw hB ?_
    | refine fst_raw hB ?_
    | refine optl_raw hB ?_
    | refine tok_step hB rfl ?_
    ) <;> conv => lhs; whnf)
  all_goals simp_all [within] <;> omega

theorem isSpan_ev {G : Nat → List AV} {n : Nat} (hn : 1 ≤ n) (a b c d : Int) : (evKR Bk G fsT n).1 0 57 [.agg [.int .i64 a, .int .i64 b], .int .i64 c, .int .i64 d] [] ansK = some (.bool (isSpan a b c d), []) := by
  refine call_open (show fsT.find 57 = some a57 from rfl) (by omega) fun n B cl rd hn' hB hcl hrd => ?_
  conv => lhs; whnf
  repeat' ((first
    | refine le_split hB (fun _ => ?_) (fun _ => ?_)
    | refine purs_step hB rfl ?_
    | refine lt_tt hB (by decide) ?_
    | refine lt_ff hB (by decide) ?_
    | refine le_tt hB (by decide) ?_
    | refine le_ff hB (by decide) ?_
    | refine eq_tt hB (by decide) ?_
    | refine eq_ff hB (by decide) ?_
    | refine fint_wrp hB (by omega) (by omega) ?_
    | refine fint_step hB ?_
    | refine fbool_tt hB ?_
    | refine fbool_ff hB ?_
    | refine fbool_split hB (fun _ => ?_) (fun _ => ?_)
    | refine ftok_step hB ?_
    | refine frows_step hB ?_
    | refine fstr_step hB ?_
    | refine len_map hB ?_
    | refine len_step hB ?_
    | refine lens_step hB ?_
    | refine byte_step hB ?_
    | refine drop_step hB rfl ?_
    | refine fl_step hB rfl ?_
    | refine add_one hB (by first | omega | decide) ?_
    | refine opt_step hB rfl ?_
    | refine fnat_step hB ?_
    | refine ifk_step hB rfl ?_
    | refine ifk_step hB (flat_or rfl) ?_
    | refine opt2_step hB rfl ?_
    | refine obj_raw hB ?_
    | refine sob_raw hB ?_
    | refine fst_raw hB ?_
    | refine optl_raw hB ?_
    | refine tok_step hB rfl ?_
    ) <;> conv => lhs; whnf)
  all_goals simp_all [isSpan] <;> omega

theorem a59_L1_step {G : Nat → List AV} {B : Bnd} (hB : B = Bk) {cl : CallK} {rd : RoundK} (H58 : ∀ a b c : Int, cl 0 58 [.int .i64 a, .int .i64 b, .int .i64 c] [] ansK = some (.bool (within a b c), [])) (m : List UInt8) (hlen : m.length ≤ 9223372036854775806) (n : Nat) (s : St) (k : Ex → Env → St → Ans) (r : Ans) :
    ∀ (j i : Nat), m.length < i + j → i ≤ m.length →
    ((m.drop i).all okDigit = true → k (.exit 0) [(0, .str m), (2, .bool false), (12, .int .i64 (.ofNat m.length)), (13, .int .i64 (.ofNat m.length))] s = r) →
    ((m.drop i).all okDigit = false → ∀ i', k .ret [(0, .str m), (2, .bool false), (12, .int .i64 (.ofNat m.length)), (13, .int .i64 (.ofNat i'))] s = r) →
    B.loop (evCK B a59_L1) [0, 2, 12, 13] n j cl rd G 0 1 [(0, .str m), (2, .bool false), (12, .int .i64 (.ofNat m.length)), (13, .int .i64 (.ofNat i))] s k = r := by
  intro j
  induction j with
  | zero => intro i h1 h2; omega
  | succ j ih =>
    intro i h1 h2 k1 k2
    refine loop_succ hB ?_
    conv => lhs; whnf
    refine lt_nat hB (fun h => ?_) (fun h => ?_) <;> conv => lhs; whnf
    · have hx : m[i]? = some m[i] := by simp [h]
      have hd : m.drop i = m[i] :: m.drop (i + 1) := List.drop_eq_getElem_cons h
      rw [hd] at k1 k2
      generalize m[i] = b at hx k1 k2
      repeat' ((first
        | refine pans_bool hB (H58 _ _ _) (fun _ => ?_) (fun _ => ?_)
        | refine natOf_step hB (m := i) rfl ?_
        | refine nthb_step hB hx ?_
        | refine byte_step hB ?_
        | refine eq_split hB (fun _ => ?_) (fun _ => ?_)
        | refine purs_step hB rfl ?_
        | refine lt_tt hB (by decide) ?_
        | refine lt_ff hB (by decide) ?_
        | refine le_tt hB (by decide) ?_
        | refine le_ff hB (by decide) ?_
        | refine eq_tt hB (by decide) ?_
        | refine eq_ff hB (by decide) ?_
        | refine fint_wrp hB (by omega) (by omega) ?_
        | refine fint_step hB ?_
        | refine fbool_tt hB ?_
        | refine fbool_ff hB ?_
        | refine fbool_split hB (fun _ => ?_) (fun _ => ?_)
        | refine ftok_step hB ?_
        | refine frows_step hB ?_
        | refine fstr_step hB ?_
        | refine len_map hB ?_
        | refine len_step hB ?_
        | refine lens_step hB ?_
        | refine byte_step hB ?_
        | refine drop_step hB rfl ?_
        | refine fl_step hB rfl ?_
        | refine add_one hB (by first | omega | decide) ?_
        | refine opt_step hB rfl ?_
        | refine fnat_step hB ?_
        | refine ifk_step hB rfl ?_
        | refine ifk_step hB (flat_or rfl) ?_
        | refine opt2_step hB rfl ?_
        | refine obj_raw hB ?_
        | refine sob_raw hB ?_
        | refine fst_raw hB ?_
        | refine optl_raw hB ?_
        | refine tok_step hB rfl ?_
        ) <;> conv => lhs; whnf)
      · have hb : okDigit b = true := by clear ih k1 k2; simp_all [okDigit]
        exact ih (i + 1) (by omega) (by omega) (fun h => k1 (by rw [List.all_cons, hb, h]; rfl)) (fun h => k2 (by rw [List.all_cons, hb, h]; rfl))
      · have hb : okDigit b = true := by clear ih k1 k2; simp_all [okDigit]
        exact ih (i + 1) (by omega) (by omega) (fun h => k1 (by rw [List.all_cons, hb, h]; rfl)) (fun h => k2 (by rw [List.all_cons, hb, h]; rfl))
      · have hb : okDigit b = false := by clear ih k1 k2; simp_all [okDigit]
        exact k2 (by rw [List.all_cons, hb]; rfl) i
    · repeat' ((first
        | refine purs_step hB rfl ?_
        | refine lt_tt hB (by decide) ?_
        | refine lt_ff hB (by decide) ?_
        | refine le_tt hB (by decide) ?_
        | refine le_ff hB (by decide) ?_
        | refine eq_tt hB (by decide) ?_
        | refine eq_ff hB (by decide) ?_
        | refine fint_wrp hB (by omega) (by omega) ?_
        | refine fint_step hB ?_
        | refine fbool_tt hB ?_
        | refine fbool_ff hB ?_
        | refine fbool_split hB (fun _ => ?_) (fun _ => ?_)
        | refine ftok_step hB ?_
        | refine frows_step hB ?_
        | refine fstr_step hB ?_
        | refine len_map hB ?_
        | refine len_step hB ?_
        | refine lens_step hB ?_
        | refine byte_step hB ?_
        | refine drop_step hB rfl ?_
        | refine fl_step hB rfl ?_
        | refine add_one hB (by first | omega | decide) ?_
        | refine opt_step hB rfl ?_
        | refine fnat_step hB ?_
        | refine ifk_step hB rfl ?_
        | refine ifk_step hB (flat_or rfl) ?_
        | refine opt2_step hB rfl ?_
        | refine obj_raw hB ?_
        | refine sob_raw hB ?_
        | refine fst_raw hB ?_
        | refine optl_raw hB ?_
        | refine tok_step hB rfl ?_
        ) <;> conv => lhs; whnf)
      have : i = m.length := by omega
      subst this
      exact k1 (by simp)

theorem isSeal_ev {G : Nat → List AV} {n : Nat} (m : List UInt8) (hl : m.length ≤ 1000000000000000) (hn : m.length + 2 ≤ n) : (evKR Bk G fsT n).1 0 59 [.str m] [] ansK = some (.bool (okSeal m), []) := by
  refine call_open (show fsT.find 59 = some a59 from rfl) (by omega) fun n B cl rd hn' hB hcl hrd => ?_
  have H58 := fun a b c => within_ev (G := G) (n := n) (by omega) a b c
  rw [← hcl] at H58
  conv => lhs; whnf
  repeat' ((first
    | refine eq_split hB (fun _ => ?_) (fun _ => ?_)
    | refine a59_L1_step hB H58 m (by omega) _ _ _ _ _ 0 (by omega) (by omega) (fun _ => ?_) (fun _ _ => ?_)
    | refine purs_step hB rfl ?_
    | refine lt_tt hB (by decide) ?_
    | refine lt_ff hB (by decide) ?_
    | refine le_tt hB (by decide) ?_
    | refine le_ff hB (by decide) ?_
    | refine eq_tt hB (by decide) ?_
    | refine eq_ff hB (by decide) ?_
    | refine fint_wrp hB (by omega) (by omega) ?_
    | refine fint_step hB ?_
    | refine fbool_tt hB ?_
    | refine fbool_ff hB ?_
    | refine fbool_split hB (fun _ => ?_) (fun _ => ?_)
    | refine ftok_step hB ?_
    | refine frows_step hB ?_
    | refine fstr_step hB ?_
    | refine len_map hB ?_
    | refine len_step hB ?_
    | refine lens_step hB ?_
    | refine byte_step hB ?_
    | refine drop_step hB rfl ?_
    | refine fl_step hB rfl ?_
    | refine add_one hB (by first | omega | decide) ?_
    | refine opt_step hB rfl ?_
    | refine fnat_step hB ?_
    | refine ifk_step hB rfl ?_
    | refine ifk_step hB (flat_or rfl) ?_
    | refine opt2_step hB rfl ?_
    | refine obj_raw hB ?_
    | refine sob_raw hB ?_
    | refine fst_raw hB ?_
    | refine optl_raw hB ?_
    | refine tok_step hB rfl ?_
    ) <;> conv => lhs; whnf)
  all_goals
    have hc : ((m.length : Int) = 4) ↔ m.length = 4 := by omega
    simp_all [okSeal]

theorem a15_L1_step {G : Nat → List AV} {B : Bnd} (hB : B = Bk) {cl : CallK} {rd : RoundK} (H58 : ∀ a b c : Int, cl 0 58 [.int .i64 a, .int .i64 b, .int .i64 c] [] ansK = some (.bool (within a b c), [])) (ps : List Parcel) (hlen : ps.length ≤ 9223372036854775806) {tp : Tok} (htp : purTok tp = true) (n : Nat) (s : St) (k : Ex → Env → St → Ans) (r : Ans) :
    ∀ (j i : Nat) (ok : Bool), ps.length < i + j → i ≤ ps.length →
    (k (.exit 0) [(1, .ptr 0 0 0), (3, .bool (ok && (ps.drop i).all okParcel)), (34, .sl (ps.map Parcel.c) tp), (35, .int .i64 (.ofNat ps.length)), (36, .int .i64 (.ofNat ps.length))] s = r) →
    B.loop (evCK B a15_L1) [1, 3, 34, 35, 36] n j cl rd G 0 1 [(1, .ptr 0 0 0), (3, .bool ok), (34, .sl (ps.map Parcel.c) tp), (35, .int .i64 (.ofNat ps.length)), (36, .int .i64 (.ofNat i))] s k = r := by
  intro j
  induction j with
  | zero => intro i ok h1 h2; omega
  | succ j ih =>
    intro i ok h1 h2 k1
    refine loop_succ hB ?_
    conv => lhs; whnf
    refine lt_nat hB (fun h => ?_) (fun h => ?_) <;> conv => lhs; whnf
    · have hx : (ps.map Parcel.c)[i]? = some (Parcel.c ps[i]) := by simp [h]
      have hd : ps.drop i = ps[i] :: ps.drop (i + 1) := List.drop_eq_getElem_cons h
      rw [hd] at k1
      generalize ps[i] = p at hx k1
      refine natOf_step hB (m := i) rfl ?_
      conv => lhs; whnf
      refine nth_step hB hx ?_
      conv => lhs; whnf
      cases ok
      all_goals
        repeat' ((first
          | refine pans_bool hB (H58 _ _ _) (fun _ => ?_) (fun _ => ?_)
          | refine purs_step hB rfl ?_
          | refine lt_tt hB (by decide) ?_
          | refine lt_ff hB (by decide) ?_
          | refine le_tt hB (by decide) ?_
          | refine le_ff hB (by decide) ?_
          | refine eq_tt hB (by decide) ?_
          | refine eq_ff hB (by decide) ?_
          | refine fint_wrp hB (by omega) (by omega) ?_
          | refine fint_step hB ?_
          | refine fbool_tt hB ?_
          | refine fbool_ff hB ?_
          | refine fbool_split hB (fun _ => ?_) (fun _ => ?_)
          | refine ftok_step hB ?_
          | refine frows_step hB ?_
          | refine fstr_step hB ?_
          | refine len_map hB ?_
          | refine len_step hB ?_
          | refine lens_step hB ?_
          | refine byte_step hB ?_
          | refine drop_step hB rfl ?_
          | refine fl_step hB rfl ?_
          | refine add_one hB (by first | omega | decide) ?_
          | refine opt_step hB rfl ?_
          | refine fnat_step hB ?_
          | refine ifk_step hB rfl ?_
          | refine ifk_step hB (flat_or rfl) ?_
          | refine opt2_step hB rfl ?_
          | refine obj_raw hB ?_
          | refine sob_raw hB ?_
          | refine fst_raw hB ?_
          | refine optl_raw hB ?_
          | refine tok_step hB rfl ?_
          ) <;> conv => lhs; whnf)
      all_goals
        rw [clampTok_pur htp]
        refine ih (i + 1) _ (by omega) (by omega) ?_
        simp_all [okParcel]
    · repeat' ((first
        | refine purs_step hB rfl ?_
        | refine lt_tt hB (by decide) ?_
        | refine lt_ff hB (by decide) ?_
        | refine le_tt hB (by decide) ?_
        | refine le_ff hB (by decide) ?_
        | refine eq_tt hB (by decide) ?_
        | refine eq_ff hB (by decide) ?_
        | refine fint_wrp hB (by omega) (by omega) ?_
        | refine fint_step hB ?_
        | refine fbool_tt hB ?_
        | refine fbool_ff hB ?_
        | refine fbool_split hB (fun _ => ?_) (fun _ => ?_)
        | refine ftok_step hB ?_
        | refine frows_step hB ?_
        | refine fstr_step hB ?_
        | refine len_map hB ?_
        | refine len_step hB ?_
        | refine lens_step hB ?_
        | refine byte_step hB ?_
        | refine drop_step hB rfl ?_
        | refine fl_step hB rfl ?_
        | refine add_one hB (by first | omega | decide) ?_
        | refine opt_step hB rfl ?_
        | refine fnat_step hB ?_
        | refine ifk_step hB rfl ?_
        | refine ifk_step hB (flat_or rfl) ?_
        | refine opt2_step hB rfl ?_
        | refine obj_raw hB ?_
        | refine sob_raw hB ?_
        | refine fst_raw hB ?_
        | refine optl_raw hB ?_
        | refine tok_step hB rfl ?_
        ) <;> conv => lhs; whnf)
      have : i = ps.length := by omega
      subst this
      rw [clampTok_pur htp]
      simpa using k1

theorem a15_L2_step {G : Nat → List AV} {B : Bnd} (hB : B = Bk) {cl : CallK} {rd : RoundK} (H58 : ∀ a b c : Int, cl 0 58 [.int .i64 a, .int .i64 b, .int .i64 c] [] ansK = some (.bool (within a b c), []))
    (H57 : ∀ a b c d : Int, cl 0 57 [.agg [.int .i64 a, .int .i64 b], .int .i64 c, .int .i64 d] [] ansK = some (.bool (isSpan a b c d), []))
    (bs : List Box) (H59 : ∀ b ∈ bs, cl 0 59 [.str b.mark] [] ansK = some (.bool (okSeal b.mark), [])) (hlen : bs.length ≤ 9223372036854775806) {tb : Tok} (htb : purTok tb = true) (n : Nat) (s : St) (k : Ex → Env → St → Ans) (r : Ans) :
    ∀ (j i : Nat) (ok : Bool), bs.length < i + j → i ≤ bs.length →
    (k (.exit 2) [(3, .bool (ok && (bs.drop i).all okBox)), (63, .sl (bs.map Box.c) tb), (64, .int .i64 (.ofNat bs.length)), (65, .int .i64 (.ofNat bs.length))] s = r) →
    B.loop (evCK B a15_L2) [3, 63, 64, 65] n j cl rd G 0 1 [(3, .bool ok), (63, .sl (bs.map Box.c) tb), (64, .int .i64 (.ofNat bs.length)), (65, .int .i64 (.ofNat i))] s k = r := by
  intro j
  induction j with
  | zero => intro i ok h1 h2; omega
  | succ j ih =>
    intro i ok h1 h2 k1
    refine loop_succ hB ?_
    conv => lhs; whnf
    refine lt_nat hB (fun h => ?_) (fun h => ?_) <;> conv => lhs; whnf
    · have hx : (bs.map Box.c)[i]? = some (Box.c bs[i]) := by simp [h]
      have hd : bs.drop i = bs[i] :: bs.drop (i + 1) := List.drop_eq_getElem_cons h
      rw [hd] at k1
      have H59 := H59 bs[i] (List.getElem_mem h)
      generalize bs[i] = b at hx k1 H59
      refine natOf_step hB (m := i) rfl ?_
      conv => lhs; whnf
      refine nth_step hB hx ?_
      conv => lhs; whnf
      cases ok
      all_goals
        repeat' ((first
          | refine pans_bool hB (H58 _ _ _) (fun _ => ?_) (fun _ => ?_)
          | refine pans_bool hB (H57 _ _ _ _) (fun _ => ?_) (fun _ => ?_)
          | refine pans_bool hB H59 (fun _ => ?_) (fun _ => ?_)
          | refine purs_step hB rfl ?_
          | refine lt_tt hB (by decide) ?_
          | refine lt_ff hB (by decide) ?_
          | refine le_tt hB (by decide) ?_
          | refine le_ff hB (by decide) ?_
          | refine eq_tt hB (by decide) ?_
          | refine eq_ff hB (by decide) ?_
          | refine fint_wrp hB (by omega) (by omega) ?_
          | refine fint_step hB ?_
          | refine fbool_tt hB ?_
          | refine fbool_ff hB ?_
          | refine fbool_split hB (fun _ => ?_) (fun _ => ?_)
          | refine ftok_step hB ?_
          | refine frows_step hB ?_
          | refine fstr_step hB ?_
          | refine len_map hB ?_
          | refine len_step hB ?_
          | refine lens_step hB ?_
          | refine byte_step hB ?_
          | refine drop_step hB rfl ?_
          | refine fl_step hB rfl ?_
          | refine add_one hB (by first | omega | decide) ?_
          | refine opt_step hB rfl ?_
          | refine fnat_step hB ?_
          | refine ifk_step hB rfl ?_
          | refine ifk_step hB (flat_or rfl) ?_
          | refine opt2_step hB rfl ?_
          | refine obj_raw hB ?_
          | refine sob_raw hB ?_
          | refine fst_raw hB ?_
          | refine optl_raw hB ?_
          | refine tok_step hB rfl ?_
          ) <;> conv => lhs; whnf)
      all_goals
        rw [clampTok_pur htb]
        refine ih (i + 1) _ (by omega) (by omega) ?_
        simp_all [okBox]
    · repeat' ((first
        | refine purs_step hB rfl ?_
        | refine lt_tt hB (by decide) ?_
        | refine lt_ff hB (by decide) ?_
        | refine le_tt hB (by decide) ?_
        | refine le_ff hB (by decide) ?_
        | refine eq_tt hB (by decide) ?_
        | refine eq_ff hB (by decide) ?_
        | refine fint_wrp hB (by omega) (by omega) ?_
        | refine fint_step hB ?_
        | refine fbool_tt hB ?_
        | refine fbool_ff hB ?_
        | refine fbool_split hB (fun _ => ?_) (fun _ => ?_)
        | refine ftok_step hB ?_
        | refine frows_step hB ?_
        | refine fstr_step hB ?_
        | refine len_map hB ?_
        | refine len_step hB ?_
        | refine lens_step hB ?_
        | refine byte_step hB ?_
        | refine drop_step hB rfl ?_
        | refine fl_step hB rfl ?_
        | refine add_one hB (by first | omega | decide) ?_
        | refine opt_step hB rfl ?_
        | refine fnat_step hB ?_
        | refine ifk_step hB rfl ?_
        | refine ifk_step hB (flat_or rfl) ?_
        | refine opt2_step hB rfl ?_
        | refine obj_raw hB ?_
        | refine sob_raw hB ?_
        | refine fst_raw hB ?_
        | refine optl_raw hB ?_
        | refine tok_step hB rfl ?_
        ) <;> conv => lhs; whnf)
      have : i = bs.length := by omega
      subst this
      rw [clampTok_pur htb]
      simpa using k1

theorem a15_L1_two {G : Nat → List AV} {B : Bnd} (hB : B = Bk) {cl : CallK} {rd : RoundK} (H58 : ∀ a b c : Int, cl 0 58 [.int .i64 a, .int .i64 b, .int .i64 c] [] ansK = some (.bool (within a b c), [])) (ps : List Parcel) (hlen : ps.length ≤ 9223372036854775806) {tp : Tok} (htp : purTok tp = true) (n : Nat) (s : St) (k : Ex → Env → St → Ans) (r : Ans) (j i : Nat) (ok : Bool) (hj : ps.length < i + j) (hi : i ≤ ps.length)
    (h1 : (ok && (ps.drop i).all okParcel) = true → k (.exit 0) [(1, .ptr 0 0 0), (3, .bool true), (34, .sl (ps.map Parcel.c) tp), (35, .int .i64 (.ofNat ps.length)), (36, .int .i64 (.ofNat ps.length))] s = r)
    (h2 : (ok && (ps.drop i).all okParcel) = false → k (.exit 0) [(1, .ptr 0 0 0), (3, .bool false), (34, .sl (ps.map Parcel.c) tp), (35, .int .i64 (.ofNat ps.length)), (36, .int .i64 (.ofNat ps.length))] s = r) :
    B.loop (evCK B a15_L1) [1, 3, 34, 35, 36] n j cl rd G 0 1 [(1, .ptr 0 0 0), (3, .bool ok), (34, .sl (ps.map Parcel.c) tp), (35, .int .i64 (.ofNat ps.length)), (36, .int .i64 (.ofNat i))] s k = r := by
  refine a15_L1_step hB H58 ps hlen htp n s k r j i ok hj hi ?_
  cases h : (ok && (ps.drop i).all okParcel)
  · exact h2 h
  · exact h1 h
theorem a15_L2_two {G : Nat → List AV} {B : Bnd} (hB : B = Bk) {cl : CallK} {rd : RoundK} (H58 : ∀ a b c : Int, cl 0 58 [.int .i64 a, .int .i64 b, .int .i64 c] [] ansK = some (.bool (within a b c), []))
    (H57 : ∀ a b c d : Int, cl 0 57 [.agg [.int .i64 a, .int .i64 b], .int .i64 c, .int .i64 d] [] ansK = some (.bool (isSpan a b c d), []))
    (bs : List Box) (H59 : ∀ b ∈ bs, cl 0 59 [.str b.mark] [] ansK = some (.bool (okSeal b.mark), [])) (hlen : bs.length ≤ 9223372036854775806) {tb : Tok} (htb : purTok tb = true) (n : Nat) (s : St) (k : Ex → Env → St → Ans) (r : Ans) (j i : Nat) (ok : Bool) (hj : bs.length < i + j) (hi : i ≤ bs.length)
    (h1 : (ok && (bs.drop i).all okBox) = true → k (.exit 2) [(3, .bool true), (63, .sl (bs.map Box.c) tb), (64, .int .i64 (.ofNat bs.length)), (65, .int .i64 (.ofNat bs.length))] s = r)
    (h2 : (ok && (bs.drop i).all okBox) = false → k (.exit 2) [(3, .bool false), (63, .sl (bs.map Box.c) tb), (64, .int .i64 (.ofNat bs.length)), (65, .int .i64 (.ofNat bs.length))] s = r) :
    B.loop (evCK B a15_L2) [3, 63, 64, 65] n j cl rd G 0 1 [(3, .bool ok), (63, .sl (bs.map Box.c) tb), (64, .int .i64 (.ofNat bs.length)), (65, .int .i64 (.ofNat i))] s k = r := by
  refine a15_L2_step hB H58 H57 bs H59 hlen htb n s k r j i ok hj hi ?_
  cases h : (ok && (bs.drop i).all okBox)
  · exact h2 h
  · exact h1 h

theorem Check_ev {G : Nat → List AV} {n : Nat} (d : Desk) (hd : d.ok) (hn : 1000000000000004 ≤ n) : (evKR Bk G fsT n).1 0 15 [d.v] [] ansK = some (.int .i64 (if d.check = true then 0 else 90), []) := by
  refine call_open (show fsT.find 15 = some a15 from rfl) (by omega) fun n B cl rd hn' hB hcl hrd => ?_
  have H58 := fun a b c => within_ev (G := G) (n := n) (by omega) a b c
  have H57 := fun a b c e => isSpan_ev (G := G) (n := n) (by omega) a b c e
  rw [← hcl] at H58 H57
  have H59 : ∀ b ∈ d.bs, cl 0 59 [.str b.mark] [] ansK = some (.bool (okSeal b.mark), []) := fun b hb => by
    rw [hcl]; exact isSeal_ev (G := G) (n := n) b.mark (hd.str b hb) (by have := hd.str b hb; omega)
  have h1 := hd.ps
  have h2 := hd.bs
  conv => lhs; whnf
  repeat' ((first
    | refine pans_bool hB (H58 _ _ _) (fun _ => ?_) (fun _ => ?_)
    | refine pans_bool hB (H57 _ _ _ _) (fun _ => ?_) (fun _ => ?_)
    | refine le_split hB (fun _ => ?_) (fun _ => ?_)
    | refine a15_L1_two hB H58 d.ps (by omega) (purTok_clamp hd.tp) _ _ _ _ _ 0 _ (by omega) (by omega) (fun _ => ?_) (fun _ => ?_)
    | refine a15_L2_two hB H58 H57 d.bs H59 (by omega) (purTok_clamp hd.tb) _ _ _ _ _ 0 _ (by omega) (by omega) (fun _ => ?_) (fun _ => ?_)
    | refine purs_step hB rfl ?_
    | refine lt_tt hB (by decide) ?_
    | refine lt_ff hB (by decide) ?_
    | refine le_tt hB (by decide) ?_
    | refine le_ff hB (by decide) ?_
    | refine eq_tt hB (by decide) ?_
    | refine eq_ff hB (by decide) ?_
    | refine fint_wrp hB (by omega) (by omega) ?_
    | refine fint_step hB ?_
    | refine fbool_tt hB ?_
    | refine fbool_ff hB ?_
    | refine fbool_split hB (fun _ => ?_) (fun _ => ?_)
    | refine ftok_step hB ?_
    | refine frows_step hB ?_
    | refine fstr_step hB ?_
    | refine len_map hB ?_
    | refine len_step hB ?_
    | refine lens_step hB ?_
    | refine byte_step hB ?_
    | refine drop_step hB rfl ?_
    | refine fl_step hB rfl ?_
    | refine add_one hB (by first | omega | decide) ?_
    | refine opt_step hB rfl ?_
    | refine fnat_step hB ?_
    | refine ifk_step hB rfl ?_
    | refine ifk_step hB (flat_or rfl) ?_
    | refine opt2_step hB rfl ?_
    | refine obj_raw hB ?_
    | refine sob_raw hB ?_
    | refine fst_raw hB ?_
    | refine optl_raw hB ?_
    | refine tok_step hB rfl ?_
    ) <;> conv => lhs; whnf)
  all_goals
    refine congrArg some (congrArg (·, []) (congrArg (AV.int .i64) ?_))
    have e1 : ((Int.ofNat d.ps.length) ≤ 8) ↔ d.ps.length ≤ 8 := by simp only [Int.ofNat_eq_natCast]; omega
    have e2 : ((Int.ofNat d.bs.length) ≤ 6) ↔ d.bs.length ≤ 6 := by simp only [Int.ofNat_eq_natCast]; omega
    clear H58 H57 H59
    simp only [List.drop_zero, Bool.true_and, Bool.false_and] at *
    unfold Desk.check
    generalize d.ps.all okParcel = pa at *
    generalize d.bs.all okBox = pb at *
    simp_all <;> (intros; omega)
end Go.Ab.Cl
