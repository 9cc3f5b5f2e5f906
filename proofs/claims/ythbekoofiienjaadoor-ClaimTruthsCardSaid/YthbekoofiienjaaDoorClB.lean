/-
  The claims: can a box be a parcel?
-/
import Derived.Test.YthbekoofiienjaaDoorClA
namespace Go.Ab.Cl
open Go.Ab

def Gx : Nat → List AV
  | 0 => [.fn 107 [] [], .fn 108 [] [], .fn 109 [] []]
  | _ => []

def dayB (d : Desk) (b : Box) (p : Parcel) : Bool := within (b.day - p.day) d.lo d.hi
def weightB (d : Desk) (b : Box) (p : Parcel) : Bool := decide (b.low ≤ p.weight) && decide (p.weight - d.wear ≤ b.high)
def sealGo : List UInt8 → Int → Bool
  | [], _ => true
  | c :: r, n => (decide ((c.toNat : Int) = 63) || decide ((c.toNat : Int) - 48 = n.tmod 10)) && sealGo r (n.tdiv 10)
def sealB (b : Box) (p : Parcel) : Bool := sealGo b.mark.reverse p.mark
def couldB (d : Desk) (b : Box) (p : Parcel) : Bool := dayB d b p && weightB d b p && sealB b p

theorem isBox_ev {G : Nat → List AV} {n : Nat} (hn : 2 ≤ n) (d : Desk) (hd : d.ok) (k : Int) : (evKR Bk G fsT n).1 0 52 [d.v, .int .i64 k] [] ansK = some (.bool (within k 0 ((d.bs.length : Int) - 1)), []) := by
  refine call_open (show fsT.find 52 = some a52 from rfl) (by omega) fun n B cl rd hn' hB hcl hrd => ?_
  have H58 := fun a b c => within_ev (G := G) (n := n) (by omega) a b c
  rw [← hcl] at H58
  have h1 := hd.bs
  conv => lhs; whnf
  repeat' ((first
    | refine pans_step hB (H58 _ _ _) ?_
    | refine sub_step hB (by simp only [Int.ofNat_eq_natCast]; omega) (by simp only [Int.ofNat_eq_natCast]; omega) ?_
    | refine purs_step hB rfl ?_
    | refine lt_tt hB (by decide) ?_
    | refine lt_ff hB (by decide) ?_
    | refine le_tt hB (by decide) ?_
    | refine le_ff hB (by decide) ?_
    | refine eq_tt hB (by decide) ?_
    | refine eq_ff hB (by decide) ?_
    | refine fint_wrp hB (by omega) (by omega) ?_
    | refine fint_step hB ?_
    | refine fbool_tt hB ?_
    | refine fbool_ff hB ?_
    | refine fbool_split hB (fun _ => ?_) (fun _ => ?_)
    | refine ftok_step hB ?_
    | refine frows_step hB ?_
    | refine fstr_step hB ?_
    | refine len_map hB ?_
    | refine len_step hB ?_
    | refine lens_step hB ?_
    | refine byte_step hB ?_
    | refine drop_step hB rfl ?_
    | refine fl_step hB rfl ?_
    | refine add_one hB (by first | omega | decide) ?_
    | refine opt_step hB rfl ?_
    | refine fnat_step hB ?_
    | refine ifk_step hB rfl ?_
    | refine ifk_step hB (flat_or rfl) ?_
    | refine opt2_step hB rfl ?_
    | refine obj_raw hB ?_
    | refine sob_raw hB ?_
    | refine fst_raw hB ?_
    | refine optl_raw hB ?_
    | refine tok_step hB rfl ?_
    ) <;> conv => lhs; whnf)
  rfl
theorem isParcel_ev {G : Nat → List AV} {n : Nat} (hn : 2 ≤ n) (d : Desk) (hd : d.ok) (k : Int) : (evKR Bk G fsT n).1 0 53 [d.v, .int .i64 k] [] ansK = some (.bool (within k 0 ((d.ps.length : Int) - 1)), []) := by
  refine call_open (show fsT.find 53 = some a53 from rfl) (by omega) fun n B cl rd hn' hB hcl hrd => ?_
  have H58 := fun a b c => within_ev (G := G) (n := n) (by omega) a b c
  rw [← hcl] at H58
  have h1 := hd.ps
  conv => lhs; whnf
  repeat' ((first
    | refine pans_step hB (H58 _ _ _) ?_
    | refine sub_step hB (by simp only [Int.ofNat_eq_natCast]; omega) (by simp only [Int.ofNat_eq_natCast]; omega) ?_
    | refine purs_step hB rfl ?_
    | refine lt_tt hB (by decide) ?_
    | refine lt_ff hB (by decide) ?_
    | refine le_tt hB (by decide) ?_
    | refine le_ff hB (by decide) ?_
    | refine eq_tt hB (by decide) ?_
    | refine eq_ff hB (by decide) ?_
    | refine fint_wrp hB (by omega) (by omega) ?_
    | refine fint_step hB ?_
    | refine fbool_tt hB ?_
    | refine fbool_ff hB ?_
    | refine fbool_split hB (fun _ => ?_) (fun _ => ?_)
    | refine ftok_step hB ?_
    | refine frows_step hB ?_
    | refine fstr_step hB ?_
    | refine len_map hB ?_
    | refine len_step hB ?_
    | refine lens_step hB ?_
    | refine byte_step hB ?_
    | refine drop_step hB rfl ?_
    | refine fl_step hB rfl ?_
    | refine add_one hB (by first | omega | decide) ?_
    | refine opt_step hB rfl ?_
    | refine fnat_step hB ?_
    | refine ifk_step hB rfl ?_
    | refine ifk_step hB (flat_or rfl) ?_
    | refine opt2_step hB rfl ?_
    | refine obj_raw hB ?_
    | refine sob_raw hB ?_
    | refine fst_raw hB ?_
    | refine optl_raw hB ?_
    | refine tok_step hB rfl ?_
    ) <;> conv => lhs; whnf)
  rfl

/-- What is small: as the checks have it. -/
def Small (x : Int) : Prop := -1000000000 ≤ x ∧ x ≤ 1000000000
theorem small_tdiv {m : Int} (h : Small m) : Small (m.tdiv 10) := by
  unfold Small at *
  rw [Int.tdiv_eq_ediv]
  have : Int.sign 10 = 1 := rfl
  split <;> omega

theorem day_ev {G : Nat → List AV} {n : Nat} (hn : 2 ≤ n) (d : Desk) (b : Box) (p : Parcel) (h1 : Small b.day) (h2 : Small p.day) : (evKR Bk G fsT n).1 0 107 [d.v, .agg b.c, .agg p.c] [] ansK = some (.bool (dayB d b p), []) := by
  refine call_open (show fsT.find 107 = some a107 from rfl) (by omega) fun n B cl rd hn' hB hcl hrd => ?_
  have H58 := fun a b c => within_ev (G := G) (n := n) (by omega) a b c
  rw [← hcl] at H58
  unfold Small at *
  conv => lhs; whnf
  repeat' ((first
    | refine pans_step hB (H58 _ _ _) ?_
    | refine sub_step hB (by omega) (by omega) ?_
    | refine purs_step hB rfl ?_
    | refine lt_tt hB (by decide) ?_
    | refine lt_ff hB (by decide) ?_
    | refine le_tt hB (by decide) ?_
    | refine le_ff hB (by decide) ?_
    | refine eq_tt hB (by decide) ?_
    | refine eq_ff hB (by decide) ?_
    | refine fint_wrp hB (by omega) (by omega) ?_
    | refine fint_step hB ?_
    | refine fbool_tt hB ?_
    | refine fbool_ff hB ?_
    | refine fbool_split hB (fun _ => ?_) (fun _ => ?_)
    | refine ftok_step hB ?_
    | refine frows_step hB ?_
    | refine fstr_step hB ?_
    | refine len_map hB ?_
    | refine len_step hB ?_
    | refine lens_step hB ?_
    | refine byte_step hB ?_
    | refine drop_step hB rfl ?_
    | refine fl_step hB rfl ?_
    | refine add_one hB (by first | omega | decide) ?_
    | refine opt_step hB rfl ?_
    | refine fnat_step hB ?_
    | refine ifk_step hB rfl ?_
    | refine ifk_step hB (flat_or rfl) ?_
    | refine opt2_step hB rfl ?_
    | refine obj_raw hB ?_
    | refine sob_raw hB ?_
    | refine fst_raw hB ?_
    | refine optl_raw hB ?_
    | refine tok_step hB rfl ?_
    ) <;> conv => lhs; whnf)
  rfl
theorem weight_ev {G : Nat → List AV} {n : Nat} (hn : 2 ≤ n) (d : Desk) (b : Box) (p : Parcel) (h1 : Small p.weight) (h2 : Small d.wear) : (evKR Bk G fsT n).1 0 108 [d.v, .agg b.c, .agg p.c] [] ansK = some (.bool (weightB d b p), []) := by
  refine call_open (show fsT.find 108 = some a108 from rfl) (by omega) fun n B cl rd hn' hB hcl hrd => ?_
  unfold Small at *
  conv => lhs; whnf
  repeat' ((first
    | refine sub_step hB (by omega) (by omega) ?_
    | refine le_split hB (fun _ => ?_) (fun _ => ?_)
    | refine purs_step hB rfl ?_
    | refine lt_tt hB (by decide) ?_
    | refine lt_ff hB (by decide) ?_
    | refine le_tt hB (by decide) ?_
    | refine le_ff hB (by decide) ?_
    | refine eq_tt hB (by decide) ?_
    | refine eq_ff hB (by decide) ?_
    | refine fint_wrp hB (by omega) (by omega) ?_
    | refine fint_step hB ?_
    | refine fbool_tt hB ?_
    | refine fbool_ff hB ?_
    | refine fbool_split hB (fun _ => ?_) (fun _ => ?_)
    | refine ftok_step hB ?_
    | refine frows_step hB ?_
    | refine fstr_step hB ?_
    | refine len_map hB ?_
    | refine len_step hB ?_
    | refine lens_step hB ?_
    | refine byte_step hB ?_
    | refine drop_step hB rfl ?_
    | refine fl_step hB rfl ?_
    | refine add_one hB (by first | omega | decide) ?_
    | refine opt_step hB rfl ?_
    | refine fnat_step hB ?_
    | refine ifk_step hB rfl ?_
    | refine ifk_step hB (flat_or rfl) ?_
    | refine opt2_step hB rfl ?_
    | refine obj_raw hB ?_
    | refine sob_raw hB ?_
    | refine fst_raw hB ?_
    | refine optl_raw hB ?_
    | refine tok_step hB rfl ?_
    ) <;> conv => lhs; whnf)
  all_goals
    refine congrArg some (congrArg (·, []) (congrArg AV.bool ?_))
    simp_all [weightB] <;> omega

theorem a109_L1_step {G : Nat → List AV} {B : Bnd} (hB : B = Bk) {cl : CallK} {rd : RoundK} (d : Desk) (b : Box) (p : Parcel) (hl : b.mark.length ≤ 1000000000000000) (hs : b.mark.all okDigit = true) (n : Nat) (k : Ex → Env → St → Ans) (r : Ans) :
    ∀ (j i : Nat) (m : Int), Small m → b.mark.length < i + j → i ≤ b.mark.length →
    (sealGo (b.mark.reverse.drop i) m = true → ∀ m' : Int, k (.exit 0) [(4, .ptr 0 1 0), (6, .bool false), (7, .int .i64 m'), (14, .int .i64 (.ofNat b.mark.length)), (15, .int .i64 (.ofNat b.mark.length))] [⟨[.cells d.c, .cells b.c, .cells p.c], []⟩] = r) →
    (sealGo (b.mark.reverse.drop i) m = false → ∀ (i' : Nat) (m' : Int), k .ret [(4, .ptr 0 1 0), (6, .bool false), (7, .int .i64 m'), (14, .int .i64 (.ofNat b.mark.length)), (15, .int .i64 (.ofNat i'))] [⟨[.cells d.c, .cells b.c, .cells p.c], []⟩] = r) →
    B.loop (evCK B a109_L1) [4, 6, 7, 14, 15] n j cl rd G 0 1 [(4, .ptr 0 1 0), (6, .bool false), (7, .int .i64 m), (14, .int .i64 (.ofNat b.mark.length)), (15, .int .i64 (.ofNat i))] [⟨[.cells d.c, .cells b.c, .cells p.c], []⟩] k = r := by
  intro j
  induction j with
  | zero => intro i m hm h1 h2; omega
  | succ j ih =>
    intro i m hm h1 h2 k1 k2
    refine loop_succ hB ?_
    conv => lhs; whnf
    refine lt_nat hB (fun h => ?_) (fun h => ?_) <;> conv => lhs; whnf
    · have hx : b.mark[b.mark.length - 1 - i]? = some (b.mark[b.mark.length - 1 - i]'(by omega)) := by simp
      have hd : b.mark.reverse.drop i = (b.mark[b.mark.length - 1 - i]'(by omega)) :: b.mark.reverse.drop (i + 1) := by
        rw [List.drop_eq_getElem_cons (by simpa using h)]
        simp
      have hc : okDigit (b.mark[b.mark.length - 1 - i]'(by omega)) = true := List.all_eq_true.1 hs _ (List.getElem_mem _)
      rw [hd] at k1 k2
      generalize (b.mark[b.mark.length - 1 - i]'(by omega)) = c at hx hc k1 k2
      have hcl := c.toNat_lt
      repeat' ((first
        | refine sub_u8 hB (by simp_all [okDigit, within]; omega) (by omega) ?_
        | refine sub_step hB (by simp only [Int.ofNat_eq_natCast]; omega) (by simp only [Int.ofNat_eq_natCast]; omega) ?_
        | refine natOf_step hB (m := b.mark.length - 1 - i) (by simp only [Int.ofNat_eq_natCast]; omega) ?_
        | refine nthb_step hB hx ?_
        | refine byte_step hB ?_
        | refine eq_split hB (fun _ => ?_) (fun _ => ?_)
        | refine purs_step hB rfl ?_
        | refine lt_tt hB (by decide) ?_
        | refine lt_ff hB (by decide) ?_
        | refine le_tt hB (by decide) ?_
        | refine le_ff hB (by decide) ?_
        | refine eq_tt hB (by decide) ?_
        | refine eq_ff hB (by decide) ?_
        | refine fint_wrp hB (by omega) (by omega) ?_
        | refine fint_step hB ?_
        | refine fbool_tt hB ?_
        | refine fbool_ff hB ?_
        | refine fbool_split hB (fun _ => ?_) (fun _ => ?_)
        | refine ftok_step hB ?_
        | refine frows_step hB ?_
        | refine fstr_step hB ?_
        | refine len_map hB ?_
        | refine len_step hB ?_
        | refine lens_step hB ?_
        | refine byte_step hB ?_
        | refine drop_step hB rfl ?_
        | refine fl_step hB rfl ?_
        | refine add_one hB (by first | omega | decide) ?_
        | refine opt_step hB rfl ?_
        | refine fnat_step hB ?_
        | refine ifk_step hB rfl ?_
        | refine ifk_step hB (flat_or rfl) ?_
        | refine opt2_step hB rfl ?_
        | refine obj_raw hB ?_
        | refine sob_raw hB ?_
        | refine fst_raw hB ?_
        | refine optl_raw hB ?_
        | refine tok_step hB rfl ?_
        ) <;> conv => lhs; whnf)
      · have hb : sealGo (c :: b.mark.reverse.drop (i + 1)) m = sealGo (b.mark.reverse.drop (i + 1)) (m.tdiv 10) := by clear ih k1 k2; simp_all [sealGo]
        have hw := small_tdiv hm
        rw [wrp_i64 (by unfold Small at hw; omega) (by unfold Small at hw; omega)]
        exact ih (i + 1) _ hw (by omega) (by omega) (fun h => k1 (hb.trans h)) (fun h => k2 (hb.trans h))
      · have hb : sealGo (c :: b.mark.reverse.drop (i + 1)) m = sealGo (b.mark.reverse.drop (i + 1)) (m.tdiv 10) := by clear ih k1 k2; simp_all [sealGo]
        have hw := small_tdiv hm
        rw [wrp_i64 (by unfold Small at hw; omega) (by unfold Small at hw; omega)]
        exact ih (i + 1) _ hw (by omega) (by omega) (fun h => k1 (hb.trans h)) (fun h => k2 (hb.trans h))
      · have hb : sealGo (c :: b.mark.reverse.drop (i + 1)) m = false := by clear ih k1 k2; simp_all [sealGo]
        exact k2 hb _ _
    · repeat' ((first
        | refine purs_step hB rfl ?_
        | refine lt_tt hB (by decide) ?_
        | refine lt_ff hB (by decide) ?_
        | refine le_tt hB (by decide) ?_
        | refine le_ff hB (by decide) ?_
        | refine eq_tt hB (by decide) ?_
        | refine eq_ff hB (by decide) ?_
        | refine fint_wrp hB (by omega) (by omega) ?_
        | refine fint_step hB ?_
        | refine fbool_tt hB ?_
        | refine fbool_ff hB ?_
        | refine fbool_split hB (fun _ => ?_) (fun _ => ?_)
        | refine ftok_step hB ?_
        | refine frows_step hB ?_
        | refine fstr_step hB ?_
        | refine len_map hB ?_
        | refine len_step hB ?_
        | refine lens_step hB ?_
        | refine byte_step hB ?_
        | refine drop_step hB rfl ?_
        | refine fl_step hB rfl ?_
        | refine add_one hB (by first | omega | decide) ?_
        | refine opt_step hB rfl ?_
        | refine fnat_step hB ?_
        | refine ifk_step hB rfl ?_
        | refine ifk_step hB (flat_or rfl) ?_
        | refine opt2_step hB rfl ?_
        | refine obj_raw hB ?_
        | refine sob_raw hB ?_
        | refine fst_raw hB ?_
        | refine optl_raw hB ?_
        | refine tok_step hB rfl ?_
        ) <;> conv => lhs; whnf)
      have hi : i = b.mark.length := by omega
      have hz : b.mark.reverse.drop i = [] := by rw [hi]; simp
      rw [hz] at k1
      rw [hi]
      exact k1 rfl _

theorem seal_ev {G : Nat → List AV} {n : Nat} (d : Desk) (b : Box) (p : Parcel) (hl : b.mark.length ≤ 1000000000000000) (hs : b.mark.all okDigit = true) (hm : Small p.mark) (hn : b.mark.length + 2 ≤ n) : (evKR Bk G fsT n).1 0 109 [d.v, .agg b.c, .agg p.c] [] ansK = some (.bool (sealB b p), []) := by
  refine call_open (show fsT.find 109 = some a109 from rfl) (by omega) fun n B cl rd hn' hB hcl hrd => ?_
  conv => lhs; whnf
  repeat' ((first
    | refine a109_L1_step hB d b p hl hs _ _ _ _ 0 _ hm (by omega) (by omega) (fun _ _ => ?_) (fun _ _ _ => ?_)
    | refine purs_step hB rfl ?_
    | refine lt_tt hB (by decide) ?_
    | refine lt_ff hB (by decide) ?_
    | refine le_tt hB (by decide) ?_
    | refine le_ff hB (by decide) ?_
    | refine eq_tt hB (by decide) ?_
    | refine eq_ff hB (by decide) ?_
    | refine fint_wrp hB (by omega) (by omega) ?_
    | refine fint_step hB ?_
    | refine fbool_tt hB ?_
    | refine fbool_ff hB ?_
    | refine fbool_split hB (fun _ => ?_) (fun _ => ?_)
    | refine ftok_step hB ?_
    | refine frows_step hB ?_
    | refine fstr_step hB ?_
    | refine len_map hB ?_
    | refine len_step hB ?_
    | refine lens_step hB ?_
    | refine byte_step hB ?_
    | refine drop_step hB rfl ?_
    | refine fl_step hB rfl ?_
    | refine add_one hB (by first | omega | decide) ?_
    | refine opt_step hB rfl ?_
    | refine fnat_step hB ?_
    | refine ifk_step hB rfl ?_
    | refine ifk_step hB (flat_or rfl) ?_
    | refine opt2_step hB rfl ?_
    | refine obj_raw hB ?_
    | refine sob_raw hB ?_
    | refine fst_raw hB ?_
    | refine optl_raw hB ?_
    | refine tok_step hB rfl ?_
    ) <;> conv => lhs; whnf)
  all_goals
    refine congrArg some (congrArg (·, []) (congrArg AV.bool ?_))
    simp_all [sealB]

theorem could_ev {n : Nat} (d : Desk) (hd : d.ok) (i k : Nat) {zi zk : Int} (hzi : zi = (i : Int)) (hzk : zk = (k : Int)) (b : Box) (p : Parcel) (hb : d.bs[i]? = some b) (hp : d.ps[k]? = some p) (h1 : Small b.day) (h2 : Small p.day) (h3 : Small p.weight) (h4 : Small d.wear) (h5 : Small p.mark) (hs : b.mark.all okDigit = true) (hn : 1000000000000004 ≤ n) :
    (evKR Bk Gx fsT n).1 0 54 [d.v, .int .i64 zi, .int .i64 zk] [] ansK = some (.bool (couldB d b p), []) := by
  refine call_open (show fsT.find 54 = some a54 from rfl) (by omega) fun n B cl rd hn' hB hcl hrd => ?_
  have hl := hd.str b (List.mem_of_getElem? hb)
  have H1 := day_ev (G := Gx) (n := n) (by omega) d b p h1 h2
  have H2 := weight_ev (G := Gx) (n := n) (by omega) d b p h3 h4
  have H3 := seal_ev (G := Gx) (n := n) d b p hl hs h5 (by omega)
  rw [← hcl] at H1 H2 H3
  have hxb : (d.bs.map Box.c)[i]? = some b.c := by simp [hb]
  have hxp : (d.ps.map Parcel.c)[k]? = some p.c := by simp [hp]
  conv => lhs; whnf
  repeat' ((first
    | refine tok_step hB hd.tp ?_
    | refine tok_step hB hd.tb ?_
    | refine purs_step hB (by simp [purs, pur, hd.tp, hd.tb]) ?_
    | refine loop_step hB (by omega) ?_
    | refine pans_bool hB H1 (fun _ => ?_) (fun _ => ?_)
    | refine pans_bool hB H2 (fun _ => ?_) (fun _ => ?_)
    | refine pans_bool hB H3 (fun _ => ?_) (fun _ => ?_)
    | refine natOf_step hB hzi ?_
    | refine natOf_step hB hzk ?_
    | refine natOf_step hB (m := 0) rfl ?_
    | refine natOf_step hB (m := 1) rfl ?_
    | refine natOf_step hB (m := 2) rfl ?_
    | refine nth_step hB hxb ?_
    | refine nth_step hB hxp ?_
    | refine purs_step hB rfl ?_
    | refine lt_tt hB (by decide) ?_
    | refine lt_ff hB (by decide) ?_
    | refine le_tt hB (by decide) ?_
    | refine le_ff hB (by decide) ?_
    | refine eq_tt hB (by decide) ?_
    | refine eq_ff hB (by decide) ?_
    | refine fint_wrp hB (by omega) (by omega) ?_
    | refine fint_step hB ?_
    | refine fbool_tt hB ?_
    | refine fbool_ff hB ?_
    | refine fbool_split hB (fun _ => ?_) (fun _ => ?_)
    | refine ftok_step hB ?_
    | refine frows_step hB ?_
    | refine fstr_step hB ?_
    | refine len_map hB ?_
    | refine len_step hB ?_
    | refine lens_step hB ?_
    | refine byte_step hB ?_
    | refine drop_step hB rfl ?_
    | refine fl_step hB rfl ?_
    | refine add_one hB (by first | omega | decide) ?_
    | refine opt_step hB rfl ?_
    | refine fnat_step hB ?_
    | refine ifk_step hB rfl ?_
    | refine ifk_step hB (flat_or rfl) ?_
    | refine opt2_step hB rfl ?_
    | refine obj_raw hB ?_
    | refine sob_raw hB ?_
    | refine fst_raw hB ?_
    | refine optl_raw hB ?_
    | refine tok_step hB rfl ?_
    ) <;> conv => lhs; whnf)
  all_goals
    refine congrArg some (congrArg (·, []) (congrArg AV.bool ?_))
    simp_all [couldB]
end Go.Ab.Cl
