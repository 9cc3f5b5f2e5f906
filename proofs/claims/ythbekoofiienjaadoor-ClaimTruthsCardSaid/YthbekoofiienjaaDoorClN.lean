/-
  The claims, plain: what a box can be, and what all is worth; how a yield is run through all that a box can be.
-/
import Derived.Test.YthbekoofiienjaaDoorClC
namespace Go.Ab.Cl
open Go.Ab

/-- Can a box be a parcel that is not taken? -/
def fitsB (d : Desk) (i t k : Nat) : Bool := match d.bs[i]?, d.ps[k]? with
  | some b, some p => !t.testBit k && couldB d b p
  | _, _ => false
def oddB (d : Desk) (i : Nat) : Bool := match d.bs[i]? with
  | some b => !b.stamp
  | none => false
def optsFrom (d : Desk) (i t j : Nat) : List Int := List.map (fun k : Nat => (k : Int)) ((List.range' j (d.ps.length - j)).filter (fitsB d i t))
/-- All that a box can be. -/
def opts (d : Desk) (i t : Nat) : List Int := if oddB d i = true then -1 :: optsFrom d i t 0 else optsFrom d i t 0

theorem optsFrom_end {d : Desk} {i t j : Nat} (h : d.ps.length ≤ j) : optsFrom d i t j = [] := by
  unfold optsFrom
  rw [Nat.sub_eq_zero_of_le h]; rfl
theorem optsFrom_yes {d : Desk} {i t j : Nat} (h : j < d.ps.length) (hf : fitsB d i t j = true) : optsFrom d i t j = (j : Int) :: optsFrom d i t (j + 1) := by
  unfold optsFrom
  rw [show d.ps.length - j = (d.ps.length - (j + 1)) + 1 by omega, List.range'_succ, List.filter_cons_of_pos hf]; rfl
theorem optsFrom_no {d : Desk} {i t j : Nat} (h : j < d.ps.length) (hf : fitsB d i t j = false) : optsFrom d i t j = optsFrom d i t (j + 1) := by
  unfold optsFrom
  rw [show d.ps.length - j = (d.ps.length - (j + 1)) + 1 by omega, List.range'_succ, List.filter_cons_of_neg (by rw [hf]; exact Bool.false_ne_true)]
theorem optsFrom_mem {d : Desk} {i t : Nat} {z : Int} : ∀ {m j : Nat}, d.ps.length - j = m → z ∈ optsFrom d i t j → ∃ k : Nat, z = (k : Int) ∧ k < d.ps.length ∧ fitsB d i t k = true := by
  intro m j _ h
  unfold optsFrom at h
  simp only [List.mem_map, List.mem_filter, List.mem_range'] at h
  obtain ⟨k, ⟨⟨m, h1, h2⟩, h3⟩, rfl⟩ := h
  exact ⟨k, rfl, by omega, h3⟩
theorem opts_mem {d : Desk} {i t : Nat} {z : Int} (h : z ∈ opts d i t) : z = -1 ∨ ∃ k : Nat, z = (k : Int) ∧ k < d.ps.length ∧ fitsB d i t k = true := by
  unfold opts at h
  split at h
  · rcases List.mem_cons.1 h with h | h
    · exact .inl h
    · exact .inr (optsFrom_mem rfl h)
  · exact .inr (optsFrom_mem rfl h)

/-- Rounds, one after the other, up to one that stops. -/
inductive Runs {σ : Type} (R : Int → σ → Bool → σ → Prop) : List Int → σ → σ → Prop where
  | nil (x : σ) : Runs R [] x x
  | stop {k : Int} {l : List Int} {x y : σ} : R k x false y → Runs R (k :: l) x y
  | more {k : Int} {l : List Int} {x y z : σ} : R k x true y → Runs R l y z → Runs R (k :: l) x z

/-! ### bits -/
def isI (o : Option AV) (n : Int) : Bool := match o with
  | some (.int .i64 m) => m == n
  | _ => false
theorem isI_ok {o : Option AV} {n : Int} (h : isI o n = true) : o = some (.int .i64 n) := by
  unfold isI at h
  split at h
  · rename_i m
    rw [show m = n by simpa using h]
  · cases h
theorem and_all : ∀ t : Fin 256, ∀ k : Fin 8, isI (binAV .and (.int .i64 (Int.fdiv (t.val : Int) (2 ^ k.val))) (.int .i64 1)) (if t.val.testBit k.val = true then 1 else 0) = true := by decide +kernel
theorem or_all : ∀ t : Fin 256, ∀ k : Fin 8, isI (binAV .or (.int .i64 (t.val : Int)) (.int .i64 ((2 : Int) ^ k.val))) ((t.val ||| 1 <<< k.val : Nat) : Int) = true := by decide +kernel
theorem shl_all : ∀ k : Fin 8, isI (binAV .shl (.int .i64 1) (.int .i64 (k.val : Int))) ((2 : Int) ^ k.val) = true := by decide +kernel
theorem lt_all : ∀ t : Fin 256, ∀ k : Fin 8, (t.val ||| 1 <<< k.val) < 256 := by decide +kernel
theorem shr_ok {t k : Nat} {a b : Int} (ha : a = (t : Int)) (hb : b = (k : Int)) (hk : k < 8) : binAV .shr (.int .i64 a) (.int .i64 b) = some (.int .i64 (Int.fdiv (t : Int) (2 ^ k))) := by
  subst ha hb
  have h : ¬ ((k : Int) < 0) := by omega
  have h2 : min k IntKind.i64.bits = k := Nat.min_eq_left (by show k ≤ 64; omega)
  simp [binAV, h, h2]
theorem and_ok {t k : Nat} (ht : t < 256) (hk : k < 8) : binAV .and (.int .i64 (Int.fdiv (t : Int) (2 ^ k))) (.int .i64 1) = some (.int .i64 (if t.testBit k = true then 1 else 0)) := isI_ok (and_all ⟨t, ht⟩ ⟨k, hk⟩)
theorem shl_ok {k : Nat} {b : Int} (hb : b = (k : Int)) (hk : k < 8) : binAV .shl (.int .i64 1) (.int .i64 b) = some (.int .i64 ((2 : Int) ^ k)) := by subst hb; exact isI_ok (shl_all ⟨k, hk⟩)
theorem or_ok {t k : Nat} {a : Int} (ha : a = (t : Int)) (ht : t < 256) (hk : k < 8) : binAV .or (.int .i64 a) (.int .i64 ((2 : Int) ^ k)) = some (.int .i64 ((t ||| 1 <<< k : Nat) : Int)) := by subst ha; exact isI_ok (or_all ⟨t, ht⟩ ⟨k, hk⟩)
theorem bits_lt {t k : Nat} (ht : t < 256) (hk : k < 8) : (t ||| 1 <<< k) < 256 := lt_all ⟨t, ht⟩ ⟨k, hk⟩
end Go.Ab.Cl

namespace Go.Ab.Cl
open Go.Ab

theorem meantRow (d : Desk) {k : Nat} (hk : k < d.ps.length) : ∃ p, d.ps[k]? = some p := ⟨d.ps[k], by simp [hk]⟩

/-- What all rounds do: from any frames above. -/
abbrev RoundIs {σ : Type} (rd : RoundK) (D l il : Nat) (S : σ → St) (P : σ → Prop) (R : Int → σ → Bool → σ → Prop) (k : Int) : Prop :=
  ∀ (fr : List Fr) (x : σ) (kont : AV → St → Ans) (r : Ans), P x → (∀ b x', R k x b x' → kont (.bool b) (fr ++ S x') = r) → rd (D + fr.length) l il [.int .i64 k] (fr ++ S x) kont = r

theorem a84_L1_step {B : Bnd} (hB : B = Bk) {cl : CallK} {rd : RoundK} (d : Desk) (hd : d.ok) (hf : d.fine) (i t : Nat) {zi zt : Int} (hzi : zi = (i : Int)) (hzt : zt = (t : Int)) (ht : t < 256) (b : Box) (hb : d.bs[i]? = some b)
    (H54 : ∀ (k : Nat) (p : Parcel), d.ps[k]? = some p → cl 0 54 [d.v, .int .i64 zi, .int .i64 (k : Int)] [] ansK = some (.bool (couldB d b p), []))
    {σ : Type} (S : σ → St) {D l il : Nat} (hS : ∀ x, (S x).length = D) (hl : l ≤ D) (P : σ → Prop) (R : Int → σ → Bool → σ → Prop) (hPR : ∀ z x x', R z x true x' → P x') (n : Nat) (k : Ex → Env → St → Ans) (r : Ans) :
    ∀ (j i0 : Nat) (x : σ), P x → d.ps.length < i0 + j → i0 ≤ d.ps.length → (∀ z ∈ optsFrom d i t i0, RoundIs rd D l il S P R z) →
    (∀ x', Runs R (optsFrom d i t i0) x x' → k (.exit 0) [(0, .yl l il), (1, .rp d.c), (2, .rp [.int .i64 zi]), (3, .rp [.int .i64 zt]), (22, .int .i64 (.ofNat d.ps.length)), (23, .int .i64 (.ofNat d.ps.length))] (⟨[], []⟩ :: S x') = r) →
    (∀ x' e, Runs R (optsFrom d i t i0) x x' → k .ret e (⟨[], []⟩ :: S x') = r) →
    B.loop (evCK B a84_L1) [0, 1, 2, 3, 22, 23] n j cl rd Gx D (D + 1) [(0, .yl l il), (1, .rp d.c), (2, .rp [.int .i64 zi]), (3, .rp [.int .i64 zt]), (22, .int .i64 (.ofNat d.ps.length)), (23, .int .i64 (.ofNat i0))] (⟨[], []⟩ :: S x) k = r := by
  intro j
  induction j with
  | zero => intro i0 x hPx h1 h2; omega
  | succ j ih =>
    intro i0 x hPx h1 h2 HR k1 k2
    refine loop_succ hB ?_
    conv => lhs; whnf
    refine lt_nat hB (fun h => ?_) (fun h => ?_) <;> conv => lhs; whnf
    · obtain ⟨p, hp⟩ := meantRow d h
      have h8 := hf.np
      have hfit : fitsB d i t i0 = (!t.testBit i0 && couldB d b p) := by simp [fitsB, hb, hp]
      have H := H54 i0 p hp
      repeat' ((first
        | refine opt_step hB (shr_ok hzt rfl (by omega)) ?_
        | refine opt_step hB (and_ok ht (by omega)) ?_
        | refine tok_step hB hd.tp ?_
        | refine tok_step hB hd.tb ?_
        | refine purs_step hB (by simp [purs, pur, hd.tp, hd.tb]) ?_
        | refine pans_bool hB H (fun hc => ?_) (fun hc => ?_)
        | refine eq_split hB (fun hbit => ?_) (fun hbit => ?_)
        | refine ifk_step hB (by rw [Nat.ble_eq]; first
        | omega
        | (simp only [Nat.pred_eq_sub_one, Nat.succ_eq_add_one]; omega)) ?_
        | refine purs_step hB rfl ?_
        | refine lt_tt hB (by decide) ?_
        | refine lt_ff hB (by decide) ?_
        | refine le_tt hB (by decide) ?_
        | refine le_ff hB (by decide) ?_
        | refine eq_tt hB (by decide) ?_
        | refine eq_ff hB (by decide) ?_
        | refine fint_wrp hB (by omega) (by omega) ?_
        | refine fint_step hB ?_
        | refine fbool_tt hB ?_
        | refine fbool_ff hB ?_
        | refine fbool_split hB (fun _ => ?_) (fun _ => ?_)
        | refine ftok_step hB ?_
        | refine frows_step hB ?_
        | refine fstr_step hB ?_
        | refine len_map hB ?_
        | refine len_step hB ?_
        | refine lens_step hB ?_
        | refine byte_step hB ?_
        | refine drop_step hB rfl ?_
        | refine fl_step hB rfl ?_
        | refine add_one hB (by first | omega | decide) ?_
        | refine opt_step hB rfl ?_
        | refine fnat_step hB ?_
        | refine ifk_step hB rfl ?_
        | refine ifk_step hB (flat_or rfl) ?_
        | refine opt2_step hB rfl ?_
        | refine obj_raw hB ?_
        | refine sob_raw hB ?_
        | refine fst_raw hB ?_
        | refine optl_raw hB ?_
        | refine tok_step hB rfl ?_
        ) <;> conv => lhs; whnf)
      · have hno : fitsB d i t i0 = false := by rw [hfit]; cases hb2 : t.testBit i0 <;> simp_all
        rw [optsFrom_no h hno] at HR k1 k2
        exact ih (i0 + 1) x hPx (by omega) (by omega) HR k1 k2
      · have hyes : fitsB d i t i0 = true := by rw [hfit]; cases hb2 : t.testBit i0 <;> simp_all
        rw [optsFrom_yes h hyes] at HR k1 k2
        refine HR _ (List.mem_cons_self ..) [⟨[], []⟩, ⟨[], []⟩] x _ _ hPx fun bb x' hR => ?_
        cases bb
        · conv => lhs; whnf
          repeat' ((first
            | refine ifk_step hB (by rw [Nat.ble_eq]; first
            | omega
            | (simp only [Nat.pred_eq_sub_one, Nat.succ_eq_add_one]; omega)) ?_
            | refine purs_step hB rfl ?_
            | refine lt_tt hB (by decide) ?_
            | refine lt_ff hB (by decide) ?_
            | refine le_tt hB (by decide) ?_
            | refine le_ff hB (by decide) ?_
            | refine eq_tt hB (by decide) ?_
            | refine eq_ff hB (by decide) ?_
            | refine fint_wrp hB (by omega) (by omega) ?_
            | refine fint_step hB ?_
            | refine fbool_tt hB ?_
            | refine fbool_ff hB ?_
            | refine fbool_split hB (fun _ => ?_) (fun _ => ?_)
            | refine ftok_step hB ?_
            | refine frows_step hB ?_
            | refine fstr_step hB ?_
            | refine len_map hB ?_
            | refine len_step hB ?_
            | refine lens_step hB ?_
            | refine byte_step hB ?_
            | refine drop_step hB rfl ?_
            | refine fl_step hB rfl ?_
            | refine add_one hB (by first | omega | decide) ?_
            | refine opt_step hB rfl ?_
            | refine fnat_step hB ?_
            | refine ifk_step hB rfl ?_
            | refine ifk_step hB (flat_or rfl) ?_
            | refine opt2_step hB rfl ?_
            | refine obj_raw hB ?_
            | refine sob_raw hB ?_
            | refine fst_raw hB ?_
            | refine optl_raw hB ?_
            | refine tok_step hB rfl ?_
            ) <;> conv => lhs; whnf)
          exact k2 x' _ (.stop hR)
        · conv => lhs; whnf
          repeat' ((first
            | refine ifk_step hB (by rw [Nat.ble_eq]; first
            | omega
            | (simp only [Nat.pred_eq_sub_one, Nat.succ_eq_add_one]; omega)) ?_
            | refine purs_step hB rfl ?_
            | refine lt_tt hB (by decide) ?_
            | refine lt_ff hB (by decide) ?_
            | refine le_tt hB (by decide) ?_
            | refine le_ff hB (by decide) ?_
            | refine eq_tt hB (by decide) ?_
            | refine eq_ff hB (by decide) ?_
            | refine fint_wrp hB (by omega) (by omega) ?_
            | refine fint_step hB ?_
            | refine fbool_tt hB ?_
            | refine fbool_ff hB ?_
            | refine fbool_split hB (fun _ => ?_) (fun _ => ?_)
            | refine ftok_step hB ?_
            | refine frows_step hB ?_
            | refine fstr_step hB ?_
            | refine len_map hB ?_
            | refine len_step hB ?_
            | refine lens_step hB ?_
            | refine byte_step hB ?_
            | refine drop_step hB rfl ?_
            | refine fl_step hB rfl ?_
            | refine add_one hB (by first | omega | decide) ?_
            | refine opt_step hB rfl ?_
            | refine fnat_step hB ?_
            | refine ifk_step hB rfl ?_
            | refine ifk_step hB (flat_or rfl) ?_
            | refine opt2_step hB rfl ?_
            | refine obj_raw hB ?_
            | refine sob_raw hB ?_
            | refine fst_raw hB ?_
            | refine optl_raw hB ?_
            | refine tok_step hB rfl ?_
            ) <;> conv => lhs; whnf)
          exact ih (i0 + 1) x' (hPR _ _ _ hR) (by omega) (by omega) (fun z hz => HR z (List.mem_cons_of_mem _ hz)) (fun y hy => k1 y (.more hR hy)) (fun y e hy => k2 y e (.more hR hy))
      · have hno : fitsB d i t i0 = false := by rw [hfit, hc]; simp
        rw [optsFrom_no h hno] at HR k1 k2
        exact ih (i0 + 1) x hPx (by omega) (by omega) HR k1 k2
    · have hi : i0 = d.ps.length := by omega
      subst hi
      repeat' ((first
        | refine ifk_step hB (by rw [Nat.ble_eq]; first
        | omega
        | (simp only [Nat.pred_eq_sub_one, Nat.succ_eq_add_one]; omega)) ?_
        | refine purs_step hB rfl ?_
        | refine lt_tt hB (by decide) ?_
        | refine lt_ff hB (by decide) ?_
        | refine le_tt hB (by decide) ?_
        | refine le_ff hB (by decide) ?_
        | refine eq_tt hB (by decide) ?_
        | refine eq_ff hB (by decide) ?_
        | refine fint_wrp hB (by omega) (by omega) ?_
        | refine fint_step hB ?_
        | refine fbool_tt hB ?_
        | refine fbool_ff hB ?_
        | refine fbool_split hB (fun _ => ?_) (fun _ => ?_)
        | refine ftok_step hB ?_
        | refine frows_step hB ?_
        | refine fstr_step hB ?_
        | refine len_map hB ?_
        | refine len_step hB ?_
        | refine lens_step hB ?_
        | refine byte_step hB ?_
        | refine drop_step hB rfl ?_
        | refine fl_step hB rfl ?_
        | refine add_one hB (by first | omega | decide) ?_
        | refine opt_step hB rfl ?_
        | refine fnat_step hB ?_
        | refine ifk_step hB rfl ?_
        | refine ifk_step hB (flat_or rfl) ?_
        | refine opt2_step hB rfl ?_
        | refine obj_raw hB ?_
        | refine sob_raw hB ?_
        | refine fst_raw hB ?_
        | refine optl_raw hB ?_
        | refine tok_step hB rfl ?_
        ) <;> conv => lhs; whnf)
      refine k1 x ?_
      rw [optsFrom_end (Nat.le_refl _)]
      exact .nil x

theorem meant1_ev {n : Nat} (hn : 1000000000000006 ≤ n) (d : Desk) (hd : d.ok) (hf : d.fine) (i t : Nat) {zi zt : Int} (hzi : zi = (i : Int)) (hzt : zt = (t : Int)) (ht : t < 256) (hi : i < d.bs.length)
    {σ : Type} (S : σ → St) {D l il : Nat} (hS : ∀ x, (S x).length = D) (hl : l ≤ D) (P : σ → Prop) (R : Int → σ → Bool → σ → Prop) (hPR : ∀ z x x', R z x true x' → P x') (x : σ) (hPx : P x) (kont : AV → St → Ans) (r : Ans)
    (HR : ∀ z ∈ opts d i t, RoundIs (evKR Bk Gx fsT n).2 D l il S P R z) (K : ∀ x', Runs R (opts d i t) x x' → kont (.tup []) (S x') = r) :
    (evKR Bk Gx fsT (n + 1)).1 D 84 [.yl l il, .rp d.c, .rp [.int .i64 zi], .rp [.int .i64 zt]] (S x) kont = r := by
  refine call_open (show fsT.find 84 = some a84 from rfl) (by omega) fun m B cl rd hn' hB hcl hrd => ?_
  obtain rfl : n = m := by omega
  obtain ⟨b, hb⟩ : ∃ b, d.bs[i]? = some b := ⟨d.bs[i], by simp [hi]⟩
  have hbm := List.mem_of_getElem? hb
  have hb5 := hf.b b hbm
  have H54 : ∀ (k : Nat) (p : Parcel), d.ps[k]? = some p → cl 0 54 [d.v, .int .i64 zi, .int .i64 (k : Int)] [] ansK = some (.bool (couldB d b p), []) := by
    intro k p hp
    have hp4 := hf.p p (List.mem_of_getElem? hp)
    rw [hcl]
    exact could_ev d hd i k hzi rfl b p hb hp hb5.1 hp4.1 hp4.2.1 hf.wear hp4.2.2.1 hb5.2.2.2.2 (by omega)
  rw [← hrd] at HR
  have hxb : (d.bs.map Box.c)[i]? = some b.c := by simp [hb]
  have h8 := hf.np
  have hodd : oddB d i = !b.stamp := by simp [oddB, hb]
  unfold opts at HR K
  rw [hodd] at HR K
  rcases b with ⟨b1, b2, b3, b4, b5⟩
  conv => lhs; whnf
  cases b5
  · repeat' ((first
      | refine natOf_step hB hzi ?_
      | refine nth_step hB hxb ?_
      | refine ifk_step hB (by rw [Nat.ble_eq]; first
      | omega
      | (simp only [Nat.pred_eq_sub_one, Nat.succ_eq_add_one]; omega)) ?_
      | refine purs_step hB rfl ?_
      | refine lt_tt hB (by decide) ?_
      | refine lt_ff hB (by decide) ?_
      | refine le_tt hB (by decide) ?_
      | refine le_ff hB (by decide) ?_
      | refine eq_tt hB (by decide) ?_
      | refine eq_ff hB (by decide) ?_
      | refine fint_wrp hB (by omega) (by omega) ?_
      | refine fint_step hB ?_
      | refine fbool_tt hB ?_
      | refine fbool_ff hB ?_
      | refine fbool_split hB (fun _ => ?_) (fun _ => ?_)
      | refine ftok_step hB ?_
      | refine frows_step hB ?_
      | refine fstr_step hB ?_
      | refine len_map hB ?_
      | refine len_step hB ?_
      | refine lens_step hB ?_
      | refine byte_step hB ?_
      | refine drop_step hB rfl ?_
      | refine fl_step hB rfl ?_
      | refine add_one hB (by first | omega | decide) ?_
      | refine opt_step hB rfl ?_
      | refine fnat_step hB ?_
      | refine ifk_step hB rfl ?_
      | refine ifk_step hB (flat_or rfl) ?_
      | refine opt2_step hB rfl ?_
      | refine obj_raw hB ?_
      | refine sob_raw hB ?_
      | refine fst_raw hB ?_
      | refine optl_raw hB ?_
      | refine tok_step hB rfl ?_
      ) <;> conv => lhs; whnf)
    refine HR _ (List.mem_cons_self ..) [⟨[], []⟩] x _ _ hPx fun bb x' hR => ?_
    cases bb
    · conv => lhs; whnf
      exact K x' (.stop hR)
    · conv => lhs; whnf
      repeat' ((first
        | refine ifk_step hB (by rw [Nat.ble_eq]; first
        | omega
        | (simp only [Nat.pred_eq_sub_one, Nat.succ_eq_add_one]; omega)) ?_
        | refine a84_L1_step hB d hd hf i t hzi hzt ht _ hb H54 S hS hl P R hPR _ _ _ _ 0 x' (hPR _ _ _ hR) (by omega) (by omega) (fun z hz => HR z (List.mem_cons_of_mem _ hz)) (fun y hy => ?_) (fun y e hy => ?_)
        | refine purs_step hB rfl ?_
        | refine lt_tt hB (by decide) ?_
        | refine lt_ff hB (by decide) ?_
        | refine le_tt hB (by decide) ?_
        | refine le_ff hB (by decide) ?_
        | refine eq_tt hB (by decide) ?_
        | refine eq_ff hB (by decide) ?_
        | refine fint_wrp hB (by omega) (by omega) ?_
        | refine fint_step hB ?_
        | refine fbool_tt hB ?_
        | refine fbool_ff hB ?_
        | refine fbool_split hB (fun _ => ?_) (fun _ => ?_)
        | refine ftok_step hB ?_
        | refine frows_step hB ?_
        | refine fstr_step hB ?_
        | refine len_map hB ?_
        | refine len_step hB ?_
        | refine lens_step hB ?_
        | refine byte_step hB ?_
        | refine drop_step hB rfl ?_
        | refine fl_step hB rfl ?_
        | refine add_one hB (by first | omega | decide) ?_
        | refine opt_step hB rfl ?_
        | refine fnat_step hB ?_
        | refine ifk_step hB rfl ?_
        | refine ifk_step hB (flat_or rfl) ?_
        | refine opt2_step hB rfl ?_
        | refine obj_raw hB ?_
        | refine sob_raw hB ?_
        | refine fst_raw hB ?_
        | refine optl_raw hB ?_
        | refine tok_step hB rfl ?_
        ) <;> conv => lhs; whnf)
      · exact K y (.more hR hy)
      · exact K y (.more hR hy)
  · repeat' ((first
      | refine natOf_step hB hzi ?_
      | refine nth_step hB hxb ?_
      | refine ifk_step hB (by rw [Nat.ble_eq]; first
      | omega
      | (simp only [Nat.pred_eq_sub_one, Nat.succ_eq_add_one]; omega)) ?_
      | refine a84_L1_step hB d hd hf i t hzi hzt ht _ hb H54 S hS hl P R hPR _ _ _ _ 0 x hPx (by omega) (by omega) HR (fun y hy => ?_) (fun y e hy => ?_)
      | refine purs_step hB rfl ?_
      | refine lt_tt hB (by decide) ?_
      | refine lt_ff hB (by decide) ?_
      | refine le_tt hB (by decide) ?_
      | refine le_ff hB (by decide) ?_
      | refine eq_tt hB (by decide) ?_
      | refine eq_ff hB (by decide) ?_
      | refine fint_wrp hB (by omega) (by omega) ?_
      | refine fint_step hB ?_
      | refine fbool_tt hB ?_
      | refine fbool_ff hB ?_
      | refine fbool_split hB (fun _ => ?_) (fun _ => ?_)
      | refine ftok_step hB ?_
      | refine frows_step hB ?_
      | refine fstr_step hB ?_
      | refine len_map hB ?_
      | refine len_step hB ?_
      | refine lens_step hB ?_
      | refine byte_step hB ?_
      | refine drop_step hB rfl ?_
      | refine fl_step hB rfl ?_
      | refine add_one hB (by first | omega | decide) ?_
      | refine opt_step hB rfl ?_
      | refine fnat_step hB ?_
      | refine ifk_step hB rfl ?_
      | refine ifk_step hB (flat_or rfl) ?_
      | refine opt2_step hB rfl ?_
      | refine obj_raw hB ?_
      | refine sob_raw hB ?_
      | refine fst_raw hB ?_
      | refine optl_raw hB ?_
      | refine tok_step hB rfl ?_
      ) <;> conv => lhs; whnf)
    · exact K y hy
    · exact K y hy
end Go.Ab.Cl
