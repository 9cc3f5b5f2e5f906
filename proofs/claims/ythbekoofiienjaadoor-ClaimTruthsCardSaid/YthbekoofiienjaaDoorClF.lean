/-
  The claims: a seal as it is written.
-/
import Derived.Test.YthbekoofiienjaaDoorClE
namespace Go.Ab.Cl
open Go.Ab

theorem a46_L1_step {G : Nat → List AV} {B : Bnd} (hB : B = Bk) {cl : CallK} {rd : RoundK} (n : Nat) (s : St) (k : Ex → Env → St → Ans) (r : Ans) :
    ∀ (j : Nat) (t : List UInt8), 6 < t.length + j → t.length ≤ 5 → 2 ≤ j →
    (k (.exit 0) [(3, .str (List.replicate (4 - t.length) 48 ++ t))] s = r) →
    B.loop (evCK B a46_L1) [3] n j cl rd G 0 1 [(3, .str t)] s k = r := by
  intro j
  induction j with
  | zero =>
    intro t h1 h2 h3
    omega
  | succ j ih =>
    intro t h1 h2 h3 k1
    refine loop_succ hB ?_
    conv => lhs; whnf
    refine lens_step hB ?_
    conv => lhs; whnf
    refine lt_split hB (fun h => ?_) (fun h => ?_) <;> conv => lhs; whnf
    · have h' : t.length < 4 := by simp only [Int.ofNat_eq_natCast] at h; omega
      have ha : binAV .add (.str [48]) (.str t) = some (.str (48 :: t)) := str_add (by simp; omega)
      repeat' ((first
        | refine opt_step hB ha ?_
        | refine purs_step hB rfl ?_
        | refine lt_tt hB (by decide) ?_
        | refine lt_ff hB (by decide) ?_
        | refine le_tt hB (by decide) ?_
        | refine le_ff hB (by decide) ?_
        | refine eq_tt hB (by decide) ?_
        | refine eq_ff hB (by decide) ?_
        | refine fint_wrp hB (by omega) (by omega) ?_
        | refine fint_step hB ?_
        | refine fbool_tt hB ?_
        | refine fbool_ff hB ?_
        | refine fbool_split hB (fun _ => ?_) (fun _ => ?_)
        | refine ftok_step hB ?_
        | refine frows_step hB ?_
        | refine fstr_step hB ?_
        | refine len_map hB ?_
        | refine len_step hB ?_
        | refine lens_step hB ?_
        | refine byte_step hB ?_
        | refine drop_step hB rfl ?_
        | refine fl_step hB rfl ?_
        | refine add_one hB (by first | omega | decide) ?_
        | refine opt_step hB rfl ?_
        | refine fnat_step hB ?_
        | refine ifk_step hB rfl ?_
        | refine ifk_step hB (flat_or rfl) ?_
        | refine opt2_step hB rfl ?_
        | refine obj_raw hB ?_
        | refine sob_raw hB ?_
        | refine fst_raw hB ?_
        | refine optl_raw hB ?_
        | refine tok_step hB rfl ?_
        ) <;> conv => lhs; whnf)
      refine ih (48 :: t) (by simp; omega) (by simp; omega) (by omega) ?_
      have e : List.replicate (4 - t.length) (48 : UInt8) ++ t = List.replicate (4 - (48 :: t).length) 48 ++ (48 :: t) := by
        have : 4 - t.length = (4 - (48 :: t).length) + 1 := by simp; omega
        rw [this, List.replicate_succ']
        simp
      rw [← e]
      (repeat' ((refine ifk_step hB rfl ?_) <;> conv => lhs; whnf))
      exact k1
    · have h' : 4 - t.length = 0 := by simp only [Int.ofNat_eq_natCast] at h; omega
      repeat' ((first
        | refine purs_step hB rfl ?_
        | refine lt_tt hB (by decide) ?_
        | refine lt_ff hB (by decide) ?_
        | refine le_tt hB (by decide) ?_
        | refine le_ff hB (by decide) ?_
        | refine eq_tt hB (by decide) ?_
        | refine eq_ff hB (by decide) ?_
        | refine fint_wrp hB (by omega) (by omega) ?_
        | refine fint_step hB ?_
        | refine fbool_tt hB ?_
        | refine fbool_ff hB ?_
        | refine fbool_split hB (fun _ => ?_) (fun _ => ?_)
        | refine ftok_step hB ?_
        | refine frows_step hB ?_
        | refine fstr_step hB ?_
        | refine len_map hB ?_
        | refine len_step hB ?_
        | refine lens_step hB ?_
        | refine byte_step hB ?_
        | refine drop_step hB rfl ?_
        | refine fl_step hB rfl ?_
        | refine add_one hB (by first | omega | decide) ?_
        | refine opt_step hB rfl ?_
        | refine fnat_step hB ?_
        | refine ifk_step hB rfl ?_
        | refine ifk_step hB (flat_or rfl) ?_
        | refine opt2_step hB rfl ?_
        | refine obj_raw hB ?_
        | refine sob_raw hB ?_
        | refine fst_raw hB ?_
        | refine optl_raw hB ?_
        | refine tok_step hB rfl ?_
        ) <;> conv => lhs; whnf)
      rw [h'] at k1
      (repeat' ((refine ifk_step hB rfl ?_) <;> conv => lhs; whnf))
      exact k1

def d4 (m : Nat) : List UInt8 := [(48 + m / 1000 % 10).toUInt8, (48 + m / 100 % 10).toUInt8, (48 + m / 10 % 10).toUInt8, (48 + m % 10).toUInt8]

theorem seal_text {m : Nat} (h : m < 10000) : List.replicate (4 - (digits 5 m).length) 48 ++ digits 5 m = d4 m := by
  unfold d4
  by_cases h1 : m < 10
  · have e : digits 5 m = [(48 + m).toUInt8] := by simp [digits, h1]
    rw [e]
    have : m / 1000 % 10 = 0 ∧ m / 100 % 10 = 0 ∧ m / 10 % 10 = 0 ∧ m % 10 = m := by omega
    rw [this.1, this.2.1, this.2.2.1, this.2.2.2]; rfl
  · by_cases h2 : m < 100
    · have e : digits 5 m = [(48 + m / 10).toUInt8, (48 + m % 10).toUInt8] := by simp [digits, h1, show m / 10 < 10 by omega]
      rw [e]
      have : m / 1000 % 10 = 0 ∧ m / 100 % 10 = 0 ∧ m / 10 % 10 = m / 10 := by omega
      rw [this.1, this.2.1, this.2.2]; rfl
    · by_cases h3 : m < 1000
      · have e : digits 5 m = [(48 + m / 10 / 10).toUInt8, (48 + m / 10 % 10).toUInt8, (48 + m % 10).toUInt8] := by simp [digits, h1, show ¬ m / 10 < 10 by omega, show m / 10 / 10 < 10 by omega]
        rw [e]
        have : m / 1000 % 10 = 0 ∧ m / 100 % 10 = m / 10 / 10 := by omega
        rw [this.1, this.2]; rfl
      · have e : digits 5 m = [(48 + m / 10 / 10 / 10).toUInt8, (48 + m / 10 / 10 % 10).toUInt8, (48 + m / 10 % 10).toUInt8, (48 + m % 10).toUInt8] := by simp [digits, h1, show ¬ m / 10 < 10 by omega, show ¬ m / 10 / 10 < 10 by omega, show m / 10 / 10 / 10 < 10 by omega]
        rw [e]
        have : m / 1000 % 10 = m / 10 / 10 / 10 ∧ m / 100 % 10 = m / 10 / 10 % 10 := by omega
        rw [this.1, this.2]; rfl

theorem sealOf_ev {G : Nat → List AV} {n : Nat} (hn : 10 ≤ n) (m : Nat) (h : m < 10000) {z : Int} (hz : z = (m : Int)) : (evKR Bk G fsT n).1 0 46 [.int .i64 z] [] ansK = some (.str (d4 m), []) := by
  refine call_open (show fsT.find 46 = some a46 from rfl) (by omega) fun n B cl rd hn' hB hcl hrd => ?_
  have H82 := Write_ev (G := G) 5 (n := n) m hz (by omega) (by omega) (by omega) (by omega)
  rw [← hcl] at H82
  have hl := digits_len 5 m
  conv => lhs; whnf
  repeat' ((first
    | refine pans_step hB H82 ?_
    | refine a46_L1_step hB _ _ _ _ _ _ (by omega) (by omega) (by omega) ?_
    | refine purs_step hB rfl ?_
    | refine lt_tt hB (by decide) ?_
    | refine lt_ff hB (by decide) ?_
    | refine le_tt hB (by decide) ?_
    | refine le_ff hB (by decide) ?_
    | refine eq_tt hB (by decide) ?_
    | refine eq_ff hB (by decide) ?_
    | refine fint_wrp hB (by omega) (by omega) ?_
    | refine fint_step hB ?_
    | refine fbool_tt hB ?_
    | refine fbool_ff hB ?_
    | refine fbool_split hB (fun _ => ?_) (fun _ => ?_)
    | refine ftok_step hB ?_
    | refine frows_step hB ?_
    | refine fstr_step hB ?_
    | refine len_map hB ?_
    | refine len_step hB ?_
    | refine lens_step hB ?_
    | refine byte_step hB ?_
    | refine drop_step hB rfl ?_
    | refine fl_step hB rfl ?_
    | refine add_one hB (by first | omega | decide) ?_
    | refine opt_step hB rfl ?_
    | refine fnat_step hB ?_
    | refine ifk_step hB rfl ?_
    | refine ifk_step hB (flat_or rfl) ?_
    | refine opt2_step hB rfl ?_
    | refine obj_raw hB ?_
    | refine sob_raw hB ?_
    | refine fst_raw hB ?_
    | refine optl_raw hB ?_
    | refine tok_step hB rfl ?_
    ) <;> conv => lhs; whnf)
  rw [seal_text h]
end Go.Ab.Cl
