/-
  The claims: numbers, and how a seal is written.
-/
import Derived.Test.YthbekoofiienjaaDoorClD
namespace Go.Ab.Cl
open Go.Ab

theorem rem_i64 {a b : Int} (h : b ≠ 0) : binAV .rem (.int .i64 a) (.int .i64 b) = some (.int .i64 (a.tmod b)) := by simp [binAV, intBin, h]
theorem quo_i64 {a b : Int} (h : b ≠ 0) (h1 : -9223372036854775808 ≤ a.tdiv b) (h2 : a.tdiv b ≤ 9223372036854775807) : binAV .quo (.int .i64 a) (.int .i64 b) = some (.int .i64 (a.tdiv b)) := by simp [binAV, intBin, h, wrp_i64 h1 h2]

def spin (n many : Int) : Int := if many < 1 then 0 else if n.tmod many < 0 then n.tmod many + many else n.tmod many
theorem tmod_lt {n many : Int} (h : 1 ≤ many) : -many < n.tmod many ∧ n.tmod many < many := by
  constructor
  · have := Int.lt_tmod_of_pos n (show 0 < many by omega); omega
  · exact Int.tmod_lt_of_pos n (by omega)
theorem spin_in {n many : Int} (h : 1 ≤ many) : 0 ≤ spin n many ∧ spin n many < many := by
  have := tmod_lt (n := n) h
  unfold spin
  rw [if_neg (by omega)]
  split <;> omega

theorem Spin_ev {G : Nat → List AV} {n : Nat} (hn : 1 ≤ n) (a b : Int) (hb : b ≤ 9000000000000000000) : (evKR Bk G fsT n).1 0 42 [.int .i64 a, .int .i64 b] [] ansK = some (.int .i64 (spin a b), []) := by
  refine call_open (show fsT.find 42 = some a42 from rfl) (by omega) fun n B cl rd hn' hB hcl hrd => ?_
  conv => lhs; whnf
  refine lt_split hB (fun h => ?_) (fun h => ?_) <;> conv => lhs; whnf
  · have : spin a b = 0 := by unfold spin; rw [if_pos h]
    rw [this]
  · have ht := tmod_lt (n := a) (many := b) (by omega)
    repeat' ((first
      | refine opt_step hB (rem_i64 (by omega)) ?_
      | refine lt_split hB (fun h => ?_) (fun h => ?_)
      | refine add_step hB (by omega) (by omega) ?_
      | refine purs_step hB rfl ?_
      | refine lt_tt hB (by decide) ?_
      | refine lt_ff hB (by decide) ?_
      | refine le_tt hB (by decide) ?_
      | refine le_ff hB (by decide) ?_
      | refine eq_tt hB (by decide) ?_
      | refine eq_ff hB (by decide) ?_
      | refine fint_wrp hB (by omega) (by omega) ?_
      | refine fint_step hB ?_
      | refine fbool_tt hB ?_
      | refine fbool_ff hB ?_
      | refine fbool_split hB (fun _ => ?_) (fun _ => ?_)
      | refine ftok_step hB ?_
      | refine frows_step hB ?_
      | refine fstr_step hB ?_
      | refine len_map hB ?_
      | refine len_step hB ?_
      | refine lens_step hB ?_
      | refine byte_step hB ?_
      | refine drop_step hB rfl ?_
      | refine fl_step hB rfl ?_
      | refine add_one hB (by first | omega | decide) ?_
      | refine opt_step hB rfl ?_
      | refine fnat_step hB ?_
      | refine ifk_step hB rfl ?_
      | refine ifk_step hB (flat_or rfl) ?_
      | refine opt2_step hB rfl ?_
      | refine obj_raw hB ?_
      | refine sob_raw hB ?_
      | refine fst_raw hB ?_
      | refine optl_raw hB ?_
      | refine tok_step hB rfl ?_
      ) <;> conv => lhs; whnf)
    all_goals
      refine congrArg some (congrArg (·, []) (congrArg (AV.int .i64) ?_))
      unfold spin
      rw [if_neg (by omega)]
      simp_all
    all_goals (intros; omega)

theorem Bare_ev {G : Nat → List AV} {n : Nat} (hn : 1 ≤ n) (a : Int) (ha : 0 ≤ a) : (evKR Bk G fsT n).1 0 89 [.int .i64 a] [] ansK = some (.int .i64 a, []) := by
  refine call_open (show fsT.find 89 = some a89 from rfl) (by omega) fun n B cl rd hn' hB hcl hrd => ?_
  conv => lhs; whnf
  repeat' ((first
    | refine lt_ff hB (by omega) ?_
    | refine purs_step hB rfl ?_
    | refine lt_tt hB (by decide) ?_
    | refine lt_ff hB (by decide) ?_
    | refine le_tt hB (by decide) ?_
    | refine le_ff hB (by decide) ?_
    | refine eq_tt hB (by decide) ?_
    | refine eq_ff hB (by decide) ?_
    | refine fint_wrp hB (by omega) (by omega) ?_
    | refine fint_step hB ?_
    | refine fbool_tt hB ?_
    | refine fbool_ff hB ?_
    | refine fbool_split hB (fun _ => ?_) (fun _ => ?_)
    | refine ftok_step hB ?_
    | refine frows_step hB ?_
    | refine fstr_step hB ?_
    | refine len_map hB ?_
    | refine len_step hB ?_
    | refine lens_step hB ?_
    | refine byte_step hB ?_
    | refine drop_step hB rfl ?_
    | refine fl_step hB rfl ?_
    | refine add_one hB (by first | omega | decide) ?_
    | refine opt_step hB rfl ?_
    | refine fnat_step hB ?_
    | refine ifk_step hB rfl ?_
    | refine ifk_step hB (flat_or rfl) ?_
    | refine opt2_step hB rfl ?_
    | refine obj_raw hB ?_
    | refine sob_raw hB ?_
    | refine fst_raw hB ?_
    | refine optl_raw hB ?_
    | refine tok_step hB rfl ?_
    ) <;> conv => lhs; whnf)

/-- A number's digits, j of them at most. -/
def digits : Nat → Nat → List UInt8
  | 0, _ => []
  | j + 1, n => if n < 10 then [(48 + n).toUInt8] else digits j (n / 10) ++ [(48 + n % 10).toUInt8]

theorem digits_len : ∀ (j n : Nat), (digits j n).length ≤ j
  | 0, _ => by simp [digits]
  | j + 1, n => by
    unfold digits
    split
    · simp
    · have := digits_len j (n / 10); simp; omega
theorem str_add {a b : List UInt8} (h : a.length + b.length ≤ 9223372036854775807) : binAV .add (.str a) (.str b) = some (.str (a ++ b)) := by simp [binAV, strBin, h]

theorem rune_ok {r : Nat} (h : r < 10) : cvtAV .rune (.int .i32 (wrp .i32 (48 + (r : Int)))) = some (.str [(48 + r).toUInt8]) := by
  match r, h with
  | 0, _ => rfl
  | 1, _ => rfl
  | 2, _ => rfl
  | 3, _ => rfl
  | 4, _ => rfl
  | 5, _ => rfl
  | 6, _ => rfl
  | 7, _ => rfl
  | 8, _ => rfl
  | 9, _ => rfl

theorem Write_ev {G : Nat → List AV} : ∀ (j : Nat) {n : Nat} (m : Nat) {z : Int}, z = (m : Int) → 0 < j → m < 10 ^ j → j ≤ 18 → j + 2 ≤ n → (evKR Bk G fsT n).1 0 82 [.int .i64 z] [] ansK = some (.str (digits j m), []) := by
  intro j
  induction j with
  | zero => intro n m z hz h; omega
  | succ j ih =>
    intro n m z hz _ hm hj hn
    have hm2 : m < 10 ^ 18 := Nat.lt_of_lt_of_le hm (Nat.pow_le_pow_right (by omega) hj)
    refine call_open (show fsT.find 82 = some a82 from rfl) (by omega) fun n B cl rd hn' hB hcl hrd => ?_
    have ht : z.tmod 10 = ((m % 10 : Nat) : Int) := by subst hz; rfl
    have HB := Bare_ev (G := G) (n := n) (by omega) (z.tmod 10) (by rw [ht]; omega)
    rw [← hcl] at HB
    have hr : cvtAV .rune (.int .i32 (wrp .i32 (48 + z.tmod 10))) = some (.str [(48 + m % 10).toUInt8]) := by rw [ht]; exact rune_ok (by omega)
    have hrem : binAV .rem (.int .i64 z) (.int .i64 10) = some (.int .i64 (z.tmod 10)) := rem_i64 (by decide)
    have hq : z.tdiv 10 = ((m / 10 : Nat) : Int) := by subst hz; rfl
    have hquo : binAV .quo (.int .i64 z) (.int .i64 10) = some (.int .i64 (z.tdiv 10)) := quo_i64 (by decide) (by rw [hq]; omega) (by rw [hq]; omega)
    have hb0 : 0 ≤ z.tmod 10 := by rw [ht]; omega
    have hb9 : z.tmod 10 ≤ 9 := by rw [ht]; omega
    have hl := digits_len j (m / 10)
    by_cases h10 : m < 10
    · conv => lhs; whnf
      repeat' ((first
        | refine opt_step hB hrem ?_
        | refine opt_step hB hr ?_
        | refine pans_step hB HB ?_
        | refine add_step hB (by omega) (by omega) ?_
        | refine lt_tt hB (by omega) ?_
        | refine lt_ff hB (by omega) ?_
        | refine le_tt hB (by omega) ?_
        | refine purs_step hB rfl ?_
        | refine lt_tt hB (by decide) ?_
        | refine lt_ff hB (by decide) ?_
        | refine le_tt hB (by decide) ?_
        | refine le_ff hB (by decide) ?_
        | refine eq_tt hB (by decide) ?_
        | refine eq_ff hB (by decide) ?_
        | refine fint_wrp hB (by omega) (by omega) ?_
        | refine fint_step hB ?_
        | refine fbool_tt hB ?_
        | refine fbool_ff hB ?_
        | refine fbool_split hB (fun _ => ?_) (fun _ => ?_)
        | refine ftok_step hB ?_
        | refine frows_step hB ?_
        | refine fstr_step hB ?_
        | refine len_map hB ?_
        | refine len_step hB ?_
        | refine lens_step hB ?_
        | refine byte_step hB ?_
        | refine drop_step hB rfl ?_
        | refine fl_step hB rfl ?_
        | refine add_one hB (by first | omega | decide) ?_
        | refine opt_step hB rfl ?_
        | refine fnat_step hB ?_
        | refine ifk_step hB rfl ?_
        | refine ifk_step hB (flat_or rfl) ?_
        | refine opt2_step hB rfl ?_
        | refine obj_raw hB ?_
        | refine sob_raw hB ?_
        | refine fst_raw hB ?_
        | refine optl_raw hB ?_
        | refine tok_step hB rfl ?_
        ) <;> conv => lhs; whnf)
      have : digits (j + 1) m = [(48 + m % 10).toUInt8] := by unfold digits; rw [if_pos h10, Nat.mod_eq_of_lt h10]
      rw [this]
    · have hj0 : 0 < j := by
        rcases Nat.eq_zero_or_pos j with h | h
        · subst h; simp at hm; omega
        · exact h
      have hm10 : m / 10 < 10 ^ j := by rw [Nat.div_lt_iff_lt_mul (by omega)]; rw [Nat.pow_succ] at hm; omega
      have H82 := ih (n := n) (m / 10) hq hj0 hm10 (by omega) (by omega)
      rw [← hcl] at H82
      conv => lhs; whnf
      repeat' ((first
        | refine opt_step hB hrem ?_
        | refine opt_step hB hr ?_
        | refine opt_step hB hquo ?_
        | refine opt_step hB (str_add (by simp; omega)) ?_
        | refine pans_step hB HB ?_
        | refine pans_step hB H82 ?_
        | refine add_step hB (by omega) (by omega) ?_
        | refine lt_tt hB (by omega) ?_
        | refine lt_ff hB (by omega) ?_
        | refine le_tt hB (by omega) ?_
        | refine purs_step hB rfl ?_
        | refine lt_tt hB (by decide) ?_
        | refine lt_ff hB (by decide) ?_
        | refine le_tt hB (by decide) ?_
        | refine le_ff hB (by decide) ?_
        | refine eq_tt hB (by decide) ?_
        | refine eq_ff hB (by decide) ?_
        | refine fint_wrp hB (by omega) (by omega) ?_
        | refine fint_step hB ?_
        | refine fbool_tt hB ?_
        | refine fbool_ff hB ?_
        | refine fbool_split hB (fun _ => ?_) (fun _ => ?_)
        | refine ftok_step hB ?_
        | refine frows_step hB ?_
        | refine fstr_step hB ?_
        | refine len_map hB ?_
        | refine len_step hB ?_
        | refine lens_step hB ?_
        | refine byte_step hB ?_
        | refine drop_step hB rfl ?_
        | refine fl_step hB rfl ?_
        | refine add_one hB (by first | omega | decide) ?_
        | refine opt_step hB rfl ?_
        | refine fnat_step hB ?_
        | refine ifk_step hB rfl ?_
        | refine ifk_step hB (flat_or rfl) ?_
        | refine opt2_step hB rfl ?_
        | refine obj_raw hB ?_
        | refine sob_raw hB ?_
        | refine fst_raw hB ?_
        | refine optl_raw hB ?_
        | refine tok_step hB rfl ?_
        ) <;> conv => lhs; whnf)
      have : digits (j + 1) m = digits j (m / 10) ++ [(48 + m % 10).toUInt8] := by rw [digits, if_neg h10]
      rw [this]
end Go.Ab.Cl
