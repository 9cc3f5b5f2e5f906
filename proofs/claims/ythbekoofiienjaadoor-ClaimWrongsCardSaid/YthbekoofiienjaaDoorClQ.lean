/-
  The claims: numbers, and how a seal is written.
-/
import Derived.Test.YthbekoofiienjaaDoorClD
namespace Go.Ab.Cl
open Go.Ab

theorem rem_i64 {a b : Int} (h : b ≠ 0) : binAV .rem (.int .i64 a) (.int .i64 b) = some (.int .i64 (a.tmod b)) := by simp [binAV, intBin, h]
theorem quo_i64 {a b : Int} (h : b ≠ 0) (h1 : -9223372036854775808 ≤ a.tdiv b) (h2 : a.tdiv b ≤ 9223372036854775807) : binAV .quo (.int .i64 a) (.int .i64 b) = some (.int .i64 (a.tdiv b)) := by simp [binAV, intBin, h, wrp_i64 h1 h2]

def spin (n many : Int) : Int := if many < 1 then 0 else if n.tmod many < 0 then n.tmod many + many else n.tmod many
theorem tmod_lt {n many : Int} (h : 1 ≤ many) : -many < n.tmod many ∧ n.tmod many < many := by
  constructor
  · have := Int.lt_tmod_of_pos n (show 0 < many by omega); omega
  · exact Int.tmod_lt_of_pos n (by omega)
theorem spin_in {n many : Int} (h : 1 ≤ many) : 0 ≤ spin n many ∧ spin n many < many := by
  have := tmod_lt (n := n) h
  unfold spin
  rw [if_neg (by omega)]
  split <;> omega

theorem Spin_ev {G : Nat → List AV} {n : Nat} (hn : 1 ≤ n) (a b : Int) (hb : b ≤ 9000000000000000000) : (evKR Bk G fsT n).1 0 42 [.int .i64 a, .int .i64 b] [] ansK = some (.int .i64 (spin a b), []) := by
  refine call_open (show fsT.find 42 = some a42 from rfl) (by omega) fun n B cl rd hn' hB hcl hrd => ?_
  conv => lhs; whnf
  refine lt_split hB (fun h => ?_) (fun h => ?_) <;> conv => lhs; whnf
  · have : spin a b = 0 := by unfold spin; rw [if_pos h]
    rw [this]
  · have ht := tmod_lt (n := a) (many := b) (by omega)
    repeat' ((first | refine opt_step hB (rem_i64 (by omega)) ?_ | refine lt_split hB (fun h => ?_) (fun h => ?_) | refine add_step hB (by omega) (by omega) ?_ | refine purs_step hB rfl ?_ | refine lt_tt hB (by decide) ?_ | refine lt_ff hB (by decide) ?_ | refine le_tt hB (by decide) ?_ | refine le_ff hB (by decide) ?_ | refine eq_tt hB (by decide) ?_ | refine eq_ff hB (by decide) ?_ | refine fint_wrp hB (by omega) (by omega) ?_ | refine fint_step hB ?_ | refine fbool_tt hB ?_ | refine fbool_ff hB ?_ | refine fbool_split hB (fun _ => ?_) (fun _ => ?_) | refine ftok_step hB ?_ | refine frows_step hB ?_ | refine fstr_step hB ?_ | refine len_map hB ?_ | refine len_step hB ?_ | refine lens_step hB ?_ | refine byte_step hB ?_ | refine drop_step hB rfl ?_ | refine fl_step hB rfl ?_ | refine add_one hB (by first | omega | decide) ?_ | refine opt_step hB rfl ?_ | refine fnat_step hB ?_ | refine ifk_step hB rfl ?_ | refine ifk_step hB (flat_or rfl) ?_ | refine opt2_step hB rfl ?_ | refine obj_raw hB ?_ | refine sob_raw hB ?_ | refine fst_raw hB ?_ | refine optl_raw hB ?_ | refine tok_step hB rfl ?_) <;> conv => lhs; whnf)
    all_goals
      refine congrArg some (congrArg (·, []) (congrArg (AV.int .i64) ?_))
      unfold spin
      rw [if_neg (by omega)]
      simp_all
    all_goals (intros; omega)

theorem Bare_ev {G : Nat → List AV} {n : Nat} (hn : 1 ≤ n) (a : Int) (ha : 0 ≤ a) : (evKR Bk G fsT n).1 0 89 [.int .i64 a] [] ansK = some (.int .i64 a, []) := by
  refine call_open (show fsT.find 89 = some a89 from rfl) (by omega) fun n B cl rd hn' hB hcl hrd => ?_
  conv => lhs; whnf
  repeat' ((first | refine lt_ff hB (by omega) ?_ | refine purs_step hB rfl ?_ | refine lt_tt hB (by decide) ?_ | refine lt_ff hB (by decide) ?_ | refine le_tt hB (by decide) ?_ | refine le_ff hB (by decide) ?_ | refine eq_tt hB (by decide) ?_ | refine eq_ff hB (by decide) ?_ | refine fint_wrp hB (by omega) (by omega) ?_ | refine fint_step hB ?_ | refine fbool_tt hB ?_ | refine fbool_ff hB ?_ | refine fbool_split hB (fun _ => ?_) (fun _ => ?_) | refine ftok_step hB ?_ | refine frows_step hB ?_ | refine fstr_step hB ?_ | refine len_map hB ?_ | refine len_step hB ?_ | refine lens_step hB ?_ | refine byte_step hB ?_ | refine drop_step hB rfl ?_ | refine fl_step hB rfl ?_ | refine add_one hB (by first | omega | decide) ?_ | refine opt_step hB rfl ?_ | refine fnat_step hB ?_ | refine ifk_step hB rfl ?_ | refine ifk_step hB (flat_or rfl) ?_ | refine opt2_step hB rfl ?_ | refine obj_raw hB ?_ | refine sob_raw hB ?_ | refine fst_raw hB ?_ | refine optl_raw hB ?_ | refine tok_step hB rfl ?_) <;> conv => lhs; whnf)

/-- A number's digits, j of them at most. -/
def digits : Nat → Nat → List UInt8
  | 0, _ => []
  | j + 1, n => if n < 10 then [(48 + n).toUInt8] else digits j (n / 10) ++ [(48 + n % 10).toUInt8]

theorem digits_len : ∀ (j n : Nat), (digits j n).length ≤ j
  | 0, _ => by simp [digits]
  | j + 1, n => by
    unfold digits
    split
    · simp
    · have := digits_len j (n / 10); simp; omega
theorem str_add {a b : List UInt8} (h : a.length + b.length ≤ 9223372036854775807) : binAV .add (.str a) (.str b) = some (.str (a ++ b)) := by simp [binAV, strBin, h]

theorem rune_ok {r : Nat} (h : r < 10) : cvtAV .rune (.int .i32 (wrp .i32 (48 + (r : Int)))) = some (.str [(48 + r).toUInt8]) := by
  match r, h with
  | 0, _ => rfl
  | 1, _ => rfl
  | 2, _ => rfl
  | 3, _ => rfl
  | 4, _ => rfl
  | 5, _ => rfl
  | 6, _ => rfl
  | 7, _ => rfl
  | 8, _ => rfl
  | 9, _ => rfl

theorem Write_ev {G : Nat → List AV} : ∀ (j : Nat) {n : Nat} (m : Nat) {z : Int}, z = (m : Int) → 0 < j → m < 10 ^ j → j ≤ 18 → j + 2 ≤ n → (evKR Bk G fsT n).1 0 82 [.int .i64 z] [] ansK = some (.str (digits j m), []) := by
  intro j
  induction j with
  | zero => intro n m z hz h; omega
  | succ j ih =>
    intro n m z hz _ hm hj hn
    have hm2 : m < 10 ^ 18 := Nat.lt_of_lt_of_le hm (Nat.pow_le_pow_right (by omega) hj)
    refine call_open (show fsT.find 82 = some a82 from rfl) (by omega) fun n B cl rd hn' hB hcl hrd => ?_
    have ht : z.tmod 10 = ((m % 10 : Nat) : Int) := by subst hz; rfl
    have HB := Bare_ev (G := G) (n := n) (by omega) (z.tmod 10) (by rw [ht]; omega)
    rw [← hcl] at HB
    have hr : cvtAV .rune (.int .i32 (wrp .i32 (48 + z.tmod 10))) = some (.str [(48 + m % 10).toUInt8]) := by rw [ht]; exact rune_ok (by omega)
    have hrem : binAV .rem (.int .i64 z) (.int .i64 10) = some (.int .i64 (z.tmod 10)) := rem_i64 (by decide)
    have hq : z.tdiv 10 = ((m / 10 : Nat) : Int) := by subst hz; rfl
    have hquo : binAV .quo (.int .i64 z) (.int .i64 10) = some (.int .i64 (z.tdiv 10)) := quo_i64 (by decide) (by rw [hq]; omega) (by rw [hq]; omega)
    have hb0 : 0 ≤ z.tmod 10 := by rw [ht]; omega
    have hb9 : z.tmod 10 ≤ 9 := by rw [ht]; omega
    have hl := digits_len j (m / 10)
    by_cases h10 : m < 10
    · conv => lhs; whnf
      repeat' ((first | refine opt_step hB hrem ?_ | refine opt_step hB hr ?_ | refine pans_step hB HB ?_ | refine add_step hB (by omega) (by omega) ?_ | refine lt_tt hB (by omega) ?_ | refine lt_ff hB (by omega) ?_ | refine le_tt hB (by omega) ?_ | refine purs_step hB rfl ?_ | refine lt_tt hB (by decide) ?_ | refine lt_ff hB (by decide) ?_ | refine le_tt hB (by decide) ?_ | refine le_ff hB (by decide) ?_ | refine eq_tt hB (by decide) ?_ | refine eq_ff hB (by decide) ?_ | refine fint_wrp hB (by omega) (by omega) ?_ | refine fint_step hB ?_ | refine fbool_tt hB ?_ | refine fbool_ff hB ?_ | refine fbool_split hB (fun _ => ?_) (fun _ => ?_) | refine ftok_step hB ?_ | refine frows_step hB ?_ | refine fstr_step hB ?_ | refine len_map hB ?_ | refine len_step hB ?_ | refine lens_step hB ?_ | refine byte_step hB ?_ | refine drop_step hB rfl ?_ | refine fl_step hB rfl ?_ | refine add_one hB (by first | omega | decide) ?_ | refine opt_step hB rfl ?_ | refine fnat_step hB ?_ | refine ifk_step hB rfl ?_ | refine ifk_step hB (flat_or rfl) ?_ | refine opt2_step hB rfl ?_ | refine obj_raw hB ?_ | refine sob_raw hB ?_ | refine fst_raw hB ?_ | refine optl_raw hB ?_ | refine tok_step hB rfl ?_) <;> conv => lhs; whnf)
      have : digits (j + 1) m = [(48 + m % 10).toUInt8] := by unfold digits; rw [if_pos h10, Nat.mod_eq_of_lt h10]
      rw [this]
    · have hj0 : 0 < j := by
        rcases Nat.eq_zero_or_pos j with h | h
        · subst h; simp at hm; omega
        · exact h
      have hm10 : m / 10 < 10 ^ j := by rw [Nat.div_lt_iff_lt_mul (by omega)]; rw [Nat.pow_succ] at hm; omega
      have H82 := ih (n := n) (m / 10) hq hj0 hm10 (by omega) (by omega)
      rw [← hcl] at H82
      conv => lhs; whnf
      repeat' ((first | refine opt_step hB hrem ?_ | refine opt_step hB hr ?_ | refine opt_step hB hquo ?_ | refine opt_step hB (str_add (by simp; omega)) ?_ | refine pans_step hB HB ?_ | refine pans_step hB H82 ?_ | refine add_step hB (by omega) (by omega) ?_ | refine lt_tt hB (by omega) ?_ | refine lt_ff hB (by omega) ?_ | refine le_tt hB (by omega) ?_ | refine purs_step hB rfl ?_ | refine lt_tt hB (by decide) ?_ | refine lt_ff hB (by decide) ?_ | refine le_tt hB (by decide) ?_ | refine le_ff hB (by decide) ?_ | refine eq_tt hB (by decide) ?_ | refine eq_ff hB (by decide) ?_ | refine fint_wrp hB (by omega) (by omega) ?_ | refine fint_step hB ?_ | refine fbool_tt hB ?_ | refine fbool_ff hB ?_ | refine fbool_split hB (fun _ => ?_) (fun _ => ?_) | refine ftok_step hB ?_ | refine frows_step hB ?_ | refine fstr_step hB ?_ | refine len_map hB ?_ | refine len_step hB ?_ | refine lens_step hB ?_ | refine byte_step hB ?_ | refine drop_step hB rfl ?_ | refine fl_step hB rfl ?_ | refine add_one hB (by first | omega | decide) ?_ | refine opt_step hB rfl ?_ | refine fnat_step hB ?_ | refine ifk_step hB rfl ?_ | refine ifk_step hB (flat_or rfl) ?_ | refine opt2_step hB rfl ?_ | refine obj_raw hB ?_ | refine sob_raw hB ?_ | refine fst_raw hB ?_ | refine optl_raw hB ?_ | refine tok_step hB rfl ?_) <;> conv => lhs; whnf)
      have : digits (j + 1) m = digits j (m / 10) ++ [(48 + m % 10).toUInt8] := by rw [digits, if_neg h10]
      rw [this]
end Go.Ab.Cl

namespace Go.Ab.Cl
open Go.Ab

theorem a46_L1_step {G : Nat → List AV} {B : Bnd} (hB : B = Bk) {cl : CallK} {rd : RoundK} (n : Nat) (s : St) (k : Ex → Env → St → Ans) (r : Ans) :
    ∀ (j : Nat) (t : List UInt8), 6 < t.length + j → t.length ≤ 5 → 2 ≤ j →
    (k (.exit 0) [(3, .str (List.replicate (4 - t.length) 48 ++ t))] s = r) →
    B.loop (evCK B a46_L1) [3] n j cl rd G 0 1 [(3, .str t)] s k = r := by
  intro j
  induction j with
  | zero =>
    intro t h1 h2 h3
    omega
  | succ j ih =>
    intro t h1 h2 h3 k1
    refine loop_succ hB ?_
    conv => lhs; whnf
    refine lens_step hB ?_
    conv => lhs; whnf
    refine lt_split hB (fun h => ?_) (fun h => ?_) <;> conv => lhs; whnf
    · have h' : t.length < 4 := by simp only [Int.ofNat_eq_natCast] at h; omega
      have ha : binAV .add (.str [48]) (.str t) = some (.str (48 :: t)) := str_add (by simp; omega)
      repeat' ((first | refine opt_step hB ha ?_ | refine purs_step hB rfl ?_ | refine lt_tt hB (by decide) ?_ | refine lt_ff hB (by decide) ?_ | refine le_tt hB (by decide) ?_ | refine le_ff hB (by decide) ?_ | refine eq_tt hB (by decide) ?_ | refine eq_ff hB (by decide) ?_ | refine fint_wrp hB (by omega) (by omega) ?_ | refine fint_step hB ?_ | refine fbool_tt hB ?_ | refine fbool_ff hB ?_ | refine fbool_split hB (fun _ => ?_) (fun _ => ?_) | refine ftok_step hB ?_ | refine frows_step hB ?_ | refine fstr_step hB ?_ | refine len_map hB ?_ | refine len_step hB ?_ | refine lens_step hB ?_ | refine byte_step hB ?_ | refine drop_step hB rfl ?_ | refine fl_step hB rfl ?_ | refine add_one hB (by first | omega | decide) ?_ | refine opt_step hB rfl ?_ | refine fnat_step hB ?_ | refine ifk_step hB rfl ?_ | refine ifk_step hB (flat_or rfl) ?_ | refine opt2_step hB rfl ?_ | refine obj_raw hB ?_ | refine sob_raw hB ?_ | refine fst_raw hB ?_ | refine optl_raw hB ?_ | refine tok_step hB rfl ?_) <;> conv => lhs; whnf)
      refine ih (48 :: t) (by simp; omega) (by simp; omega) (by omega) ?_
      have e : List.replicate (4 - t.length) (48 : UInt8) ++ t = List.replicate (4 - (48 :: t).length) 48 ++ (48 :: t) := by
        have : 4 - t.length = (4 - (48 :: t).length) + 1 := by simp; omega
        rw [this, List.replicate_succ']
        simp
      rw [← e]
      (repeat' ((refine ifk_step hB rfl ?_) <;> conv => lhs; whnf))
      exact k1
    · have h' : 4 - t.length = 0 := by simp only [Int.ofNat_eq_natCast] at h; omega
      repeat' ((first | refine purs_step hB rfl ?_ | refine lt_tt hB (by decide) ?_ | refine lt_ff hB (by decide) ?_ | refine le_tt hB (by decide) ?_ | refine le_ff hB (by decide) ?_ | refine eq_tt hB (by decide) ?_ | refine eq_ff hB (by decide) ?_ | refine fint_wrp hB (by omega) (by omega) ?_ | refine fint_step hB ?_ | refine fbool_tt hB ?_ | refine fbool_ff hB ?_ | refine fbool_split hB (fun _ => ?_) (fun _ => ?_) | refine ftok_step hB ?_ | refine frows_step hB ?_ | refine fstr_step hB ?_ | refine len_map hB ?_ | refine len_step hB ?_ | refine lens_step hB ?_ | refine byte_step hB ?_ | refine drop_step hB rfl ?_ | refine fl_step hB rfl ?_ | refine add_one hB (by first | omega | decide) ?_ | refine opt_step hB rfl ?_ | refine fnat_step hB ?_ | refine ifk_step hB rfl ?_ | refine ifk_step hB (flat_or rfl) ?_ | refine opt2_step hB rfl ?_ | refine obj_raw hB ?_ | refine sob_raw hB ?_ | refine fst_raw hB ?_ | refine optl_raw hB ?_ | refine tok_step hB rfl ?_) <;> conv => lhs; whnf)
      rw [h'] at k1
      (repeat' ((refine ifk_step hB rfl ?_) <;> conv => lhs; whnf))
      exact k1

def d4 (m : Nat) : List UInt8 := [(48 + m / 1000 % 10).toUInt8, (48 + m / 100 % 10).toUInt8, (48 + m / 10 % 10).toUInt8, (48 + m % 10).toUInt8]

theorem seal_text {m : Nat} (h : m < 10000) : List.replicate (4 - (digits 5 m).length) 48 ++ digits 5 m = d4 m := by
  unfold d4
  by_cases h1 : m < 10
  · have e : digits 5 m = [(48 + m).toUInt8] := by simp [digits, h1]
    rw [e]
    have : m / 1000 % 10 = 0 ∧ m / 100 % 10 = 0 ∧ m / 10 % 10 = 0 ∧ m % 10 = m := by omega
    rw [this.1, this.2.1, this.2.2.1, this.2.2.2]; rfl
  · by_cases h2 : m < 100
    · have e : digits 5 m = [(48 + m / 10).toUInt8, (48 + m % 10).toUInt8] := by simp [digits, h1, show m / 10 < 10 by omega]
      rw [e]
      have : m / 1000 % 10 = 0 ∧ m / 100 % 10 = 0 ∧ m / 10 % 10 = m / 10 := by omega
      rw [this.1, this.2.1, this.2.2]; rfl
    · by_cases h3 : m < 1000
      · have e : digits 5 m = [(48 + m / 10 / 10).toUInt8, (48 + m / 10 % 10).toUInt8, (48 + m % 10).toUInt8] := by simp [digits, h1, show ¬ m / 10 < 10 by omega, show m / 10 / 10 < 10 by omega]
        rw [e]
        have : m / 1000 % 10 = 0 ∧ m / 100 % 10 = m / 10 / 10 := by omega
        rw [this.1, this.2]; rfl
      · have e : digits 5 m = [(48 + m / 10 / 10 / 10).toUInt8, (48 + m / 10 / 10 % 10).toUInt8, (48 + m / 10 % 10).toUInt8, (48 + m % 10).toUInt8] := by simp [digits, h1, show ¬ m / 10 < 10 by omega, show ¬ m / 10 / 10 < 10 by omega, show m / 10 / 10 / 10 < 10 by omega]
        rw [e]
        have : m / 1000 % 10 = m / 10 / 10 / 10 ∧ m / 100 % 10 = m / 10 / 10 % 10 := by omega
        rw [this.1, this.2]; rfl

theorem sealOf_ev {G : Nat → List AV} {n : Nat} (hn : 10 ≤ n) (m : Nat) (h : m < 10000) {z : Int} (hz : z = (m : Int)) : (evKR Bk G fsT n).1 0 46 [.int .i64 z] [] ansK = some (.str (d4 m), []) := by
  refine call_open (show fsT.find 46 = some a46 from rfl) (by omega) fun n B cl rd hn' hB hcl hrd => ?_
  have H82 := Write_ev (G := G) 5 (n := n) m hz (by omega) (by omega) (by omega) (by omega)
  rw [← hcl] at H82
  have hl := digits_len 5 m
  conv => lhs; whnf
  repeat' ((first | refine pans_step hB H82 ?_ | refine a46_L1_step hB _ _ _ _ _ _ (by omega) (by omega) (by omega) ?_ | refine purs_step hB rfl ?_ | refine lt_tt hB (by decide) ?_ | refine lt_ff hB (by decide) ?_ | refine le_tt hB (by decide) ?_ | refine le_ff hB (by decide) ?_ | refine eq_tt hB (by decide) ?_ | refine eq_ff hB (by decide) ?_ | refine fint_wrp hB (by omega) (by omega) ?_ | refine fint_step hB ?_ | refine fbool_tt hB ?_ | refine fbool_ff hB ?_ | refine fbool_split hB (fun _ => ?_) (fun _ => ?_) | refine ftok_step hB ?_ | refine frows_step hB ?_ | refine fstr_step hB ?_ | refine len_map hB ?_ | refine len_step hB ?_ | refine lens_step hB ?_ | refine byte_step hB ?_ | refine drop_step hB rfl ?_ | refine fl_step hB rfl ?_ | refine add_one hB (by first | omega | decide) ?_ | refine opt_step hB rfl ?_ | refine fnat_step hB ?_ | refine ifk_step hB rfl ?_ | refine ifk_step hB (flat_or rfl) ?_ | refine opt2_step hB rfl ?_ | refine obj_raw hB ?_ | refine sob_raw hB ?_ | refine fst_raw hB ?_ | refine optl_raw hB ?_ | refine tok_step hB rfl ?_) <;> conv => lhs; whnf)
  rw [seal_text h]
end Go.Ab.Cl

namespace Go.Ab
/-- Cells cut into rows. -/
theorem rowsOf_flat {e : Nat} : ∀ (rows : List (List AV)), (∀ r ∈ rows, r.length = e) → rowsOf e rows.length rows.flatten = rows
  | [], _ => rfl
  | r :: rows, h => by
    have hr := h r (by simp)
    simp only [List.length_cons, rowsOf, List.flatten_cons]
    rw [List.take_append_of_le_length (by omega), ← hr, List.take_length, List.drop_append_of_le_length (by omega), List.drop_length, List.nil_append]
    rw [hr, rowsOf_flat rows fun q hq => h q (by simp [hq])]
theorem flat_len5 {e : Nat} : ∀ (rows : List (List AV)), (∀ r ∈ rows, r.length = e) → rows.flatten.length = rows.length * e
  | [], _ => by simp
  | r :: rows, h => by
    have hr := h r (by simp)
    have := flat_len5 rows fun q hq => h q (by simp [hq])
    simp only [List.flatten_cons, List.length_append, List.length_cons, this, hr, Nat.succ_mul]
    omega
theorem purs_flatten : ∀ (rows : List (List AV)), (∀ r ∈ rows, purs r = true) → purs rows.flatten = true := fun rows h =>
  pures_of fun v hv => by
    obtain ⟨r, hr, hv⟩ := List.mem_flatten.1 hv
    exact pures_mem (h r hr) v hv
theorem hand_os_ok {s : St} {l i e n : Nat} {rows : List (List AV)} (hn : n = rows.length) (hg : getObj s l i = some (.cells rows.flatten)) (he : 0 < e) (hr : ∀ r ∈ rows, r.length = e ∧ purs r = true) :
    hand s (.os l i 0 n e) = some (.sl rows .any) := by
  subst hn
  have h1 := flat_len5 rows (fun r (h : r ∈ rows) => (hr r h).1)
  have h2 := purs_flatten rows (fun r (h : r ∈ rows) => (hr r h).2)
  simp only [hand, hg, List.drop_zero, Nat.zero_add]
  rw [← h1, List.take_length, h2, rowsOf_flat rows (fun r (h : r ∈ rows) => (hr r h).1)]
  simp [he]
theorem appo_ok {s : St} {f : Fr} {rows : List (List AV)} {t : Tok} {e bytes : Nat} (hne : rows ≠ []) (hr : ∀ r ∈ rows, r.length = e) (he : 0 < e) (hb : rows.length * bytes ≤ 140737488355328) :
    appoAt (f :: s) e bytes (.sl [] .full) (.sl rows t) = some (.os s.length f.objs.length 0 rows.length e, ⟨f.objs ++ [.cells rows.flatten], f.toks⟩ :: s) := by
  obtain ⟨os, tk⟩ := f
  have hh : headFit e rows = true := by
    cases rows with
    | nil => rfl
    | cons r rows => simp [headFit, hr r (by simp)]
  simp [appoAt, rowsAt, he, hb, newObj, show headFit e [] = true from rfl, hne, hh]
theorem put_flat {e : Nat} {o : Nat} (ho : o < e) (v : AV) : ∀ (rows : List (List AV)) (i : Nat) (row : List AV), (∀ r ∈ rows, r.length = e) → rows[i]? = some row → putAt rows.flatten (i * e + o) [v] = (rows.set i (row.set o v)).flatten
  | [], i, row, _, h => by simp at h
  | r :: rows, 0, row, hr, h => by
    simp at h
    subst h
    have h1 := hr r (by simp)
    simp only [Nat.zero_mul, Nat.zero_add, List.flatten_cons, List.set_cons_zero, putAt, List.length_singleton]
    rw [List.take_append_of_le_length (by omega), List.drop_append_of_le_length (by omega), List.set_eq_take_append_cons_drop, if_pos (by omega)]
    simp
  | r :: rows, i + 1, row, hr, h => by
    have h1 := hr r (by simp)
    have ih := put_flat ho v rows i row (fun q hq => hr q (by simp [hq])) (by simpa using h)
    simp only [putAt, List.length_singleton, List.flatten_cons, List.set_cons_succ] at *
    rw [← ih]
    have e1 : (i + 1) * e + o = r.length + (i * e + o) := by rw [h1, Nat.succ_mul]; omega
    rw [e1, List.take_append, List.take_of_length_le (by omega), show r.length + (i * e + o) - r.length = i * e + o by omega, show r.length + (i * e + o) + 1 = r.length + (i * e + o + 1) by omega, List.drop_append, List.drop_of_length_le (by omega), show r.length + (i * e + o + 1) - r.length = i * e + o + 1 by omega]
    simp
end Go.Ab
namespace Go.Ab.Cl
open Go.Ab

def agree : List UInt8 → List UInt8 → Bool
  | [], _ => true
  | _ :: _, [] => false
  | c :: r, o :: q => (decide ((c.toNat : Int) = 63) || decide ((c.toNat : Int) = o.toNat)) && agree r q

theorem d4_get {m : Nat} : ((d4 m)[0]!.toNat : Int) = 48 + (m / 1000 % 10 : Nat) ∧ ((d4 m)[1]!.toNat : Int) = 48 + (m / 100 % 10 : Nat) ∧ ((d4 m)[2]!.toNat : Int) = 48 + (m / 10 % 10 : Nat) ∧ ((d4 m)[3]!.toNat : Int) = 48 + (m % 10 : Nat) := by
  have hn : ∀ x : Nat, x < 10 → (((48 + x).toUInt8).toNat : Int) = 48 + (x : Int) := by
    intro x hx
    simp [Nat.toUInt8, UInt8.toNat_ofNat']
    omega
  exact ⟨hn _ (by omega), hn _ (by omega), hn _ (by omega), hn _ (by omega)⟩

/-- What the program reads of a seal is what the digits say. -/
theorem sealB_agree {b : Box} {p : Parcel} {m : Nat} (hs : okSeal b.mark = true) (hm : p.mark = (m : Int)) : sealB b p = agree b.mark (d4 m) := by
  have hl : b.mark = [] ∨ b.mark.length = 4 := by
    simp only [okSeal, Bool.and_eq_true, Bool.or_eq_true, beq_iff_eq, List.isEmpty_iff] at hs
    exact hs.1
  rcases hl with h | h
  · simp [sealB, h, sealGo, agree]
  · match hmk : b.mark, h with
    | [c0, c1, c2, c3], _ =>
      have t1 : (m : Int).tdiv 10 = ((m / 10 : Nat) : Int) := rfl
      have t2 : ((m / 10 : Nat) : Int).tdiv 10 = ((m / 100 : Nat) : Int) := by show ((m / 10 / 10 : Nat) : Int) = _; rw [Nat.div_div_eq_div_mul]
      have t3 : ((m / 100 : Nat) : Int).tdiv 10 = ((m / 1000 : Nat) : Int) := by show ((m / 100 / 10 : Nat) : Int) = _; rw [Nat.div_div_eq_div_mul]
      have r0 : (m : Int).tmod 10 = ((m % 10 : Nat) : Int) := rfl
      have r1 : ((m / 10 : Nat) : Int).tmod 10 = ((m / 10 % 10 : Nat) : Int) := rfl
      have r2 : ((m / 100 : Nat) : Int).tmod 10 = ((m / 100 % 10 : Nat) : Int) := rfl
      have r3 : ((m / 1000 : Nat) : Int).tmod 10 = ((m / 1000 % 10 : Nat) : Int) := rfl
      obtain ⟨g0, g1, g2, g3⟩ := d4_get (m := m)
      have e0 : (d4 m)[0]! = (48 + m / 1000 % 10).toUInt8 := rfl
      have e1 : (d4 m)[1]! = (48 + m / 100 % 10).toUInt8 := rfl
      have e2 : (d4 m)[2]! = (48 + m / 10 % 10).toUInt8 := rfl
      have e3 : (d4 m)[3]! = (48 + m % 10).toUInt8 := rfl
      rw [e0] at g0
      rw [e1] at g1
      rw [e2] at g2
      rw [e3] at g3
      unfold sealB
      rw [hmk, hm]
      simp only [List.reverse_cons, List.reverse_nil, List.nil_append, List.cons_append, sealGo, agree, d4, t1, t2, t3, r0, r1, r2, r3, g0, g1, g2, g3, Bool.and_true]
      have k : ∀ (x y : Int), decide (x - 48 = y) = decide (x = 48 + y) := fun x y => by
        rw [decide_eq_decide]; omega
      simp only [k]
      generalize (decide ((c0.toNat : Int) = 63) || decide ((c0.toNat : Int) = 48 + ((m / 1000 % 10 : Nat) : Int))) = x0
      generalize (decide ((c1.toNat : Int) = 63) || decide ((c1.toNat : Int) = 48 + ((m / 100 % 10 : Nat) : Int))) = x1
      generalize (decide ((c2.toNat : Int) = 63) || decide ((c2.toNat : Int) = 48 + ((m / 10 % 10 : Nat) : Int))) = x2
      generalize (decide ((c3.toNat : Int) = 63) || decide ((c3.toNat : Int) = 48 + ((m % 10 : Nat) : Int))) = x3
      cases x0 <;> cases x1 <;> cases x2 <;> cases x3 <;> rfl

theorem box_len {bs : List Box} : ∀ r ∈ bs.map Box.c, r.length = 5 := by
  intro r hr
  obtain ⟨b, _, rfl⟩ := List.mem_map.1 hr
  rfl
theorem box_pur {bs : List Box} : ∀ r ∈ bs.map Box.c, r.length = 5 ∧ purs r = true := by
  intro r hr
  obtain ⟨b, _, rfl⟩ := List.mem_map.1 hr
  exact ⟨rfl, rfl⟩
theorem box_put {bs : List Box} {i : Nat} {b : Box} (hb : bs[i]? = some b) (m : List UInt8) : putAt (bs.map Box.c).flatten (i * 5 + 3) [.str m] = ((bs.set i { b with mark := m }).map Box.c).flatten := by
  rw [put_flat (by omega) _ _ i b.c box_len (by simp [hb])]
  congr 1
  rw [List.map_set]
  rfl
theorem slstr_hi {s : List UInt8} {m : Nat} {z : Int} (hz : z = (m : Int)) (h : m ≤ s.length) : slstrAV (.str s) none (some (.int .i64 z)) = some (.str (s.take m)) := by
  subst hz
  simp [slstrAV, optBound, bound, h]
theorem slstr_lo {s : List UInt8} {m : Nat} {z : Int} (hz : z = (m : Int)) (h : m ≤ s.length) : slstrAV (.str s) (some (.int .i64 z)) none = some (.str (s.drop m)) := by
  subst hz
  simp [slstrAV, optBound, bound, h]

/-- A digit less. -/
theorem agree_less : ∀ (s o : List UInt8) (m : Nat), m < s.length → agree s o = true → agree (s.take m ++ 63 :: s.drop (m + 1)) o = true
  | [], _, _, h, _ => by simp at h
  | c :: r, [], _, _, h => by simp [agree] at h
  | c :: r, o :: q, 0, _, h => by
    simp only [agree, Bool.and_eq_true] at h
    simp [agree, h.2]
  | c :: r, o :: q, m + 1, hm, h => by
    simp only [agree, Bool.and_eq_true] at h
    have := agree_less r q m (by simpa using hm) h.2
    simp only [List.take_succ_cons, List.drop_succ_cons, List.cons_append, agree, Bool.and_eq_true]
    exact ⟨h.1, this⟩
theorem okSeal_less {s : List UInt8} {m : Nat} (hm : m < s.length) (h : okSeal s = true) : okSeal (s.take m ++ 63 :: s.drop (m + 1)) = true := by
  have h4 : s.length = 4 := by
    simp only [okSeal, Bool.and_eq_true, Bool.or_eq_true, beq_iff_eq, List.isEmpty_iff] at h
    rcases h.1 with h | h
    · subst h; simp at hm
    · exact h
  simp only [okSeal, Bool.and_eq_true] at h ⊢
  refine ⟨by simp; omega, ?_⟩
  rw [List.all_eq_true] at *
  intro x hx
  rcases List.mem_append.1 hx with hx | hx
  · exact h.2 x (List.mem_of_mem_take hx)
  · rcases List.mem_cons.1 hx with rfl | hx
    · rfl
    · exact h.2 x (List.mem_of_mem_drop hx)

/-- A desk with another seal on a box. -/
def Desk.put (d : Desk) (i : Nat) (b : Box) (m : List UInt8) : Desk := { d with bs := d.bs.set i { b with mark := m }, tb := .any }
theorem put_check {d : Desk} {i : Nat} {b : Box} {m : List UInt8} (hc : d.check = true) (hb : d.bs[i]? = some b) (hm : okSeal m = true) : (d.put i b m).check = true := by
  have e : (d.put i b m).check = (isSpan d.lo d.hi 0 400 && within d.wear 0 5000 && within d.strange 0 6 && decide (d.ps.length ≤ 8) && decide ((d.bs.set i { b with mark := m }).length ≤ 6) && d.ps.all okParcel && (d.bs.set i { b with mark := m }).all okBox) := rfl
  rw [e]
  simp only [Desk.check, Bool.and_eq_true, decide_eq_true_eq, List.length_set, List.all_eq_true] at *
  refine ⟨hc.1, fun x hx => ?_⟩
  rcases List.mem_or_eq_of_mem_set hx with hx | rfl
  · exact hc.2 x hx
  · have := hc.2 b (List.mem_of_getElem? hb)
    simp only [okBox, Bool.and_eq_true] at *
    exact ⟨this.1, hm⟩
theorem put_ok {d : Desk} {i : Nat} {b : Box} {m : List UInt8} (hd : d.ok) (hm : m.length ≤ 4) : (d.put i b m).ok where
  tp := hd.tp
  tb := rfl
  ps := hd.ps
  bs := by simpa [Desk.put] using hd.bs
  str x hx := by
    rcases List.mem_or_eq_of_mem_set hx with hx | rfl
    · exact hd.str x hx
    · show m.length ≤ _; omega
theorem couldR_in {d : Desk} {i k : Nat} {b : Box} {p : Parcel} {zi zk : Int} (hc : d.check = true) (hb : d.bs[i]? = some b) (hp : d.ps[k]? = some p) (hzi : zi = (i : Int)) (hzk : zk = (k : Int)) : couldR d zi zk = (couldB d b p, 0) := by
  have hi : i < d.bs.length := by
    rcases Nat.lt_or_ge i d.bs.length with h | h
    · exact h
    · rw [List.getElem?_eq_none h] at hb; cases hb
  have hk : k < d.ps.length := by
    rcases Nat.lt_or_ge k d.ps.length with h | h
    · exact h
    · rw [List.getElem?_eq_none h] at hp; cases hp
  unfold couldR
  rw [if_pos hc, if_pos ⟨by simp [within]; omega, by simp [within]; omega⟩, hzi, hzk]
  simp [hb, hp]
end Go.Ab.Cl

namespace Go.Ab.Cl
open Go.Ab

theorem To_ev {n : Nat} (hn : 2 ≤ n) (a b : Int) : (evKR Bk Gx fsT n).1 0 43 [.int .i64 a, .int .i64 b] [] ansK = some (.agg [.int .i64 a, .int .i64 b], []) := by
  refine call_open (show fsT.find 43 = some a43 from rfl) (by omega) fun n' B cl rd hn' hB hcl hrd => ?_
  conv => lhs; whnf
  repeat' ((first | refine fnat_pred hB ?_ | refine purs_step hB rfl ?_ | refine lt_tt hB (by decide) ?_ | refine lt_ff hB (by decide) ?_ | refine le_tt hB (by decide) ?_ | refine le_ff hB (by decide) ?_ | refine eq_tt hB (by decide) ?_ | refine eq_ff hB (by decide) ?_ | refine fint_wrp hB (by omega) (by omega) ?_ | refine fint_step hB ?_ | refine fbool_tt hB ?_ | refine fbool_ff hB ?_ | refine fbool_split hB (fun _ => ?_) (fun _ => ?_) | refine ftok_step hB ?_ | refine frows_step hB ?_ | refine fstr_step hB ?_ | refine len_map hB ?_ | refine len_step hB ?_ | refine lens_step hB ?_ | refine byte_step hB ?_ | refine drop_step hB rfl ?_ | refine fl_step hB rfl ?_ | refine add_one hB (by first | omega | decide) ?_ | refine opt_step hB rfl ?_ | refine fnat_step hB ?_ | refine ifk_step hB rfl ?_ | refine ifk_step hB (flat_or rfl) ?_ | refine opt2_step hB rfl ?_ | refine obj_raw hB ?_ | refine sob_raw hB ?_ | refine fst_raw hB ?_ | refine optl_raw hB ?_ | refine tok_step hB rfl ?_) <;> conv => lhs; whnf)
  all_goals rfl
def innerB (a b c d : Int) : Bool := decide (c ≤ a) && decide (b ≤ d)
theorem Inner_ev {n : Nat} (hn : 2 ≤ n) (a b c d : Int) : (evKR Bk Gx fsT n).1 0 49 [.agg [.int .i64 a, .int .i64 b], .agg [.int .i64 c, .int .i64 d]] [] ansK = some (.bool (innerB a b c d), []) := by
  refine call_open (show fsT.find 49 = some a49 from rfl) (by omega) fun n' B cl rd hn' hB hcl hrd => ?_
  conv => lhs; whnf
  repeat' ((first | refine fnat_pred hB ?_ | refine le_split hB (fun h1 => ?_) (fun h1 => ?_) | refine purs_step hB rfl ?_ | refine lt_tt hB (by decide) ?_ | refine lt_ff hB (by decide) ?_ | refine le_tt hB (by decide) ?_ | refine le_ff hB (by decide) ?_ | refine eq_tt hB (by decide) ?_ | refine eq_ff hB (by decide) ?_ | refine fint_wrp hB (by omega) (by omega) ?_ | refine fint_step hB ?_ | refine fbool_tt hB ?_ | refine fbool_ff hB ?_ | refine fbool_split hB (fun _ => ?_) (fun _ => ?_) | refine ftok_step hB ?_ | refine frows_step hB ?_ | refine fstr_step hB ?_ | refine len_map hB ?_ | refine len_step hB ?_ | refine lens_step hB ?_ | refine byte_step hB ?_ | refine drop_step hB rfl ?_ | refine fl_step hB rfl ?_ | refine add_one hB (by first | omega | decide) ?_ | refine opt_step hB rfl ?_ | refine fnat_step hB ?_ | refine ifk_step hB rfl ?_ | refine ifk_step hB (flat_or rfl) ?_ | refine opt2_step hB rfl ?_ | refine obj_raw hB ?_ | refine sob_raw hB ?_ | refine fst_raw hB ?_ | refine optl_raw hB ?_ | refine tok_step hB rfl ?_) <;> conv => lhs; whnf)
  all_goals
    refine congrArg some (congrArg (·, []) (congrArg AV.bool ?_))
    simp_all [innerB] <;> omega
def placeI : List Int → Int → Int → Int
  | [], _, _ => -1
  | k :: l, n, i => if k = n then i else placeI l n (i + 1)
theorem a39_L1_step {B : Bnd} (hB : B = Bk) {cl : CallK} {rd : RoundK} (l : List Int) (hl : l.length ≤ 1000000000000000) (z : Int) (n : Nat) (s : St) (k : Ex → Env → St → Ans) (r : Ans) :
    ∀ (j i0 : Nat) (t : Tok), purTok t = true → l.length < i0 + j → i0 ≤ l.length →
    (placeI (l.drop i0) z (i0 : Int) = -1 → ∀ e, k (.exit 0) ((0, .sl (rowsI l) t) :: e) s = r) →
    (∀ e, k .ret ((0, .sl (rowsI l) t) :: (1, .int .i64 z) :: (4, .int .i64 (placeI (l.drop i0) z (i0 : Int))) :: e) s = r) →
    B.loop (evCK B a39_L1) [0, 1, 4, 5] n j cl rd Gx 0 1 [(0, .sl (rowsI l) t), (1, .int .i64 z), (4, .int .i64 0), (5, .int .i64 (.ofNat i0))] s k = r := by
  intro j
  induction j with
  | zero => intro i0 t ht h1 h2; omega
  | succ j ih =>
    intro i0 t ht h1 h2 k1 k2
    refine loop_succ hB ?_
    conv => lhs; whnf
    refine len_map hB ?_
    conv => lhs; whnf
    refine lt_nat hB (fun h => ?_) (fun h => ?_) <;> conv => lhs; whnf
    · have hx : (rowsI l)[i0]? = some [.int .i64 l[i0]] := by simp [rowsI, h]
      have hdr : l.drop i0 = l[i0] :: l.drop (i0 + 1) := List.drop_eq_getElem_cons h
      rw [hdr] at k1 k2
      generalize l[i0] = y at hx hdr k1 k2
      repeat' ((first | refine natOf_step hB (m := i0) rfl ?_ | refine nth_step hB hx ?_ | refine eq_split hB (fun hy => ?_) (fun hy => ?_) | refine purs_step hB rfl ?_ | refine lt_tt hB (by decide) ?_ | refine lt_ff hB (by decide) ?_ | refine le_tt hB (by decide) ?_ | refine le_ff hB (by decide) ?_ | refine eq_tt hB (by decide) ?_ | refine eq_ff hB (by decide) ?_ | refine fint_wrp hB (by omega) (by omega) ?_ | refine fint_step hB ?_ | refine fbool_tt hB ?_ | refine fbool_ff hB ?_ | refine fbool_split hB (fun _ => ?_) (fun _ => ?_) | refine ftok_step hB ?_ | refine frows_step hB ?_ | refine fstr_step hB ?_ | refine len_map hB ?_ | refine len_step hB ?_ | refine lens_step hB ?_ | refine byte_step hB ?_ | refine drop_step hB rfl ?_ | refine fl_step hB rfl ?_ | refine add_one hB (by first | omega | decide) ?_ | refine opt_step hB rfl ?_ | refine fnat_step hB ?_ | refine ifk_step hB rfl ?_ | refine ifk_step hB (flat_or rfl) ?_ | refine opt2_step hB rfl ?_ | refine obj_raw hB ?_ | refine sob_raw hB ?_ | refine fst_raw hB ?_ | refine optl_raw hB ?_ | refine tok_step hB rfl ?_) <;> conv => lhs; whnf)
      · have hp : placeI (y :: l.drop (i0 + 1)) z (i0 : Int) = (i0 : Int) := by simp [placeI, hy]
        rw [hp] at k2
        rw [clampTok_pur ht]
        exact k2 _
      · have hp : placeI (y :: l.drop (i0 + 1)) z (i0 : Int) = placeI (l.drop (i0 + 1)) z ((i0 + 1 : Nat) : Int) := by simp [placeI, hy]
        rw [hp] at k1 k2
        rw [clampTok_pur ht]
        exact ih (i0 + 1) t ht (by omega) (by omega) k1 k2
    · repeat' ((first | refine purs_step hB rfl ?_ | refine lt_tt hB (by decide) ?_ | refine lt_ff hB (by decide) ?_ | refine le_tt hB (by decide) ?_ | refine le_ff hB (by decide) ?_ | refine eq_tt hB (by decide) ?_ | refine eq_ff hB (by decide) ?_ | refine fint_wrp hB (by omega) (by omega) ?_ | refine fint_step hB ?_ | refine fbool_tt hB ?_ | refine fbool_ff hB ?_ | refine fbool_split hB (fun _ => ?_) (fun _ => ?_) | refine ftok_step hB ?_ | refine frows_step hB ?_ | refine fstr_step hB ?_ | refine len_map hB ?_ | refine len_step hB ?_ | refine lens_step hB ?_ | refine byte_step hB ?_ | refine drop_step hB rfl ?_ | refine fl_step hB rfl ?_ | refine add_one hB (by first | omega | decide) ?_ | refine opt_step hB rfl ?_ | refine fnat_step hB ?_ | refine ifk_step hB rfl ?_ | refine ifk_step hB (flat_or rfl) ?_ | refine opt2_step hB rfl ?_ | refine obj_raw hB ?_ | refine sob_raw hB ?_ | refine fst_raw hB ?_ | refine optl_raw hB ?_ | refine tok_step hB rfl ?_) <;> conv => lhs; whnf)
      have hi : i0 = l.length := by omega
      subst hi
      rw [clampTok_pur ht]
      exact k1 (by simp [placeI]) _
theorem Place_ev {n : Nat} (hn : 1000000000000002 ≤ n) (l : List Int) (hl : l.length ≤ 1000000000000000) {t : Tok} (ht : purTok t = true) (z : Int) : (evKR Bk Gx fsT n).1 0 39 [.sl (rowsI l) t, .int .i64 z] [] ansK = some (.int .i64 (placeI l z 0), []) := by
  refine call_open (show fsT.find 39 = some a39 from rfl) (by omega) fun n' B cl rd hn' hB hcl hrd => ?_
  conv => lhs; whnf
  repeat' ((first | refine fnat_pred hB ?_ | refine a39_L1_step hB l hl z _ _ _ _ _ 0 _ (purTok_clamp ht) (by omega) (by omega) (fun hp e => ?_) (fun e => ?_) | refine purs_step hB rfl ?_ | refine lt_tt hB (by decide) ?_ | refine lt_ff hB (by decide) ?_ | refine le_tt hB (by decide) ?_ | refine le_ff hB (by decide) ?_ | refine eq_tt hB (by decide) ?_ | refine eq_ff hB (by decide) ?_ | refine fint_wrp hB (by omega) (by omega) ?_ | refine fint_step hB ?_ | refine fbool_tt hB ?_ | refine fbool_ff hB ?_ | refine fbool_split hB (fun _ => ?_) (fun _ => ?_) | refine ftok_step hB ?_ | refine frows_step hB ?_ | refine fstr_step hB ?_ | refine len_map hB ?_ | refine len_step hB ?_ | refine lens_step hB ?_ | refine byte_step hB ?_ | refine drop_step hB rfl ?_ | refine fl_step hB rfl ?_ | refine add_one hB (by first | omega | decide) ?_ | refine opt_step hB rfl ?_ | refine fnat_step hB ?_ | refine ifk_step hB rfl ?_ | refine ifk_step hB (flat_or rfl) ?_ | refine opt2_step hB rfl ?_ | refine obj_raw hB ?_ | refine sob_raw hB ?_ | refine fst_raw hB ?_ | refine optl_raw hB ?_ | refine tok_step hB rfl ?_) <;> conv => lhs; whnf)
  · have hp : placeI l z 0 = -1 := hp
    rw [hp]
  · rfl
theorem place_lt {l : List Int} {z : Int} : ∀ {i : Int}, 0 ≤ i → (placeI l z i < 0 ↔ z ∉ l) := by
  induction l with
  | nil => intro i hi; simp [placeI]
  | cons k l ih =>
    intro i hi
    unfold placeI
    by_cases h : k = z
    · simp [h]; omega
    · rw [if_neg h, ih (by omega)]
      simp [Ne.symm h]
end Go.Ab.Cl
