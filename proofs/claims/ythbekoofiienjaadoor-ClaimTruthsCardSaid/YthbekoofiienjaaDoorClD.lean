/-
  The claims: sound, and numbers.
-/
import Derived.Test.YthbekoofiienjaaDoorClC
namespace Go.Ab.Cl
open Go.Ab

theorem Tween_ev {G : Nat → List AV} {n : Nat} (hn : 1 ≤ n) (a b c : Int) : (evKR Bk G fsT n).1 0 38 [.int .i64 a, .int .i64 b, .int .i64 c] [] ansK = some (.bool (within a b c), []) := by
  refine call_open (show fsT.find 38 = some a38 from rfl) (by omega) fun n B cl rd hn' hB hcl hrd => ?_
  conv => lhs; whnf
  repeat' ((first
    | refine le_split hB (fun _ => ?_) (fun _ => ?_)
    | refine purs_step hB rfl ?_
    | refine lt_tt hB (by decide) ?_
    | refine lt_ff hB (by decide) ?_
    | refine le_tt hB (by decide) ?_
    | refine le_ff hB (by decide) ?_
    | refine eq_tt hB (by decide) ?_
    | refine eq_ff hB (by decide) ?_
    | refine fint_wrp hB (by omega) (by omega) ?_
    | refine fint_step hB ?_
    | refine fbool_tt hB ?_
    | refine fbool_ff hB ?_
    | refine fbool_split hB (fun _ => ?_) (fun _ => ?_)
    | refine ftok_step hB ?_
    | refine frows_step hB ?_
    | refine fstr_step hB ?_
    | refine len_map hB ?_
    | refine len_step hB ?_
    | refine lens_step hB ?_
    | refine byte_step hB ?_
    | refine drop_step hB rfl ?_
    | refine fl_step hB rfl ?_
    | refine add_one hB (by first | omega | decide) ?_
    | refine opt_step hB rfl ?_
    | refine fnat_step hB ?_
    | refine ifk_step hB rfl ?_
    | refine ifk_step hB (flat_or rfl) ?_
    | refine opt2_step hB rfl ?_
    | refine obj_raw hB ?_
    | refine sob_raw hB ?_
    | refine fst_raw hB ?_
    | refine optl_raw hB ?_
    | refine tok_step hB rfl ?_
    ) <;> conv => lhs; whnf)
  all_goals simp_all [within] <;> omega
theorem Proper_ev {G : Nat → List AV} {n : Nat} (hn : 1 ≤ n) (a b c d : Int) : (evKR Bk G fsT n).1 0 60 [.agg [.int .i64 a, .int .i64 b], .int .i64 c, .int .i64 d] [] ansK = some (.bool (isSpan a b c d), []) := by
  refine call_open (show fsT.find 60 = some a60 from rfl) (by omega) fun n B cl rd hn' hB hcl hrd => ?_
  conv => lhs; whnf
  repeat' ((first
    | refine le_split hB (fun _ => ?_) (fun _ => ?_)
    | refine purs_step hB rfl ?_
    | refine lt_tt hB (by decide) ?_
    | refine lt_ff hB (by decide) ?_
    | refine le_tt hB (by decide) ?_
    | refine le_ff hB (by decide) ?_
    | refine eq_tt hB (by decide) ?_
    | refine eq_ff hB (by decide) ?_
    | refine fint_wrp hB (by omega) (by omega) ?_
    | refine fint_step hB ?_
    | refine fbool_tt hB ?_
    | refine fbool_ff hB ?_
    | refine fbool_split hB (fun _ => ?_) (fun _ => ?_)
    | refine ftok_step hB ?_
    | refine frows_step hB ?_
    | refine fstr_step hB ?_
    | refine len_map hB ?_
    | refine len_step hB ?_
    | refine lens_step hB ?_
    | refine byte_step hB ?_
    | refine drop_step hB rfl ?_
    | refine fl_step hB rfl ?_
    | refine add_one hB (by first | omega | decide) ?_
    | refine opt_step hB rfl ?_
    | refine fnat_step hB ?_
    | refine ifk_step hB rfl ?_
    | refine ifk_step hB (flat_or rfl) ?_
    | refine opt2_step hB rfl ?_
    | refine obj_raw hB ?_
    | refine sob_raw hB ?_
    | refine fst_raw hB ?_
    | refine optl_raw hB ?_
    | refine tok_step hB rfl ?_
    ) <;> conv => lhs; whnf)
  all_goals simp_all [isSpan] <;> omega

theorem a35_L1_step {G : Nat → List AV} {B : Bnd} (hB : B = Bk) {cl : CallK} {rd : RoundK} (H38 : ∀ a b c : Int, cl 0 38 [.int .i64 a, .int .i64 b, .int .i64 c] [] ansK = some (.bool (within a b c), [])) (d : Desk) (hd : d.ok) (hp : ∀ p ∈ d.ps, okParcel p = true) (n : Nat) (k : Ex → Env → St → Ans) (r : Ans) :
    ∀ (j i : Nat), d.ps.length < i + j → i ≤ d.ps.length →
    (k (.exit 0) [(1, .ptr 0 0 0), (3, .bool true), (4, .int .i64 (.ofNat d.ps.length))] [⟨[.cells d.c], []⟩] = r) →
    B.loop (evCK B a35_L1) [1, 3, 4] n j cl rd G 0 1 [(1, .ptr 0 0 0), (3, .bool true), (4, .int .i64 (.ofNat i))] [⟨[.cells d.c], []⟩] k = r := by
  intro j
  induction j with
  | zero => intro i h1 h2; omega
  | succ j ih =>
    intro i h1 h2 k1
    have h3 := hd.ps
    refine loop_succ hB ?_
    conv => lhs; whnf
    repeat' ((first
      | refine purs_step hB rfl ?_
      | refine lt_tt hB (by decide) ?_
      | refine lt_ff hB (by decide) ?_
      | refine le_tt hB (by decide) ?_
      | refine le_ff hB (by decide) ?_
      | refine eq_tt hB (by decide) ?_
      | refine eq_ff hB (by decide) ?_
      | refine fint_wrp hB (by omega) (by omega) ?_
      | refine fint_step hB ?_
      | refine fbool_tt hB ?_
      | refine fbool_ff hB ?_
      | refine fbool_split hB (fun _ => ?_) (fun _ => ?_)
      | refine ftok_step hB ?_
      | refine frows_step hB ?_
      | refine fstr_step hB ?_
      | refine len_map hB ?_
      | refine len_step hB ?_
      | refine lens_step hB ?_
      | refine byte_step hB ?_
      | refine drop_step hB rfl ?_
      | refine fl_step hB rfl ?_
      | refine add_one hB (by first | omega | decide) ?_
      | refine opt_step hB rfl ?_
      | refine fnat_step hB ?_
      | refine ifk_step hB rfl ?_
      | refine ifk_step hB (flat_or rfl) ?_
      | refine opt2_step hB rfl ?_
      | refine obj_raw hB ?_
      | refine sob_raw hB ?_
      | refine fst_raw hB ?_
      | refine optl_raw hB ?_
      | refine tok_step hB rfl ?_
      ) <;> conv => lhs; whnf)
    refine lt_nat hB (fun h => ?_) (fun h => ?_) <;> conv => lhs; whnf
    · have hx : (d.ps.map Parcel.c)[i]? = some (Parcel.c d.ps[i]) := by simp [h]
      have hq := hp d.ps[i] (List.getElem_mem h)
      generalize d.ps[i] = p at hx hq
      simp only [okParcel, Bool.and_eq_true] at hq
      obtain ⟨⟨⟨q1, q2⟩, q3⟩, q4⟩ := hq
      have H1 := H38 p.day 0 4000
      have H2 := H38 p.weight 0 50000
      have H3 := H38 p.mark 0 9999
      have H4 := H38 p.value 0 100000
      rw [q1] at H1
      rw [q2] at H2
      rw [q3] at H3
      rw [q4] at H4
      repeat' ((first
        | refine pans_step hB H1 ?_
        | refine pans_step hB H2 ?_
        | refine pans_step hB H3 ?_
        | refine pans_step hB H4 ?_
        | refine natOf_step hB (m := i) rfl ?_
        | refine nth_step hB hx ?_
        | refine purs_step hB rfl ?_
        | refine lt_tt hB (by decide) ?_
        | refine lt_ff hB (by decide) ?_
        | refine le_tt hB (by decide) ?_
        | refine le_ff hB (by decide) ?_
        | refine eq_tt hB (by decide) ?_
        | refine eq_ff hB (by decide) ?_
        | refine fint_wrp hB (by omega) (by omega) ?_
        | refine fint_step hB ?_
        | refine fbool_tt hB ?_
        | refine fbool_ff hB ?_
        | refine fbool_split hB (fun _ => ?_) (fun _ => ?_)
        | refine ftok_step hB ?_
        | refine frows_step hB ?_
        | refine fstr_step hB ?_
        | refine len_map hB ?_
        | refine len_step hB ?_
        | refine lens_step hB ?_
        | refine byte_step hB ?_
        | refine drop_step hB rfl ?_
        | refine fl_step hB rfl ?_
        | refine add_one hB (by first | omega | decide) ?_
        | refine opt_step hB rfl ?_
        | refine fnat_step hB ?_
        | refine ifk_step hB rfl ?_
        | refine ifk_step hB (flat_or rfl) ?_
        | refine opt2_step hB rfl ?_
        | refine obj_raw hB ?_
        | refine sob_raw hB ?_
        | refine fst_raw hB ?_
        | refine optl_raw hB ?_
        | refine tok_step hB rfl ?_
        ) <;> conv => lhs; whnf)
      (repeat' ((refine ifk_step hB rfl ?_) <;> conv => lhs; whnf))
      exact ih (i + 1) (by omega) (by omega) k1
    · have : i = d.ps.length := by omega
      subst this
      (repeat' ((refine ifk_step hB rfl ?_) <;> conv => lhs; whnf))
      exact k1

theorem a35_L2_step {G : Nat → List AV} {B : Bnd} (hB : B = Bk) {cl : CallK} {rd : RoundK} (H38 : ∀ a b c : Int, cl 0 38 [.int .i64 a, .int .i64 b, .int .i64 c] [] ansK = some (.bool (within a b c), []))
    (H60 : ∀ a b c d : Int, cl 0 60 [.agg [.int .i64 a, .int .i64 b], .int .i64 c, .int .i64 d] [] ansK = some (.bool (isSpan a b c d), [])) (d : Desk) (hd : d.ok) (hp : ∀ b ∈ d.bs, okBox b = true) (n : Nat) (k : Ex → Env → St → Ans) (r : Ans) :
    ∀ (j i : Nat), d.bs.length < i + j → i ≤ d.bs.length →
    (k (.exit 2) [(1, .ptr 0 0 0), (3, .bool true), (6, .int .i64 (.ofNat d.bs.length))] [⟨[.cells d.c], []⟩] = r) →
    B.loop (evCK B a35_L2) [1, 3, 6] n j cl rd G 0 1 [(1, .ptr 0 0 0), (3, .bool true), (6, .int .i64 (.ofNat i))] [⟨[.cells d.c], []⟩] k = r := by
  intro j
  induction j with
  | zero => intro i h1 h2; omega
  | succ j ih =>
    intro i h1 h2 k1
    have h3 := hd.bs
    refine loop_succ hB ?_
    conv => lhs; whnf
    repeat' ((first
      | refine purs_step hB rfl ?_
      | refine lt_tt hB (by decide) ?_
      | refine lt_ff hB (by decide) ?_
      | refine le_tt hB (by decide) ?_
      | refine le_ff hB (by decide) ?_
      | refine eq_tt hB (by decide) ?_
      | refine eq_ff hB (by decide) ?_
      | refine fint_wrp hB (by omega) (by omega) ?_
      | refine fint_step hB ?_
      | refine fbool_tt hB ?_
      | refine fbool_ff hB ?_
      | refine fbool_split hB (fun _ => ?_) (fun _ => ?_)
      | refine ftok_step hB ?_
      | refine frows_step hB ?_
      | refine fstr_step hB ?_
      | refine len_map hB ?_
      | refine len_step hB ?_
      | refine lens_step hB ?_
      | refine byte_step hB ?_
      | refine drop_step hB rfl ?_
      | refine fl_step hB rfl ?_
      | refine add_one hB (by first | omega | decide) ?_
      | refine opt_step hB rfl ?_
      | refine fnat_step hB ?_
      | refine ifk_step hB rfl ?_
      | refine ifk_step hB (flat_or rfl) ?_
      | refine opt2_step hB rfl ?_
      | refine obj_raw hB ?_
      | refine sob_raw hB ?_
      | refine fst_raw hB ?_
      | refine optl_raw hB ?_
      | refine tok_step hB rfl ?_
      ) <;> conv => lhs; whnf)
    refine lt_nat hB (fun h => ?_) (fun h => ?_) <;> conv => lhs; whnf
    · have hx : (d.bs.map Box.c)[i]? = some (Box.c d.bs[i]) := by simp [h]
      have hq := hp d.bs[i] (List.getElem_mem h)
      generalize d.bs[i] = b at hx hq
      simp only [okBox, Bool.and_eq_true] at hq
      obtain ⟨⟨q1, q2⟩, q3⟩ := hq
      have H1 := H38 b.day 0 4000
      have H2 := H60 b.low b.high 0 50000
      rw [q1] at H1
      rw [q2] at H2
      have q4 : b.mark.length = 0 ∨ b.mark.length = 4 := by
        simp only [okSeal, Bool.and_eq_true, Bool.or_eq_true, beq_iff_eq, List.isEmpty_iff] at q3
        rcases q3.1 with h | h
        · left; simp [h]
        · right; exact h
      repeat' ((first
        | refine pans_step hB H1 ?_
        | refine pans_step hB H2 ?_
        | refine natOf_step hB (m := i) rfl ?_
        | refine nth_step hB hx ?_
        | refine eq_split hB (fun _ => ?_) (fun _ => ?_)
        | refine purs_step hB rfl ?_
        | refine lt_tt hB (by decide) ?_
        | refine lt_ff hB (by decide) ?_
        | refine le_tt hB (by decide) ?_
        | refine le_ff hB (by decide) ?_
        | refine eq_tt hB (by decide) ?_
        | refine eq_ff hB (by decide) ?_
        | refine fint_wrp hB (by omega) (by omega) ?_
        | refine fint_step hB ?_
        | refine fbool_tt hB ?_
        | refine fbool_ff hB ?_
        | refine fbool_split hB (fun _ => ?_) (fun _ => ?_)
        | refine ftok_step hB ?_
        | refine frows_step hB ?_
        | refine fstr_step hB ?_
        | refine len_map hB ?_
        | refine len_step hB ?_
        | refine lens_step hB ?_
        | refine byte_step hB ?_
        | refine drop_step hB rfl ?_
        | refine fl_step hB rfl ?_
        | refine add_one hB (by first | omega | decide) ?_
        | refine opt_step hB rfl ?_
        | refine fnat_step hB ?_
        | refine ifk_step hB rfl ?_
        | refine ifk_step hB (flat_or rfl) ?_
        | refine opt2_step hB rfl ?_
        | refine obj_raw hB ?_
        | refine sob_raw hB ?_
        | refine fst_raw hB ?_
        | refine optl_raw hB ?_
        | refine tok_step hB rfl ?_
        ) <;> conv => lhs; whnf)
      · (repeat' ((refine ifk_step hB rfl ?_) <;> conv => lhs; whnf))
        exact ih (i + 1) (by omega) (by omega) k1
      · (repeat' ((refine ifk_step hB rfl ?_) <;> conv => lhs; whnf))
        exact ih (i + 1) (by omega) (by omega) k1
      · simp only [Int.ofNat_eq_natCast] at *
        omega
    · have : i = d.bs.length := by omega
      subst this
      (repeat' ((refine ifk_step hB rfl ?_) <;> conv => lhs; whnf))
      exact k1

theorem sound_ev {G : Nat → List AV} {n : Nat} (d : Desk) (hd : d.ok) (hn : 1000000000000006 ≤ n) : (evKR Bk G fsT n).1 0 35 [d.v] [] ansK = some (.bool d.check, []) := by
  refine call_open (show fsT.find 35 = some a35 from rfl) (by omega) fun n B cl rd hn' hB hcl hrd => ?_
  have HC := Check_ev (G := G) (n := n) d hd (by omega)
  have H38 := fun a b c => Tween_ev (G := G) (n := n) (by omega) a b c
  have H60 := fun a b c e => Proper_ev (G := G) (n := n) (by omega) a b c e
  rw [← hcl] at HC H38 H60
  cases hck : d.check with
  | false =>
    rw [hck] at HC
    conv => lhs; whnf
    repeat' ((first
      | refine tok_step hB hd.tp ?_
      | refine tok_step hB hd.tb ?_
      | refine purs_step hB (by simp [purs, pur, hd.tp, hd.tb]) ?_
      | refine pans_step hB HC ?_
      | refine loop_step hB (by omega) ?_
      | refine purs_step hB rfl ?_
      | refine lt_tt hB (by decide) ?_
      | refine lt_ff hB (by decide) ?_
      | refine le_tt hB (by decide) ?_
      | refine le_ff hB (by decide) ?_
      | refine eq_tt hB (by decide) ?_
      | refine eq_ff hB (by decide) ?_
      | refine fint_wrp hB (by omega) (by omega) ?_
      | refine fint_step hB ?_
      | refine fbool_tt hB ?_
      | refine fbool_ff hB ?_
      | refine fbool_split hB (fun _ => ?_) (fun _ => ?_)
      | refine ftok_step hB ?_
      | refine frows_step hB ?_
      | refine fstr_step hB ?_
      | refine len_map hB ?_
      | refine len_step hB ?_
      | refine lens_step hB ?_
      | refine byte_step hB ?_
      | refine drop_step hB rfl ?_
      | refine fl_step hB rfl ?_
      | refine add_one hB (by first | omega | decide) ?_
      | refine opt_step hB rfl ?_
      | refine fnat_step hB ?_
      | refine ifk_step hB rfl ?_
      | refine ifk_step hB (flat_or rfl) ?_
      | refine opt2_step hB rfl ?_
      | refine obj_raw hB ?_
      | refine sob_raw hB ?_
      | refine fst_raw hB ?_
      | refine optl_raw hB ?_
      | refine tok_step hB rfl ?_
      ) <;> conv => lhs; whnf)
  | true =>
    rw [hck] at HC
    have hf := hck
    simp only [Desk.check, Bool.and_eq_true, decide_eq_true_eq, List.all_eq_true] at hf
    obtain ⟨⟨⟨⟨⟨⟨g1, g2⟩, g3⟩, g4⟩, g5⟩, g6⟩, g7⟩ := hf
    have H1 := H60 d.lo d.hi 0 400
    have H2 := H38 d.wear 0 5000
    have H3 := H38 d.strange 0 6
    rw [g1] at H1
    rw [g2] at H2
    rw [g3] at H3
    conv => lhs; whnf
    repeat' ((first
      | refine tok_step hB hd.tp ?_
      | refine tok_step hB hd.tb ?_
      | refine purs_step hB (by simp [purs, pur, hd.tp, hd.tb]) ?_
      | refine pans_step hB HC ?_
      | refine pans_step hB H1 ?_
      | refine pans_step hB H2 ?_
      | refine pans_step hB H3 ?_
      | refine le_tt hB (by simp only [Int.ofNat_eq_natCast]; omega) ?_
      | refine a35_L1_step hB H38 d hd g6 _ _ _ _ 0 (by omega) (by omega) ?_
      | refine a35_L2_step hB H38 H60 d hd g7 _ _ _ _ 0 (by omega) (by omega) ?_
      | refine purs_step hB rfl ?_
      | refine lt_tt hB (by decide) ?_
      | refine lt_ff hB (by decide) ?_
      | refine le_tt hB (by decide) ?_
      | refine le_ff hB (by decide) ?_
      | refine eq_tt hB (by decide) ?_
      | refine eq_ff hB (by decide) ?_
      | refine fint_wrp hB (by omega) (by omega) ?_
      | refine fint_step hB ?_
      | refine fbool_tt hB ?_
      | refine fbool_ff hB ?_
      | refine fbool_split hB (fun _ => ?_) (fun _ => ?_)
      | refine ftok_step hB ?_
      | refine frows_step hB ?_
      | refine fstr_step hB ?_
      | refine len_map hB ?_
      | refine len_step hB ?_
      | refine lens_step hB ?_
      | refine byte_step hB ?_
      | refine drop_step hB rfl ?_
      | refine fl_step hB rfl ?_
      | refine add_one hB (by first | omega | decide) ?_
      | refine opt_step hB rfl ?_
      | refine fnat_step hB ?_
      | refine ifk_step hB rfl ?_
      | refine ifk_step hB (flat_or rfl) ?_
      | refine opt2_step hB rfl ?_
      | refine obj_raw hB ?_
      | refine sob_raw hB ?_
      | refine fst_raw hB ?_
      | refine optl_raw hB ?_
      | refine tok_step hB rfl ?_
      ) <;> conv => lhs; whnf)
end Go.Ab.Cl
