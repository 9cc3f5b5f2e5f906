/-
  The claims: ClaimEach, on the abstract machine: the parcels, one after the other.
-/
import Derived.Test.YthbekoofiienjaaDoorClS
namespace Go.Ab.Cl
open Go.Ab

theorem best_in {d : Desk} (hc : d.check = true) {by_ : Int → Int → Int} (hby : ∀ a b, by_ a b = a ∨ by_ a b = b) (ge : List (Int × Int)) : -1 ≤ best d by_ ge ∧ best d by_ ge ≤ 600000 := by
  have h := W_in hby hc (fun i => look ge i) d.bs.length 0 0
  have := (check_fine hc).nb
  unfold best
  omega
theorem worth_in {d : Desk} (hc : d.check = true) : -1 ≤ worthLo d ∧ worthLo d ≤ 600000 ∧ -1 ≤ worthHi d ∧ worthHi d ≤ 600000 := by
  have h1 := best_in hc lo_or []
  have h2 := best_in hc hi_or []
  unfold worthLo worthHi
  split <;> omega
theorem canK {d : Desk} (hc : d.check = true) {i k : Nat} (hi : i < d.bs.length) (tb tp : Tok) : canB d (i : Int) (k : Int) = (fit0 d i k && trueB (dK d i k tb tp)) := by
  rw [Bool.eq_iff_iff, can_SK hc hi, Bool.and_eq_true, true_iff (dK_check hc)]
  constructor
  · rintro ⟨v, h⟩
    obtain ⟨h1, l, h2, _⟩ := (SK_K hi tb tp v).1 h
    exact ⟨h1, l, h2⟩
  · rintro ⟨h1, l, h2⟩
    exact ⟨_, (SK_K hi tb tp _).2 ⟨h1, l, h2, rfl⟩⟩
theorem SK_lt {n : Nat} {S : Nat → Int → Prop} (v : Int) : (∃ k, k < n + 1 ∧ S k v) ↔ (∃ k, k < n ∧ S k v) ∨ S n v := by
  constructor
  · rintro ⟨k, h1, h2⟩
    by_cases h : k = n
    · subst h; exact .inr h2
    · exact .inl ⟨k, by omega, h2⟩
  · rintro (⟨k, h1, h2⟩ | h)
    · exact ⟨k, by omega, h2⟩
    · exact ⟨n, by omega, h⟩

set_option maxHeartbeats 20000000 in
theorem a8_L1_step {B : Bnd} (hB : B = Bk) {cl : CallK} {rd : RoundK} (d : Desk) (hd : d.ok) (hc : d.check = true) (i : Nat) (hi : i < d.bs.length) {zi : Int} (hzi : zi = (i : Int)) (L : List Int)
    (H13 : ∀ (k : Nat) (b : Box) (p : Parcel), d.bs[i]? = some b → d.ps[k]? = some p → cl 0 13 [d.v, .int .i64 zi, .int .i64 (k : Int)] [] ansK = some (.tup [.bool (couldB d b p), .int .i64 0], []))
    (H44 : ∀ (k : Nat), k < d.ps.length → ∃ tb tp, purTok tb = true ∧ purTok tp = true ∧ cl 0 44 [d.v, .int .i64 zi, .int .i64 (k : Int)] [] ansK = some ((dK d i k tb tp).v, []))
    (H29 : ∀ (d : Desk), d.ok → cl 0 29 [d.v] [] ansK = some (.tup [.agg [.int .i64 (worthLo d), .int .i64 (worthHi d)], .int .i64 (askE d true)], []))
    (H39 : ∀ (t : Tok), purTok t = true → ∀ z : Int, cl 0 39 [.sl (rowsI L) t, .int .i64 z] [] ansK = some (.int .i64 (placeI L z 0), []))
    (HTo : ∀ a b : Int, cl 0 43 [.int .i64 a, .int .i64 b] [] ansK = some (.agg [.int .i64 a, .int .i64 b], []))
    (HL : ∀ k : Nat, k < d.ps.length → ((k : Int) ∈ L ↔ canB d (i : Int) (k : Int) = true)) (v7 v8 w0 w1 : Int)
    (n : Nat) (k : Ex → Env → St → Ans) (r : Ans) :
    ∀ (j i0 : Nat) (t : Tok) (found : Bool) (lo hh : Int), purTok t = true → d.ps.length < i0 + j → i0 ≤ d.ps.length → Acc found lo hh (fun v => ∃ k : Nat, k < i0 ∧ SK d i (k : Int) v) →
    (∀ (t : Tok) (found : Bool) (lo hh x : Int), purTok t = true → Acc found lo hh (fun v => ∃ k : Nat, k < d.ps.length ∧ SK d i (k : Int) v) →
      k (.exit 0) [(2, .ptr 0 0 0), (4, .bool false), (5, .int .i64 zi), (6, .sl (rowsI L) t), (7, .int .i64 v7), (8, .int .i64 v8), (10, .ptr 0 1 0), (12, .bool found), (13, .ptr 0 2 0), (14, .int .i64 x)] [⟨[.cells d.c, .cells [.int .i64 w0, .int .i64 w1], .cells [.int .i64 lo, .int .i64 hh]], []⟩] = r) →
    B.loop (evCK B a8_L1) [2, 4, 5, 6, 7, 8, 10, 12, 13, 14] n j cl rd Gx 0 1 [(2, .ptr 0 0 0), (4, .bool false), (5, .int .i64 zi), (6, .sl (rowsI L) t), (7, .int .i64 v7), (8, .int .i64 v8), (10, .ptr 0 1 0), (12, .bool found), (13, .ptr 0 2 0), (14, .int .i64 (.ofNat i0))] [⟨[.cells d.c, .cells [.int .i64 w0, .int .i64 w1], .cells [.int .i64 lo, .int .i64 hh]], []⟩] k = r := by
  intro j
  induction j with
  | zero => intro i0 t found lo hh ht h1 h2; omega
  | succ j ih =>
    intro i0 t found lo hh ht h1 h2 hacc k1
    have hnp := (check_fine hc).np
    refine loop_succ hB ?_
    conv => lhs; whnf
    (repeat' ((first | refine fnat_step hB ?_ | refine obj_raw hB ?_ | refine drop_step hB rfl ?_ | refine len_map hB ?_) <;> conv => lhs; whnf))
    refine lt_nat hB (fun h => ?_) (fun h => ?_) <;> conv => lhs; whnf
    · obtain ⟨b, hb⟩ : ∃ b, d.bs[i]? = some b := ⟨d.bs[i], by simp [hi]⟩
      obtain ⟨p, hp⟩ := meantRow d h
      obtain ⟨tb, tp, htb, htp, HD⟩ := H44 i0 h
      have HC := H13 i0 b p hb hp
      have hKok : (dK d i i0 tb tp).ok := lessP_ok (lessB_ok hd htb) htp
      have hKc : (dK d i i0 tb tp).check = true := dK_check hc
      have HV := H29 _ hKok
      have hW := worth_in hKc
      have hfit : fit0 d i i0 = couldB d b p := by simp [fit0, hb, hp]
      have hcan := canK hc (i := i) (k := i0) hi tb tp
      rw [hfit] at hcan
      have hval : valueOf d i0 = p.value := by simp [valueOf, hp]
      have hv := value_in hc i0
      rw [hval] at hv
      have hxp : (d.ps.map Parcel.c)[i0]? = some p.c := by simp [hp]
      have hpl := place_lt (l := L) (z := (i0 : Int)) (i := 0) (by omega)
      rw [HL i0 h, hcan] at hpl
      have hP2 := H39 t ht (i0 : Int)
      cases hcb : couldB d b p
      · rw [hcb] at HC
        cases hct : trueB (dK d i i0 tb tp)
        · have a1 : askE (dK d i i0 tb tp) true = 92 := by simp [askE, hKc, hct]
          rw [a1] at HV
          have hno : ∀ v, ¬ SK d i (i0 : Int) v := fun v hv => by
            have := (can_SK hc hi).2 ⟨v, hv⟩
            rw [hcan, hcb, hct] at this
            cases this
          have hpl2 : ¬ 0 ≤ placeI L (i0 : Int) 0 := by
            rw [hcb, hct] at hpl
            have := hpl.2 (by simp)
            omega
          repeat' ((first
            | refine fnat_pred hB ?_
            | refine tok_step hB hd.tp ?_
            | refine tok_step hB hd.tb ?_
            | refine tok_step hB hKok.tb ?_
            | refine tok_step hB hKok.tp ?_
            | refine tok_step hB ht ?_
            | refine purs_step hB (by simp [purs, pur, hd.tp, hd.tb, hKok.tp, hKok.tb, ht]) ?_
            | refine pans_step hB HC ?_
            | refine pans_step hB HD ?_
            | refine pans_step hB HV ?_
            | refine pans_step hB hP2 ?_
            | refine pans_step hB (HTo _ _) ?_
            | refine eq_tt hB (by decide) ?_
            | refine eq_ff hB (by decide) ?_
            | refine natOf_step hB (m := i0) rfl ?_
            | refine nth_step hB hxp ?_
            | refine add_step hB (by omega) (by omega) ?_
            | refine opt2_step hB (mn_ok rfl rfl) ?_
            | refine opt2_step hB (mx_ok rfl rfl) ?_
            | refine le_ff hB hpl2 ?_
            | refine purs_step hB rfl ?_
            | refine lt_tt hB (by decide) ?_
            | refine lt_ff hB (by decide) ?_
            | refine le_tt hB (by decide) ?_
            | refine le_ff hB (by decide) ?_
            | refine eq_tt hB (by decide) ?_
            | refine eq_ff hB (by decide) ?_
            | refine fint_wrp hB (by omega) (by omega) ?_
            | refine fint_step hB ?_
            | refine fbool_tt hB ?_
            | refine fbool_ff hB ?_
            | refine fbool_split hB (fun _ => ?_) (fun _ => ?_)
            | refine ftok_step hB ?_
            | refine frows_step hB ?_
            | refine fstr_step hB ?_
            | refine len_map hB ?_
            | refine len_step hB ?_
            | refine lens_step hB ?_
            | refine byte_step hB ?_
            | refine drop_step hB rfl ?_
            | refine fl_step hB rfl ?_
            | refine add_one hB (by first | omega | decide) ?_
            | refine opt_step hB rfl ?_
            | refine fnat_step hB ?_
            | refine ifk_step hB rfl ?_
            | refine ifk_step hB (flat_or rfl) ?_
            | refine opt2_step hB rfl ?_
            | refine obj_raw hB ?_
            | refine sob_raw hB ?_
            | refine fst_raw hB ?_
            | refine optl_raw hB ?_
            | refine tok_step hB rfl ?_
            ) <;> conv => lhs; whnf)
          rw [clampTok_pur ht]
          exact ih (i0 + 1) t found lo hh ht (by omega) (by omega) (Acc_congr (Acc_skip hacc hno) (fun v => (SK_lt v).symm)) k1
        · have a1 : askE (dK d i i0 tb tp) true = 0 := by simp [askE, hKc, hct]
          rw [a1] at HV
          have hno : ∀ v, ¬ SK d i (i0 : Int) v := fun v hv => by
            have := (can_SK hc hi).2 ⟨v, hv⟩
            rw [hcan, hcb, hct] at this
            cases this
          have hpl2 : ¬ 0 ≤ placeI L (i0 : Int) 0 := by
            rw [hcb, hct] at hpl
            have := hpl.2 (by simp)
            omega
          repeat' ((first
            | refine fnat_pred hB ?_
            | refine tok_step hB hd.tp ?_
            | refine tok_step hB hd.tb ?_
            | refine tok_step hB hKok.tb ?_
            | refine tok_step hB hKok.tp ?_
            | refine tok_step hB ht ?_
            | refine purs_step hB (by simp [purs, pur, hd.tp, hd.tb, hKok.tp, hKok.tb, ht]) ?_
            | refine pans_step hB HC ?_
            | refine pans_step hB HD ?_
            | refine pans_step hB HV ?_
            | refine pans_step hB hP2 ?_
            | refine pans_step hB (HTo _ _) ?_
            | refine eq_tt hB (by decide) ?_
            | refine eq_ff hB (by decide) ?_
            | refine natOf_step hB (m := i0) rfl ?_
            | refine nth_step hB hxp ?_
            | refine add_step hB (by omega) (by omega) ?_
            | refine opt2_step hB (mn_ok rfl rfl) ?_
            | refine opt2_step hB (mx_ok rfl rfl) ?_
            | refine le_ff hB hpl2 ?_
            | refine purs_step hB rfl ?_
            | refine lt_tt hB (by decide) ?_
            | refine lt_ff hB (by decide) ?_
            | refine le_tt hB (by decide) ?_
            | refine le_ff hB (by decide) ?_
            | refine eq_tt hB (by decide) ?_
            | refine eq_ff hB (by decide) ?_
            | refine fint_wrp hB (by omega) (by omega) ?_
            | refine fint_step hB ?_
            | refine fbool_tt hB ?_
            | refine fbool_ff hB ?_
            | refine fbool_split hB (fun _ => ?_) (fun _ => ?_)
            | refine ftok_step hB ?_
            | refine frows_step hB ?_
            | refine fstr_step hB ?_
            | refine len_map hB ?_
            | refine len_step hB ?_
            | refine lens_step hB ?_
            | refine byte_step hB ?_
            | refine drop_step hB rfl ?_
            | refine fl_step hB rfl ?_
            | refine add_one hB (by first | omega | decide) ?_
            | refine opt_step hB rfl ?_
            | refine fnat_step hB ?_
            | refine ifk_step hB rfl ?_
            | refine ifk_step hB (flat_or rfl) ?_
            | refine opt2_step hB rfl ?_
            | refine obj_raw hB ?_
            | refine sob_raw hB ?_
            | refine fst_raw hB ?_
            | refine optl_raw hB ?_
            | refine tok_step hB rfl ?_
            ) <;> conv => lhs; whnf)
          rw [clampTok_pur ht]
          exact ih (i0 + 1) t found lo hh ht (by omega) (by omega) (Acc_congr (Acc_skip hacc hno) (fun v => (SK_lt v).symm)) k1
      · rw [hcb] at HC
        cases hct : trueB (dK d i i0 tb tp)
        · have a1 : askE (dK d i i0 tb tp) true = 92 := by simp [askE, hKc, hct]
          rw [a1] at HV
          have hno : ∀ v, ¬ SK d i (i0 : Int) v := fun v hv => by
            have := (can_SK hc hi).2 ⟨v, hv⟩
            rw [hcan, hcb, hct] at this
            cases this
          have hpl2 : ¬ 0 ≤ placeI L (i0 : Int) 0 := by
            rw [hcb, hct] at hpl
            have := hpl.2 (by simp)
            omega
          repeat' ((first
            | refine fnat_pred hB ?_
            | refine tok_step hB hd.tp ?_
            | refine tok_step hB hd.tb ?_
            | refine tok_step hB hKok.tb ?_
            | refine tok_step hB hKok.tp ?_
            | refine tok_step hB ht ?_
            | refine purs_step hB (by simp [purs, pur, hd.tp, hd.tb, hKok.tp, hKok.tb, ht]) ?_
            | refine pans_step hB HC ?_
            | refine pans_step hB HD ?_
            | refine pans_step hB HV ?_
            | refine pans_step hB hP2 ?_
            | refine pans_step hB (HTo _ _) ?_
            | refine eq_tt hB (by decide) ?_
            | refine eq_ff hB (by decide) ?_
            | refine natOf_step hB (m := i0) rfl ?_
            | refine nth_step hB hxp ?_
            | refine add_step hB (by omega) (by omega) ?_
            | refine opt2_step hB (mn_ok rfl rfl) ?_
            | refine opt2_step hB (mx_ok rfl rfl) ?_
            | refine le_ff hB hpl2 ?_
            | refine purs_step hB rfl ?_
            | refine lt_tt hB (by decide) ?_
            | refine lt_ff hB (by decide) ?_
            | refine le_tt hB (by decide) ?_
            | refine le_ff hB (by decide) ?_
            | refine eq_tt hB (by decide) ?_
            | refine eq_ff hB (by decide) ?_
            | refine fint_wrp hB (by omega) (by omega) ?_
            | refine fint_step hB ?_
            | refine fbool_tt hB ?_
            | refine fbool_ff hB ?_
            | refine fbool_split hB (fun _ => ?_) (fun _ => ?_)
            | refine ftok_step hB ?_
            | refine frows_step hB ?_
            | refine fstr_step hB ?_
            | refine len_map hB ?_
            | refine len_step hB ?_
            | refine lens_step hB ?_
            | refine byte_step hB ?_
            | refine drop_step hB rfl ?_
            | refine fl_step hB rfl ?_
            | refine add_one hB (by first | omega | decide) ?_
            | refine opt_step hB rfl ?_
            | refine fnat_step hB ?_
            | refine ifk_step hB rfl ?_
            | refine ifk_step hB (flat_or rfl) ?_
            | refine opt2_step hB rfl ?_
            | refine obj_raw hB ?_
            | refine sob_raw hB ?_
            | refine fst_raw hB ?_
            | refine optl_raw hB ?_
            | refine tok_step hB rfl ?_
            ) <;> conv => lhs; whnf)
          rw [clampTok_pur ht]
          exact ih (i0 + 1) t found lo hh ht (by omega) (by omega) (Acc_congr (Acc_skip hacc hno) (fun v => (SK_lt v).symm)) k1
        · have a1 : askE (dK d i i0 tb tp) true = 0 := by simp [askE, hKc, hct]
          rw [a1] at HV
          have hpl2 : 0 ≤ placeI L (i0 : Int) 0 := by
            rw [hcb, hct] at hpl
            have := mt hpl.1 (by simp)
            omega
          obtain ⟨⟨l1, q1, q2⟩, ⟨l2, q3, q4⟩, q5⟩ := worth_spec hKc hct
          have hA := Acc_congr (Acc_more hacc (T := fun v => SK d i (i0 : Int) v) (a := worthLo (dK d i i0 tb tp) + p.value) (b := worthHi (dK d i i0 tb tp) + p.value)
            ((SK_K hi tb tp _).2 ⟨by rw [hfit, hcb], l1, q1, by rw [hval, q2]; omega⟩) ((SK_K hi tb tp _).2 ⟨by rw [hfit, hcb], l2, q3, by rw [hval, q4]; omega⟩)
            (fun v hv => by
              obtain ⟨_, l, q6, q7⟩ := (SK_K hi tb tp v).1 hv
              have := q5 l q6
              rw [q7, hval]; omega)) (fun v => (SK_lt v).symm)
          cases found
          all_goals
            repeat' ((first
              | refine fnat_pred hB ?_
              | refine tok_step hB hd.tp ?_
              | refine tok_step hB hd.tb ?_
              | refine tok_step hB hKok.tb ?_
              | refine tok_step hB hKok.tp ?_
              | refine tok_step hB ht ?_
              | refine purs_step hB (by simp [purs, pur, hd.tp, hd.tb, hKok.tp, hKok.tb, ht]) ?_
              | refine pans_step hB HC ?_
              | refine pans_step hB HD ?_
              | refine pans_step hB HV ?_
              | refine pans_step hB hP2 ?_
              | refine pans_step hB (HTo _ _) ?_
              | refine eq_tt hB (by decide) ?_
              | refine eq_ff hB (by decide) ?_
              | refine natOf_step hB (m := i0) rfl ?_
              | refine nth_step hB hxp ?_
              | refine add_step hB (by omega) (by omega) ?_
              | refine opt2_step hB (mn_ok rfl rfl) ?_
              | refine opt2_step hB (mx_ok rfl rfl) ?_
              | refine le_tt hB hpl2 ?_
              | refine purs_step hB rfl ?_
              | refine lt_tt hB (by decide) ?_
              | refine lt_ff hB (by decide) ?_
              | refine le_tt hB (by decide) ?_
              | refine le_ff hB (by decide) ?_
              | refine eq_tt hB (by decide) ?_
              | refine eq_ff hB (by decide) ?_
              | refine fint_wrp hB (by omega) (by omega) ?_
              | refine fint_step hB ?_
              | refine fbool_tt hB ?_
              | refine fbool_ff hB ?_
              | refine fbool_split hB (fun _ => ?_) (fun _ => ?_)
              | refine ftok_step hB ?_
              | refine frows_step hB ?_
              | refine fstr_step hB ?_
              | refine len_map hB ?_
              | refine len_step hB ?_
              | refine lens_step hB ?_
              | refine byte_step hB ?_
              | refine drop_step hB rfl ?_
              | refine fl_step hB rfl ?_
              | refine add_one hB (by first | omega | decide) ?_
              | refine opt_step hB rfl ?_
              | refine fnat_step hB ?_
              | refine ifk_step hB rfl ?_
              | refine ifk_step hB (flat_or rfl) ?_
              | refine opt2_step hB rfl ?_
              | refine obj_raw hB ?_
              | refine sob_raw hB ?_
              | refine fst_raw hB ?_
              | refine optl_raw hB ?_
              | refine tok_step hB rfl ?_
              ) <;> conv => lhs; whnf)
            rw [clampTok_pur ht]
            exact ih (i0 + 1) t true _ _ ht (by omega) (by omega) hA k1
    · repeat' ((first
        | refine purs_step hB rfl ?_
        | refine lt_tt hB (by decide) ?_
        | refine lt_ff hB (by decide) ?_
        | refine le_tt hB (by decide) ?_
        | refine le_ff hB (by decide) ?_
        | refine eq_tt hB (by decide) ?_
        | refine eq_ff hB (by decide) ?_
        | refine fint_wrp hB (by omega) (by omega) ?_
        | refine fint_step hB ?_
        | refine fbool_tt hB ?_
        | refine fbool_ff hB ?_
        | refine fbool_split hB (fun _ => ?_) (fun _ => ?_)
        | refine ftok_step hB ?_
        | refine frows_step hB ?_
        | refine fstr_step hB ?_
        | refine len_map hB ?_
        | refine len_step hB ?_
        | refine lens_step hB ?_
        | refine byte_step hB ?_
        | refine drop_step hB rfl ?_
        | refine fl_step hB rfl ?_
        | refine add_one hB (by first | omega | decide) ?_
        | refine opt_step hB rfl ?_
        | refine fnat_step hB ?_
        | refine ifk_step hB rfl ?_
        | refine ifk_step hB (flat_or rfl) ?_
        | refine opt2_step hB rfl ?_
        | refine obj_raw hB ?_
        | refine sob_raw hB ?_
        | refine fst_raw hB ?_
        | refine optl_raw hB ?_
        | refine tok_step hB rfl ?_
        ) <;> conv => lhs; whnf)
      have hi0 : i0 = d.ps.length := by omega
      subst hi0
      rw [clampTok_pur ht]
      exact k1 t found lo hh _ ht hacc
end Go.Ab.Cl

namespace Go.Ab.Cl
open Go.Ab

theorem can_true {d : Desk} (hc : d.check = true) {i : Nat} (hi : i < d.bs.length) {x : Int} (h : canB d (i : Int) x = true) : trueB d = true := by
  obtain ⟨l, hl, _⟩ := (can_iff hc hi).1 h
  exact (true_iff hc).2 ⟨l, hl⟩
theorem canO {d : Desk} (hc : d.check = true) {i : Nat} (hi : i < d.bs.length) (hs : 0 < d.strange) (tb : Tok) : canB d (i : Int) (-1) = (oddB d i && trueB (dO d i tb)) := by
  rw [Bool.eq_iff_iff, can_SK hc hi, Bool.and_eq_true, true_iff (dO_check hc hs)]
  constructor
  · rintro ⟨v, h⟩
    obtain ⟨h1, l, h2, _⟩ := (SK_O hi tb v).1 h
    exact ⟨h1, l, h2⟩
  · rintro ⟨h1, l, h2⟩
    exact ⟨_, (SK_O hi tb _).2 ⟨h1, l, h2, rfl⟩⟩
theorem canO_no {d : Desk} (hc : d.check = true) {i : Nat} (hi : i < d.bs.length) (h : ¬ (oddB d i = true ∧ 0 < d.strange)) : canB d (i : Int) (-1) = false := by
  cases hcan : canB d (i : Int) (-1)
  · rfl
  · exfalso
    obtain ⟨v, hv⟩ := (can_SK hc hi).1 hcan
    obtain ⟨h1, l, h2, _⟩ := (SK_O hi .any v).1 hv
    have h3 := h2.few
    have h4 : (dO d i .any).strange = d.strange - 1 := rfl
    exact h ⟨h1, by omega⟩
theorem which_can {d : Desk} (hc : d.check = true) {i : Nat} (hi : i < d.bs.length) {zi : Int} (hzi : zi = (i : Int)) (k : Nat) (hk : k < d.ps.length) : (k : Int) ∈ whichL d zi ↔ canB d (i : Int) (k : Int) = true := by
  have hw : within zi 0 ((d.bs.length : Int) - 1) = true := by simp [within]; omega
  have e1 : whichE d zi = askE d true := by rw [whichE, hw]
  unfold whichL
  rw [e1]
  cases ht : trueB d
  · have a1 : askE d true = 92 := by simp [askE, hc, ht]
    rw [a1, if_neg (by decide)]
    constructor
    · intro h; cases h
    · intro h
      have := can_true hc hi h
      rw [ht] at this; cases this
  · have a1 : askE d true = 0 := by simp [askE, hc, ht]
    rw [a1, if_pos rfl, whichFrom_mem, hzi]
    constructor
    · rintro ⟨n, h1, h2, h3⟩
      have : k = n := by omega
      rw [this]; exact h3
    · intro h; exact ⟨k, rfl, hk, h⟩
theorem eq2_ok {a b c d : Int} (h1 : a = c) (h2 : b = d) : (eqK (.agg [.int, .int]) (.agg [.int .i64 a, .int .i64 b]) (.agg [.int .i64 c, .int .i64 d])).map (fun t => AV.bool (if false = true then !t else t)) = some (.bool true) := by
  subst h1 h2
  simp [eqK, eqL, eqS]

set_option maxHeartbeats 20000000 in
theorem law_each (d : Desk) (hd : d.ok) (n0 : Int) : (evKR Bk Gx fsT 2000000000000000).1 0 8 [d.v, .int .i64 n0] [] ansK = some (.bool true, []) := by
  refine call_open (show fsT.find 8 = some a8 from rfl) (by omega) fun n B cl rd hn' hB hcl hrd => ?_
  have hn : n = 1999999999999999 := by omega
  have H21 : cl 0 21 [] [] ansK = some (.bool true, []) := by rw [hcl, hn]; exact works_ev
  have H35 := sound_ev (G := Gx) (n := n) d hd (by omega)
  rw [← hcl] at H35
  cases hck : d.check
  · rw [hck] at H35
    conv => lhs; whnf
    repeat' ((first
      | refine tok_step hB hd.tp ?_
      | refine tok_step hB hd.tb ?_
      | refine purs_step hB (by simp [purs, pur, hd.tp, hd.tb]) ?_
      | refine pans_step hB H35 ?_
      | refine pans_step hB H21 ?_
      | refine purs_step hB rfl ?_
      | refine lt_tt hB (by decide) ?_
      | refine lt_ff hB (by decide) ?_
      | refine le_tt hB (by decide) ?_
      | refine le_ff hB (by decide) ?_
      | refine eq_tt hB (by decide) ?_
      | refine eq_ff hB (by decide) ?_
      | refine fint_wrp hB (by omega) (by omega) ?_
      | refine fint_step hB ?_
      | refine fbool_tt hB ?_
      | refine fbool_ff hB ?_
      | refine fbool_split hB (fun _ => ?_) (fun _ => ?_)
      | refine ftok_step hB ?_
      | refine frows_step hB ?_
      | refine fstr_step hB ?_
      | refine len_map hB ?_
      | refine len_step hB ?_
      | refine lens_step hB ?_
      | refine byte_step hB ?_
      | refine drop_step hB rfl ?_
      | refine fl_step hB rfl ?_
      | refine add_one hB (by first | omega | decide) ?_
      | refine opt_step hB rfl ?_
      | refine fnat_step hB ?_
      | refine ifk_step hB rfl ?_
      | refine ifk_step hB (flat_or rfl) ?_
      | refine opt2_step hB rfl ?_
      | refine obj_raw hB ?_
      | refine sob_raw hB ?_
      | refine fst_raw hB ?_
      | refine optl_raw hB ?_
      | refine tok_step hB rfl ?_
      ) <;> conv => lhs; whnf)
    all_goals rfl
  rw [hck] at H35
  by_cases hb0 : d.bs.length = 0
  · conv => lhs; whnf
    repeat' ((first
      | refine tok_step hB hd.tp ?_
      | refine tok_step hB hd.tb ?_
      | refine purs_step hB (by simp [purs, pur, hd.tp, hd.tb]) ?_
      | refine pans_step hB H35 ?_
      | refine pans_step hB H21 ?_
      | refine eq_tt hB (by simp only [Int.ofNat_eq_natCast]; omega) ?_
      | refine purs_step hB rfl ?_
      | refine lt_tt hB (by decide) ?_
      | refine lt_ff hB (by decide) ?_
      | refine le_tt hB (by decide) ?_
      | refine le_ff hB (by decide) ?_
      | refine eq_tt hB (by decide) ?_
      | refine eq_ff hB (by decide) ?_
      | refine fint_wrp hB (by omega) (by omega) ?_
      | refine fint_step hB ?_
      | refine fbool_tt hB ?_
      | refine fbool_ff hB ?_
      | refine fbool_split hB (fun _ => ?_) (fun _ => ?_)
      | refine ftok_step hB ?_
      | refine frows_step hB ?_
      | refine fstr_step hB ?_
      | refine len_map hB ?_
      | refine len_step hB ?_
      | refine lens_step hB ?_
      | refine byte_step hB ?_
      | refine drop_step hB rfl ?_
      | refine fl_step hB rfl ?_
      | refine add_one hB (by first | omega | decide) ?_
      | refine opt_step hB rfl ?_
      | refine fnat_step hB ?_
      | refine ifk_step hB rfl ?_
      | refine ifk_step hB (flat_or rfl) ?_
      | refine opt2_step hB rfl ?_
      | refine obj_raw hB ?_
      | refine sob_raw hB ?_
      | refine fst_raw hB ?_
      | refine optl_raw hB ?_
      | refine tok_step hB rfl ?_
      ) <;> conv => lhs; whnf)
    all_goals rfl
  have hf := check_fine hck
  have hnb := hf.nb
  have hnp := hf.np
  have hst := check_strange hck
  obtain ⟨h0, h1⟩ := spin_in (n := n0) (many := (d.bs.length : Int)) (by omega)
  obtain ⟨i, hi⟩ : ∃ i : Nat, spin n0 (d.bs.length : Int) = (i : Int) := ⟨(spin n0 d.bs.length).toNat, by omega⟩
  have hil : i < d.bs.length := by omega
  obtain ⟨b, hb⟩ : ∃ b, d.bs[i]? = some b := ⟨d.bs[i], by simp [hil]⟩
  obtain ⟨zi, hzi⟩ : ∃ zi : Int, zi = (i : Int) := ⟨_, rfl⟩
  have HS := Spin_ev (G := Gx) (n := n) (by omega) n0 (.ofNat d.bs.length) (by simp only [Int.ofNat_eq_natCast]; omega)
  rw [show spin n0 (.ofNat d.bs.length) = zi by rw [hzi]; exact hi] at HS
  have H22 := Which_ev (n := n) (by omega) d hd zi
  have H25 := Told_ev (n := n) (by omega) d hd zi
  have H29 := fun (d : Desk) (hd : d.ok) => Worth_ev (n := n) (by omega) d hd
  have H29d := H29 d hd
  have HTo := fun a b => To_ev (n := n) (by omega) a b
  have H45 := strange_ev (n := n) (by omega) d hd (d.strange - 1)
  have hdS : (dS d (d.strange - 1)).ok := dS_ok hd _
  obtain ⟨tb, htb, H44o⟩ := less_ev (n := n) (by omega) (dS d (d.strange - 1)) hdS hnb hnp i hil (zi := zi) hzi
  have HdO : (dO d i tb).ok := lessB_ok hdS htb
  have H29o := H29 (dO d i tb) HdO
  have hLB : (lessB (dS d (d.strange - 1)) i tb).ok := HdO
  have H13 : ∀ (k : Nat) (b : Box) (p : Parcel), d.bs[i]? = some b → d.ps[k]? = some p → (evKR Bk Gx fsT n).1 0 13 [d.v, .int .i64 zi, .int .i64 (k : Int)] [] ansK = some (.tup [.bool (couldB d b p), .int .i64 0], []) := by
    intro k b p hb hp
    have := Could_ev (n := n) d hd zi (k : Int) (by omega)
    rw [couldR_in hck hb hp hzi rfl] at this
    exact this
  have H44 : ∀ (k : Nat), k < d.ps.length → ∃ tb tp, purTok tb = true ∧ purTok tp = true ∧ (evKR Bk Gx fsT n).1 0 44 [d.v, .int .i64 zi, .int .i64 (k : Int)] [] ansK = some ((dK d i k tb tp).v, []) :=
    fun k hk => lessk_ev (n := n) (by omega) d hd hnb hnp i k hil hk hzi rfl
  have hlenL : (whichL d zi).length ≤ 1000 := by
    unfold whichL
    split
    · unfold whichFrom
      rw [List.length_map]
      refine Nat.le_trans (List.length_filter_le ..) ?_
      simp; omega
    · simp
  have H39 : ∀ (t : Tok), purTok t = true → ∀ z : Int, (evKR Bk Gx fsT n).1 0 39 [.sl (rowsI (whichL d zi)) t, .int .i64 z] [] ansK = some (.int .i64 (placeI (whichL d zi) z 0), []) :=
    fun t ht z => Place_ev (n := n) (by omega) (whichL d zi) (by omega) ht z
  rw [← hcl] at HS H22 H25 H29 H29d HTo H45 H44o H29o H13 H44 H39
  have hw : within zi 0 ((d.bs.length : Int) - 1) = true := by simp [within]; omega
  have e1 : whichE d zi = askE d true := by rw [whichE, hw]
  have e2 : toldE d zi = askE d true := e1
  rw [e1] at H22
  rw [e2] at H25
  have HL := which_can hck hil hzi
  have hodd : oddB d i = !b.stamp := by simp [oddB, hb]
  have hxb : (d.bs.map Box.c)[i]? = some b.c := by simp [hb]
  have hWd := Acc_worth hck
  cases htr : trueB d
  · have a1 : askE d true = 92 := by simp [askE, hck, htr]
    have hL : whichL d zi = [] := by unfold whichL; rw [e1, a1]; rfl
    have hv : toldV d zi = 0 := by unfold toldV; rw [e1, a1]; rfl
    rw [a1] at H22 H25 H29d
    rw [hv] at H25
    rw [htr] at hWd
    obtain ⟨w1, w2⟩ : worthLo d = 0 ∧ worthHi d = 0 := by simp [worthLo, worthHi, a1]
    rw [w1, w2] at H29d
    conv => lhs; whnf
    repeat' ((first
      | refine fnat_pred hB ?_
      | refine tok_step hB hd.tp ?_
      | refine tok_step hB hd.tb ?_
      | refine tok_step hB (wtok_pur _) ?_
      | refine purs_step hB (by simp [purs, pur, hd.tp, hd.tb]) ?_
      | refine pans_step hB H35 ?_
      | refine pans_step hB HS ?_
      | refine pans_step hB H22 ?_
      | refine pans_step hB H25 ?_
      | refine pans_step hB H29d ?_
      | refine pans_step hB (HTo _ _) ?_
      | refine eq_tt hB (by decide) ?_
      | refine eq_ff hB (by decide) ?_
      | refine eq_ff hB (by simp only [Int.ofNat_eq_natCast]; omega) ?_
      | refine a8_L1_step hB d hd hck i hil hzi (whichL d zi) H13 H44 H29 H39 HTo HL _ _ _ _ _ _ _ _ 0 _ false 0 0 (purTok_clamp (wtok_pur _)) (by omega) (by omega) (.inl ⟨rfl, rfl, rfl, fun v ⟨k, hk, _⟩ => by omega⟩) (fun t found lo hh x ht hA => ?_)
      | refine purs_step hB rfl ?_
      | refine lt_tt hB (by decide) ?_
      | refine lt_ff hB (by decide) ?_
      | refine le_tt hB (by decide) ?_
      | refine le_ff hB (by decide) ?_
      | refine eq_tt hB (by decide) ?_
      | refine eq_ff hB (by decide) ?_
      | refine fint_wrp hB (by omega) (by omega) ?_
      | refine fint_step hB ?_
      | refine fbool_tt hB ?_
      | refine fbool_ff hB ?_
      | refine fbool_split hB (fun _ => ?_) (fun _ => ?_)
      | refine ftok_step hB ?_
      | refine frows_step hB ?_
      | refine fstr_step hB ?_
      | refine len_map hB ?_
      | refine len_step hB ?_
      | refine lens_step hB ?_
      | refine byte_step hB ?_
      | refine drop_step hB rfl ?_
      | refine fl_step hB rfl ?_
      | refine add_one hB (by first | omega | decide) ?_
      | refine opt_step hB rfl ?_
      | refine fnat_step hB ?_
      | refine ifk_step hB rfl ?_
      | refine ifk_step hB (flat_or rfl) ?_
      | refine opt2_step hB rfl ?_
      | refine obj_raw hB ?_
      | refine sob_raw hB ?_
      | refine fst_raw hB ?_
      | refine optl_raw hB ?_
      | refine tok_step hB rfl ?_
      ) <;> conv => lhs; whnf)
    have hf1 : found = false := by
      cases found
      · rfl
      · exfalso
        rcases hA with ⟨h, _⟩ | ⟨_, ⟨k, _, l, hl, _⟩, _⟩
        · cases h
        · have := (true_iff hck).2 ⟨l, hl⟩
          rw [htr] at this; cases this
    subst hf1
    obtain ⟨rfl, rfl⟩ : lo = 0 ∧ hh = 0 := by
      rcases hA with ⟨_, h1, h2, _⟩ | ⟨h, _⟩
      · exact ⟨h1, h2⟩
      · cases h
    rw [hL] at *
    rcases b with ⟨b1, b2, b3, b4, b5⟩
    cases b5
    · by_cases hs : 0 < d.strange
      · have ho : trueB (dO d i tb) = false := by
          have := canO hck hil hs tb
          rw [hodd] at this
          cases h : trueB (dO d i tb)
          · rfl
          · rw [h] at this
            have := can_true hck hil this
            rw [htr] at this; cases this
        have a3 : askE (dO d i tb) true = 92 := by simp [askE, dO_check hck hs, ho]
        rw [a3] at H29o
        repeat' ((first
          | refine fnat_pred hB ?_
          | refine tok_step hB hd.tp ?_
          | refine tok_step hB hd.tb ?_
          | refine tok_step hB HdO.tb ?_
          | refine tok_step hB HdO.tp ?_
          | refine tok_step hB ht ?_
          | refine purs_step hB (by simp [purs, pur, hd.tp, hd.tb, hdS.tp, hdS.tb, hLB.tp, hLB.tb, ht]) ?_
          | refine pans_step hB H45 ?_
          | refine pans_step hB H44o ?_
          | refine pans_step hB H29o ?_
          | refine pans_step hB (HTo _ _) ?_
          | refine pans_step hB H21 ?_
          | refine natOf_step hB hzi ?_
          | refine nth_step hB hxb ?_
          | refine eq_tt hB (by decide) ?_
          | refine eq_ff hB (by decide) ?_
          | refine sub_step hB (by omega) (by omega) ?_
          | refine opt2_step hB (mn_ok rfl rfl) ?_
          | refine opt2_step hB (mx_ok rfl rfl) ?_
          | refine lt_tt hB hs ?_
          | refine opt_step hB (eq2_ok rfl rfl) ?_
          | refine purs_step hB rfl ?_
          | refine lt_tt hB (by decide) ?_
          | refine lt_ff hB (by decide) ?_
          | refine le_tt hB (by decide) ?_
          | refine le_ff hB (by decide) ?_
          | refine eq_tt hB (by decide) ?_
          | refine eq_ff hB (by decide) ?_
          | refine fint_wrp hB (by omega) (by omega) ?_
          | refine fint_step hB ?_
          | refine fbool_tt hB ?_
          | refine fbool_ff hB ?_
          | refine fbool_split hB (fun _ => ?_) (fun _ => ?_)
          | refine ftok_step hB ?_
          | refine frows_step hB ?_
          | refine fstr_step hB ?_
          | refine len_map hB ?_
          | refine len_step hB ?_
          | refine lens_step hB ?_
          | refine byte_step hB ?_
          | refine drop_step hB rfl ?_
          | refine fl_step hB rfl ?_
          | refine add_one hB (by first | omega | decide) ?_
          | refine opt_step hB rfl ?_
          | refine fnat_step hB ?_
          | refine ifk_step hB rfl ?_
          | refine ifk_step hB (flat_or rfl) ?_
          | refine opt2_step hB rfl ?_
          | refine obj_raw hB ?_
          | refine sob_raw hB ?_
          | refine fst_raw hB ?_
          | refine optl_raw hB ?_
          | refine tok_step hB rfl ?_
          ) <;> conv => lhs; whnf)
        all_goals rfl
      · repeat' ((first
          | refine fnat_pred hB ?_
          | refine tok_step hB hd.tp ?_
          | refine tok_step hB hd.tb ?_
          | refine tok_step hB HdO.tb ?_
          | refine tok_step hB HdO.tp ?_
          | refine tok_step hB ht ?_
          | refine purs_step hB (by simp [purs, pur, hd.tp, hd.tb, hdS.tp, hdS.tb, hLB.tp, hLB.tb, ht]) ?_
          | refine pans_step hB H45 ?_
          | refine pans_step hB H44o ?_
          | refine pans_step hB H29o ?_
          | refine pans_step hB (HTo _ _) ?_
          | refine pans_step hB H21 ?_
          | refine natOf_step hB hzi ?_
          | refine nth_step hB hxb ?_
          | refine eq_tt hB (by decide) ?_
          | refine eq_ff hB (by decide) ?_
          | refine sub_step hB (by omega) (by omega) ?_
          | refine opt2_step hB (mn_ok rfl rfl) ?_
          | refine opt2_step hB (mx_ok rfl rfl) ?_
          | refine lt_ff hB hs ?_
          | refine opt_step hB (eq2_ok rfl rfl) ?_
          | refine purs_step hB rfl ?_
          | refine lt_tt hB (by decide) ?_
          | refine lt_ff hB (by decide) ?_
          | refine le_tt hB (by decide) ?_
          | refine le_ff hB (by decide) ?_
          | refine eq_tt hB (by decide) ?_
          | refine eq_ff hB (by decide) ?_
          | refine fint_wrp hB (by omega) (by omega) ?_
          | refine fint_step hB ?_
          | refine fbool_tt hB ?_
          | refine fbool_ff hB ?_
          | refine fbool_split hB (fun _ => ?_) (fun _ => ?_)
          | refine ftok_step hB ?_
          | refine frows_step hB ?_
          | refine fstr_step hB ?_
          | refine len_map hB ?_
          | refine len_step hB ?_
          | refine lens_step hB ?_
          | refine byte_step hB ?_
          | refine drop_step hB rfl ?_
          | refine fl_step hB rfl ?_
          | refine add_one hB (by first | omega | decide) ?_
          | refine opt_step hB rfl ?_
          | refine fnat_step hB ?_
          | refine ifk_step hB rfl ?_
          | refine ifk_step hB (flat_or rfl) ?_
          | refine opt2_step hB rfl ?_
          | refine obj_raw hB ?_
          | refine sob_raw hB ?_
          | refine fst_raw hB ?_
          | refine optl_raw hB ?_
          | refine tok_step hB rfl ?_
          ) <;> conv => lhs; whnf)
        all_goals rfl
    · repeat' ((first
        | refine fnat_pred hB ?_
        | refine tok_step hB hd.tp ?_
        | refine tok_step hB hd.tb ?_
        | refine tok_step hB HdO.tb ?_
        | refine tok_step hB HdO.tp ?_
        | refine tok_step hB ht ?_
        | refine purs_step hB (by simp [purs, pur, hd.tp, hd.tb, hdS.tp, hdS.tb, hLB.tp, hLB.tb, ht]) ?_
        | refine pans_step hB H45 ?_
        | refine pans_step hB H44o ?_
        | refine pans_step hB H29o ?_
        | refine pans_step hB (HTo _ _) ?_
        | refine pans_step hB H21 ?_
        | refine natOf_step hB hzi ?_
        | refine nth_step hB hxb ?_
        | refine eq_tt hB (by decide) ?_
        | refine eq_ff hB (by decide) ?_
        | refine sub_step hB (by omega) (by omega) ?_
        | refine opt2_step hB (mn_ok rfl rfl) ?_
        | refine opt2_step hB (mx_ok rfl rfl) ?_
        | refine opt_step hB (eq2_ok rfl rfl) ?_
        | refine purs_step hB rfl ?_
        | refine lt_tt hB (by decide) ?_
        | refine lt_ff hB (by decide) ?_
        | refine le_tt hB (by decide) ?_
        | refine le_ff hB (by decide) ?_
        | refine eq_tt hB (by decide) ?_
        | refine eq_ff hB (by decide) ?_
        | refine fint_wrp hB (by omega) (by omega) ?_
        | refine fint_step hB ?_
        | refine fbool_tt hB ?_
        | refine fbool_ff hB ?_
        | refine fbool_split hB (fun _ => ?_) (fun _ => ?_)
        | refine ftok_step hB ?_
        | refine frows_step hB ?_
        | refine fstr_step hB ?_
        | refine len_map hB ?_
        | refine len_step hB ?_
        | refine lens_step hB ?_
        | refine byte_step hB ?_
        | refine drop_step hB rfl ?_
        | refine fl_step hB rfl ?_
        | refine add_one hB (by first | omega | decide) ?_
        | refine opt_step hB rfl ?_
        | refine fnat_step hB ?_
        | refine ifk_step hB rfl ?_
        | refine ifk_step hB (flat_or rfl) ?_
        | refine opt2_step hB rfl ?_
        | refine obj_raw hB ?_
        | refine sob_raw hB ?_
        | refine fst_raw hB ?_
        | refine optl_raw hB ?_
        | refine tok_step hB rfl ?_
        ) <;> conv => lhs; whnf)
      all_goals rfl
  · have a1 : askE d true = 0 := by simp [askE, hck, htr]
    rw [a1] at H22 H25 H29d
    rw [htr] at hWd
    conv => lhs; whnf
    repeat' ((first
      | refine fnat_pred hB ?_
      | refine tok_step hB hd.tp ?_
      | refine tok_step hB hd.tb ?_
      | refine tok_step hB (wtok_pur _) ?_
      | refine purs_step hB (by simp [purs, pur, hd.tp, hd.tb]) ?_
      | refine pans_step hB H35 ?_
      | refine pans_step hB HS ?_
      | refine pans_step hB H22 ?_
      | refine pans_step hB H25 ?_
      | refine pans_step hB H29d ?_
      | refine pans_step hB (HTo _ _) ?_
      | refine eq_tt hB (by decide) ?_
      | refine eq_ff hB (by decide) ?_
      | refine eq_ff hB (by simp only [Int.ofNat_eq_natCast]; omega) ?_
      | refine a8_L1_step hB d hd hck i hil hzi (whichL d zi) H13 H44 H29 H39 HTo HL _ _ _ _ _ _ _ _ 0 _ false 0 0 (purTok_clamp (wtok_pur _)) (by omega) (by omega) (.inl ⟨rfl, rfl, rfl, fun v ⟨k, hk, _⟩ => by omega⟩) (fun t found lo hh x ht hA => ?_)
      | refine purs_step hB rfl ?_
      | refine lt_tt hB (by decide) ?_
      | refine lt_ff hB (by decide) ?_
      | refine le_tt hB (by decide) ?_
      | refine le_ff hB (by decide) ?_
      | refine eq_tt hB (by decide) ?_
      | refine eq_ff hB (by decide) ?_
      | refine fint_wrp hB (by omega) (by omega) ?_
      | refine fint_step hB ?_
      | refine fbool_tt hB ?_
      | refine fbool_ff hB ?_
      | refine fbool_split hB (fun _ => ?_) (fun _ => ?_)
      | refine ftok_step hB ?_
      | refine frows_step hB ?_
      | refine fstr_step hB ?_
      | refine len_map hB ?_
      | refine len_step hB ?_
      | refine lens_step hB ?_
      | refine byte_step hB ?_
      | refine drop_step hB rfl ?_
      | refine fl_step hB rfl ?_
      | refine add_one hB (by first | omega | decide) ?_
      | refine opt_step hB rfl ?_
      | refine fnat_step hB ?_
      | refine ifk_step hB rfl ?_
      | refine ifk_step hB (flat_or rfl) ?_
      | refine opt2_step hB rfl ?_
      | refine obj_raw hB ?_
      | refine sob_raw hB ?_
      | refine fst_raw hB ?_
      | refine optl_raw hB ?_
      | refine tok_step hB rfl ?_
      ) <;> conv => lhs; whnf)
    have hfw : found = true ↔ ¬ (whichL d zi).length = 0 := by
      constructor
      · intro hft
        rcases hA with ⟨h, _⟩ | ⟨_, ⟨k, hk, hv⟩, _⟩
        · rw [hft] at h; cases h
        · have := (HL k hk).2 ((can_SK hck hil).2 ⟨_, hv⟩)
          intro h0
          rw [List.length_eq_zero_iff.1 h0] at this
          cases this
      · intro hne
        rcases hA with ⟨h, _, _, h4⟩ | ⟨h, _⟩
        · exfalso
          refine hne (List.length_eq_zero_iff.2 (List.eq_nil_iff_forall_not_mem.2 fun x hx => ?_))
          have hx2 := hx
          unfold whichL at hx2
          rw [e1, a1, if_pos rfl] at hx2
          obtain ⟨k, rfl, hk, _⟩ := whichFrom_mem.1 hx2
          obtain ⟨v, hv⟩ := (can_SK hck hil).1 ((HL k hk).1 hx)
          exact h4 v ⟨k, hk, hv⟩
        · exact h
    have hkind : toldV d zi = if found = true then (if canB d (i : Int) (-1) = true then 2 else 1) else 0 := by
      unfold toldV
      rw [e1, a1, if_pos rfl, hzi]
      rw [hzi] at hfw
      cases found
      · have : (whichL d (i : Int)).length = 0 := by
          by_cases h : (whichL d (i : Int)).length = 0
          · exact h
          · exact absurd (hfw.2 h) (by simp)
        rw [if_pos this]; rfl
      · rw [if_neg (hfw.1 rfl)]; rfl
    have none_ : canB d (i : Int) (-1) = false → found = true ∧ worthLo d = lo ∧ worthHi d = hh := by
      intro hcan
      have hno : ∀ v, ¬ SK d i (-1) v := fun v hv => by
        have := (can_SK hck hil).2 ⟨v, hv⟩
        rw [hcan] at this; cases this
      obtain ⟨q1, q2, q3⟩ := Acc_same hWd (Acc_congr (Acc_skip hA hno) (fun v => (all_SK hil v).symm))
      exact ⟨q1.symm, q2, q3⟩
    have some_ : 0 < d.strange → oddB d i = true → trueB (dO d i tb) = true → canB d (i : Int) (-1) = true ∧ worthLo d = loI (if found = true then lo else worthLo (dO d i tb)) (worthLo (dO d i tb)) ∧ worthHi d = hiI (if found = true then hh else worthHi (dO d i tb)) (worthHi (dO d i tb)) := by
      intro hs ho ht2
      refine ⟨by rw [canO hck hil hs tb, ho, ht2]; rfl, ?_⟩
      obtain ⟨⟨l1, q1, q2⟩, ⟨l2, q3, q4⟩, q5⟩ := worth_spec (dO_check hck hs) ht2
      obtain ⟨_, p2, p3⟩ := Acc_same hWd (Acc_congr (Acc_more hA (T := fun v => SK d i (-1) v) ((SK_O hil tb _).2 ⟨ho, l1, q1, q2⟩) ((SK_O hil tb _).2 ⟨ho, l2, q3, q4⟩)
        (fun v hv => by
          obtain ⟨_, l, q6, q7⟩ := (SK_O hil tb v).1 hv
          rw [q7]; exact q5 l q6)) (fun v => (all_SK hil v).symm))
      exact ⟨p2, p3⟩
    clear hfw hA hWd HL
    rcases b with ⟨b1, b2, b3, b4, b5⟩
    cases b5
    · by_cases hs : 0 < d.strange
      · cases hto : trueB (dO d i tb)
        · have hcan : canB d (i : Int) (-1) = false := by rw [canO hck hil hs tb, hto]; simp
          obtain ⟨rfl, g1, g2⟩ := none_ hcan
          rw [hcan] at hkind
          have hkind : toldV d zi = 1 := hkind
          have a3 : askE (dO d i tb) true = 92 := by simp [askE, dO_check hck hs, hto]
          rw [a3] at H29o
          repeat' ((first
            | refine fnat_pred hB ?_
            | refine tok_step hB hd.tp ?_
            | refine tok_step hB hd.tb ?_
            | refine tok_step hB HdO.tb ?_
            | refine tok_step hB HdO.tp ?_
            | refine tok_step hB ht ?_
            | refine purs_step hB (by simp [purs, pur, hd.tp, hd.tb, hdS.tp, hdS.tb, hLB.tp, hLB.tb, ht]) ?_
            | refine pans_step hB H45 ?_
            | refine pans_step hB H44o ?_
            | refine pans_step hB H29o ?_
            | refine pans_step hB (HTo _ _) ?_
            | refine pans_step hB H21 ?_
            | refine natOf_step hB hzi ?_
            | refine nth_step hB hxb ?_
            | refine eq_tt hB (by decide) ?_
            | refine eq_ff hB (by decide) ?_
            | refine sub_step hB (by omega) (by omega) ?_
            | refine opt2_step hB (mn_ok rfl rfl) ?_
            | refine opt2_step hB (mx_ok rfl rfl) ?_
            | refine lt_tt hB hs ?_
            | refine opt_step hB (eq2_ok g1 g2) ?_
            | refine eq_tt hB hkind ?_
            | refine purs_step hB rfl ?_
            | refine lt_tt hB (by decide) ?_
            | refine lt_ff hB (by decide) ?_
            | refine le_tt hB (by decide) ?_
            | refine le_ff hB (by decide) ?_
            | refine eq_tt hB (by decide) ?_
            | refine eq_ff hB (by decide) ?_
            | refine fint_wrp hB (by omega) (by omega) ?_
            | refine fint_step hB ?_
            | refine fbool_tt hB ?_
            | refine fbool_ff hB ?_
            | refine fbool_split hB (fun _ => ?_) (fun _ => ?_)
            | refine ftok_step hB ?_
            | refine frows_step hB ?_
            | refine fstr_step hB ?_
            | refine len_map hB ?_
            | refine len_step hB ?_
            | refine lens_step hB ?_
            | refine byte_step hB ?_
            | refine drop_step hB rfl ?_
            | refine fl_step hB rfl ?_
            | refine add_one hB (by first | omega | decide) ?_
            | refine opt_step hB rfl ?_
            | refine fnat_step hB ?_
            | refine ifk_step hB rfl ?_
            | refine ifk_step hB (flat_or rfl) ?_
            | refine opt2_step hB rfl ?_
            | refine obj_raw hB ?_
            | refine sob_raw hB ?_
            | refine fst_raw hB ?_
            | refine optl_raw hB ?_
            | refine tok_step hB rfl ?_
            ) <;> conv => lhs; whnf)
          all_goals rfl
        · have a3 : askE (dO d i tb) true = 0 := by simp [askE, dO_check hck hs, hto]
          rw [a3] at H29o
          obtain ⟨hcan, g1, g2⟩ := some_ hs hodd hto
          rw [hcan] at hkind
          cases found
          · have hkind : toldV d zi = 0 := hkind
            repeat' ((first
              | refine fnat_pred hB ?_
              | refine tok_step hB hd.tp ?_
              | refine tok_step hB hd.tb ?_
              | refine tok_step hB HdO.tb ?_
              | refine tok_step hB HdO.tp ?_
              | refine tok_step hB ht ?_
              | refine purs_step hB (by simp [purs, pur, hd.tp, hd.tb, hdS.tp, hdS.tb, hLB.tp, hLB.tb, ht]) ?_
              | refine pans_step hB H45 ?_
              | refine pans_step hB H44o ?_
              | refine pans_step hB H29o ?_
              | refine pans_step hB (HTo _ _) ?_
              | refine pans_step hB H21 ?_
              | refine natOf_step hB hzi ?_
              | refine nth_step hB hxb ?_
              | refine eq_tt hB (by decide) ?_
              | refine eq_ff hB (by decide) ?_
              | refine sub_step hB (by omega) (by omega) ?_
              | refine opt2_step hB (mn_ok rfl rfl) ?_
              | refine opt2_step hB (mx_ok rfl rfl) ?_
              | refine lt_tt hB hs ?_
              | refine opt_step hB (eq2_ok g1 g2) ?_
              | refine eq_tt hB hkind ?_
              | refine purs_step hB rfl ?_
              | refine lt_tt hB (by decide) ?_
              | refine lt_ff hB (by decide) ?_
              | refine le_tt hB (by decide) ?_
              | refine le_ff hB (by decide) ?_
              | refine eq_tt hB (by decide) ?_
              | refine eq_ff hB (by decide) ?_
              | refine fint_wrp hB (by omega) (by omega) ?_
              | refine fint_step hB ?_
              | refine fbool_tt hB ?_
              | refine fbool_ff hB ?_
              | refine fbool_split hB (fun _ => ?_) (fun _ => ?_)
              | refine ftok_step hB ?_
              | refine frows_step hB ?_
              | refine fstr_step hB ?_
              | refine len_map hB ?_
              | refine len_step hB ?_
              | refine lens_step hB ?_
              | refine byte_step hB ?_
              | refine drop_step hB rfl ?_
              | refine fl_step hB rfl ?_
              | refine add_one hB (by first | omega | decide) ?_
              | refine opt_step hB rfl ?_
              | refine fnat_step hB ?_
              | refine ifk_step hB rfl ?_
              | refine ifk_step hB (flat_or rfl) ?_
              | refine opt2_step hB rfl ?_
              | refine obj_raw hB ?_
              | refine sob_raw hB ?_
              | refine fst_raw hB ?_
              | refine optl_raw hB ?_
              | refine tok_step hB rfl ?_
              ) <;> conv => lhs; whnf)
            all_goals rfl
          · have hkind : toldV d zi = 2 := hkind
            repeat' ((first
              | refine fnat_pred hB ?_
              | refine tok_step hB hd.tp ?_
              | refine tok_step hB hd.tb ?_
              | refine tok_step hB HdO.tb ?_
              | refine tok_step hB HdO.tp ?_
              | refine tok_step hB ht ?_
              | refine purs_step hB (by simp [purs, pur, hd.tp, hd.tb, hdS.tp, hdS.tb, hLB.tp, hLB.tb, ht]) ?_
              | refine pans_step hB H45 ?_
              | refine pans_step hB H44o ?_
              | refine pans_step hB H29o ?_
              | refine pans_step hB (HTo _ _) ?_
              | refine pans_step hB H21 ?_
              | refine natOf_step hB hzi ?_
              | refine nth_step hB hxb ?_
              | refine eq_tt hB (by decide) ?_
              | refine eq_ff hB (by decide) ?_
              | refine sub_step hB (by omega) (by omega) ?_
              | refine opt2_step hB (mn_ok rfl rfl) ?_
              | refine opt2_step hB (mx_ok rfl rfl) ?_
              | refine lt_tt hB hs ?_
              | refine opt_step hB (eq2_ok g1 g2) ?_
              | refine eq_tt hB hkind ?_
              | refine purs_step hB rfl ?_
              | refine lt_tt hB (by decide) ?_
              | refine lt_ff hB (by decide) ?_
              | refine le_tt hB (by decide) ?_
              | refine le_ff hB (by decide) ?_
              | refine eq_tt hB (by decide) ?_
              | refine eq_ff hB (by decide) ?_
              | refine fint_wrp hB (by omega) (by omega) ?_
              | refine fint_step hB ?_
              | refine fbool_tt hB ?_
              | refine fbool_ff hB ?_
              | refine fbool_split hB (fun _ => ?_) (fun _ => ?_)
              | refine ftok_step hB ?_
              | refine frows_step hB ?_
              | refine fstr_step hB ?_
              | refine len_map hB ?_
              | refine len_step hB ?_
              | refine lens_step hB ?_
              | refine byte_step hB ?_
              | refine drop_step hB rfl ?_
              | refine fl_step hB rfl ?_
              | refine add_one hB (by first | omega | decide) ?_
              | refine opt_step hB rfl ?_
              | refine fnat_step hB ?_
              | refine ifk_step hB rfl ?_
              | refine ifk_step hB (flat_or rfl) ?_
              | refine opt2_step hB rfl ?_
              | refine obj_raw hB ?_
              | refine sob_raw hB ?_
              | refine fst_raw hB ?_
              | refine optl_raw hB ?_
              | refine tok_step hB rfl ?_
              ) <;> conv => lhs; whnf)
            all_goals rfl
      · have hcan := canO_no hck hil (fun h => hs h.2)
        obtain ⟨rfl, g1, g2⟩ := none_ hcan
        rw [hcan] at hkind
        have hkind : toldV d zi = 1 := hkind
        repeat' ((first
          | refine fnat_pred hB ?_
          | refine tok_step hB hd.tp ?_
          | refine tok_step hB hd.tb ?_
          | refine tok_step hB HdO.tb ?_
          | refine tok_step hB HdO.tp ?_
          | refine tok_step hB ht ?_
          | refine purs_step hB (by simp [purs, pur, hd.tp, hd.tb, hdS.tp, hdS.tb, hLB.tp, hLB.tb, ht]) ?_
          | refine pans_step hB H45 ?_
          | refine pans_step hB H44o ?_
          | refine pans_step hB H29o ?_
          | refine pans_step hB (HTo _ _) ?_
          | refine pans_step hB H21 ?_
          | refine natOf_step hB hzi ?_
          | refine nth_step hB hxb ?_
          | refine eq_tt hB (by decide) ?_
          | refine eq_ff hB (by decide) ?_
          | refine sub_step hB (by omega) (by omega) ?_
          | refine opt2_step hB (mn_ok rfl rfl) ?_
          | refine opt2_step hB (mx_ok rfl rfl) ?_
          | refine lt_ff hB hs ?_
          | refine opt_step hB (eq2_ok g1 g2) ?_
          | refine eq_tt hB hkind ?_
          | refine purs_step hB rfl ?_
          | refine lt_tt hB (by decide) ?_
          | refine lt_ff hB (by decide) ?_
          | refine le_tt hB (by decide) ?_
          | refine le_ff hB (by decide) ?_
          | refine eq_tt hB (by decide) ?_
          | refine eq_ff hB (by decide) ?_
          | refine fint_wrp hB (by omega) (by omega) ?_
          | refine fint_step hB ?_
          | refine fbool_tt hB ?_
          | refine fbool_ff hB ?_
          | refine fbool_split hB (fun _ => ?_) (fun _ => ?_)
          | refine ftok_step hB ?_
          | refine frows_step hB ?_
          | refine fstr_step hB ?_
          | refine len_map hB ?_
          | refine len_step hB ?_
          | refine lens_step hB ?_
          | refine byte_step hB ?_
          | refine drop_step hB rfl ?_
          | refine fl_step hB rfl ?_
          | refine add_one hB (by first | omega | decide) ?_
          | refine opt_step hB rfl ?_
          | refine fnat_step hB ?_
          | refine ifk_step hB rfl ?_
          | refine ifk_step hB (flat_or rfl) ?_
          | refine opt2_step hB rfl ?_
          | refine obj_raw hB ?_
          | refine sob_raw hB ?_
          | refine fst_raw hB ?_
          | refine optl_raw hB ?_
          | refine tok_step hB rfl ?_
          ) <;> conv => lhs; whnf)
        all_goals rfl
    · have hcan := canO_no hck hil (fun h => by rw [hodd] at h; cases h.1)
      obtain ⟨rfl, g1, g2⟩ := none_ hcan
      rw [hcan] at hkind
      have hkind : toldV d zi = 1 := hkind
      repeat' ((first
        | refine fnat_pred hB ?_
        | refine tok_step hB hd.tp ?_
        | refine tok_step hB hd.tb ?_
        | refine tok_step hB HdO.tb ?_
        | refine tok_step hB HdO.tp ?_
        | refine tok_step hB ht ?_
        | refine purs_step hB (by simp [purs, pur, hd.tp, hd.tb, hdS.tp, hdS.tb, hLB.tp, hLB.tb, ht]) ?_
        | refine pans_step hB H45 ?_
        | refine pans_step hB H44o ?_
        | refine pans_step hB H29o ?_
        | refine pans_step hB (HTo _ _) ?_
        | refine pans_step hB H21 ?_
        | refine natOf_step hB hzi ?_
        | refine nth_step hB hxb ?_
        | refine eq_tt hB (by decide) ?_
        | refine eq_ff hB (by decide) ?_
        | refine sub_step hB (by omega) (by omega) ?_
        | refine opt2_step hB (mn_ok rfl rfl) ?_
        | refine opt2_step hB (mx_ok rfl rfl) ?_
        | refine opt_step hB (eq2_ok g1 g2) ?_
        | refine eq_tt hB hkind ?_
        | refine purs_step hB rfl ?_
        | refine lt_tt hB (by decide) ?_
        | refine lt_ff hB (by decide) ?_
        | refine le_tt hB (by decide) ?_
        | refine le_ff hB (by decide) ?_
        | refine eq_tt hB (by decide) ?_
        | refine eq_ff hB (by decide) ?_
        | refine fint_wrp hB (by omega) (by omega) ?_
        | refine fint_step hB ?_
        | refine fbool_tt hB ?_
        | refine fbool_ff hB ?_
        | refine fbool_split hB (fun _ => ?_) (fun _ => ?_)
        | refine ftok_step hB ?_
        | refine frows_step hB ?_
        | refine fstr_step hB ?_
        | refine len_map hB ?_
        | refine len_step hB ?_
        | refine lens_step hB ?_
        | refine byte_step hB ?_
        | refine drop_step hB rfl ?_
        | refine fl_step hB rfl ?_
        | refine add_one hB (by first | omega | decide) ?_
        | refine opt_step hB rfl ?_
        | refine fnat_step hB ?_
        | refine ifk_step hB rfl ?_
        | refine ifk_step hB (flat_or rfl) ?_
        | refine opt2_step hB rfl ?_
        | refine obj_raw hB ?_
        | refine sob_raw hB ?_
        | refine fst_raw hB ?_
        | refine optl_raw hB ?_
        | refine tok_step hB rfl ?_
        ) <;> conv => lhs; whnf)
      all_goals rfl
end Go.Ab.Cl
