/-
  The claims, the specification: Could, IsTruth.
-/
import Derived.Test.YthbekoofiienjaaDoorClFb
import Derived.Test.YthbekoofiienjaaDoorClI
namespace Go.Ab.Cl
open Go.Ab

theorem CouldF_ev {n : Nat} (d : Desk) (hd : d.ok) (i k : Int) (hn : 1000000000000100 ≤ n) :
    (evKR Bk Gx fsT n).1 0 14 [d.v, .int .i64 i, .int .i64 k] [] ansK = some (.tup [.bool (couldR d i k).1, .int .i64 (couldR d i k).2], []) := by
  refine call_open (show fsT.find 14 = some a14 from rfl) (by omega) fun n' B cl rd hn' hB hcl hrd => ?_
  have hps := hd.ps
  have hbs := hd.bs
  have H1 := Tween_ev (G := Gx) (n := n') (by omega) i 0 ((d.bs.length : Int) - 1)
  have H2 := Tween_ev (G := Gx) (n := n') (by omega) k 0 ((d.ps.length : Int) - 1)
  have H3 := fun ok => askedF_ev (n := n') (by omega) d hd ok
  rw [← hcl] at H1 H2 H3
  have GOs : True := trivial
  cases hck : d.check
  · have hR : couldR d i k = (false, 90) := by unfold couldR; rw [hck]; rfl
    rw [hR]
    cases h1 : within i 0 ((d.bs.length : Int) - 1) <;> cases h2 : within k 0 ((d.ps.length : Int) - 1)
    all_goals
      rw [h1] at H1
      rw [h2] at H2
      have H3 := H3 (within i 0 ((d.bs.length : Int) - 1) && within k 0 ((d.ps.length : Int) - 1))
      rw [hck, h1, h2] at H3
      conv => lhs; whnf
      repeat' ((first
        | refine fnat_pred hB ?_
        | refine tok_step hB hd.tp ?_
        | refine tok_step hB hd.tb ?_
        | refine purs_step hB (by simp [purs, pur, hd.tp, hd.tb]) ?_
        | refine sub_step hB (by first
        | omega
        | (simp only [Int.ofNat_eq_natCast]; omega)) (by first
        | omega
        | (simp only [Int.ofNat_eq_natCast]; omega)) ?_
        | refine pans_step hB H1 ?_
        | refine pans_step hB H2 ?_
        | refine pans_step hB H3 ?_
        | refine purs_step hB rfl ?_
        | refine lt_tt hB (by decide) ?_
        | refine lt_ff hB (by decide) ?_
        | refine le_tt hB (by decide) ?_
        | refine le_ff hB (by decide) ?_
        | refine eq_tt hB (by decide) ?_
        | refine eq_ff hB (by decide) ?_
        | refine fint_wrp hB (by omega) (by omega) ?_
        | refine fint_step hB ?_
        | refine fbool_tt hB ?_
        | refine fbool_ff hB ?_
        | refine fbool_split hB (fun _ => ?_) (fun _ => ?_)
        | refine ftok_step hB ?_
        | refine frows_step hB ?_
        | refine fstr_step hB ?_
        | refine len_map hB ?_
        | refine len_step hB ?_
        | refine lens_step hB ?_
        | refine byte_step hB ?_
        | refine drop_step hB rfl ?_
        | refine fl_step hB rfl ?_
        | refine add_one hB (by first | omega | decide) ?_
        | refine opt_step hB rfl ?_
        | refine fnat_step hB ?_
        | refine ifk_step hB rfl ?_
        | refine ifk_step hB (flat_or rfl) ?_
        | refine opt2_step hB rfl ?_
        | refine obj_raw hB ?_
        | refine sob_raw hB ?_
        | refine fst_raw hB ?_
        | refine optl_raw hB ?_
        | refine tok_step hB rfl ?_
        ) <;> conv => lhs; whnf)
    all_goals rfl
  · cases h1 : within i 0 ((d.bs.length : Int) - 1) <;> cases h2 : within k 0 ((d.ps.length : Int) - 1)
    all_goals
      rw [h1] at H1
      rw [h2] at H2
      have H3 := H3 (within i 0 ((d.bs.length : Int) - 1) && within k 0 ((d.ps.length : Int) - 1))
      rw [hck, h1, h2] at H3
    · have hR : couldR d i k = (false, 91) := by unfold couldR; rw [hck, h1]; rfl
      rw [hR]
      conv => lhs; whnf
      repeat' ((first
        | refine fnat_pred hB ?_
        | refine tok_step hB hd.tp ?_
        | refine tok_step hB hd.tb ?_
        | refine purs_step hB (by simp [purs, pur, hd.tp, hd.tb]) ?_
        | refine sub_step hB (by first
        | omega
        | (simp only [Int.ofNat_eq_natCast]; omega)) (by first
        | omega
        | (simp only [Int.ofNat_eq_natCast]; omega)) ?_
        | refine pans_step hB H1 ?_
        | refine pans_step hB H2 ?_
        | refine pans_step hB H3 ?_
        | refine purs_step hB rfl ?_
        | refine lt_tt hB (by decide) ?_
        | refine lt_ff hB (by decide) ?_
        | refine le_tt hB (by decide) ?_
        | refine le_ff hB (by decide) ?_
        | refine eq_tt hB (by decide) ?_
        | refine eq_ff hB (by decide) ?_
        | refine fint_wrp hB (by omega) (by omega) ?_
        | refine fint_step hB ?_
        | refine fbool_tt hB ?_
        | refine fbool_ff hB ?_
        | refine fbool_split hB (fun _ => ?_) (fun _ => ?_)
        | refine ftok_step hB ?_
        | refine frows_step hB ?_
        | refine fstr_step hB ?_
        | refine len_map hB ?_
        | refine len_step hB ?_
        | refine lens_step hB ?_
        | refine byte_step hB ?_
        | refine drop_step hB rfl ?_
        | refine fl_step hB rfl ?_
        | refine add_one hB (by first | omega | decide) ?_
        | refine opt_step hB rfl ?_
        | refine fnat_step hB ?_
        | refine ifk_step hB rfl ?_
        | refine ifk_step hB (flat_or rfl) ?_
        | refine opt2_step hB rfl ?_
        | refine obj_raw hB ?_
        | refine sob_raw hB ?_
        | refine fst_raw hB ?_
        | refine optl_raw hB ?_
        | refine tok_step hB rfl ?_
        ) <;> conv => lhs; whnf)
      all_goals rfl
    · have hR : couldR d i k = (false, 91) := by unfold couldR; rw [hck, h1]; rfl
      rw [hR]
      conv => lhs; whnf
      repeat' ((first
        | refine fnat_pred hB ?_
        | refine tok_step hB hd.tp ?_
        | refine tok_step hB hd.tb ?_
        | refine purs_step hB (by simp [purs, pur, hd.tp, hd.tb]) ?_
        | refine sub_step hB (by first
        | omega
        | (simp only [Int.ofNat_eq_natCast]; omega)) (by first
        | omega
        | (simp only [Int.ofNat_eq_natCast]; omega)) ?_
        | refine pans_step hB H1 ?_
        | refine pans_step hB H2 ?_
        | refine pans_step hB H3 ?_
        | refine purs_step hB rfl ?_
        | refine lt_tt hB (by decide) ?_
        | refine lt_ff hB (by decide) ?_
        | refine le_tt hB (by decide) ?_
        | refine le_ff hB (by decide) ?_
        | refine eq_tt hB (by decide) ?_
        | refine eq_ff hB (by decide) ?_
        | refine fint_wrp hB (by omega) (by omega) ?_
        | refine fint_step hB ?_
        | refine fbool_tt hB ?_
        | refine fbool_ff hB ?_
        | refine fbool_split hB (fun _ => ?_) (fun _ => ?_)
        | refine ftok_step hB ?_
        | refine frows_step hB ?_
        | refine fstr_step hB ?_
        | refine len_map hB ?_
        | refine len_step hB ?_
        | refine lens_step hB ?_
        | refine byte_step hB ?_
        | refine drop_step hB rfl ?_
        | refine fl_step hB rfl ?_
        | refine add_one hB (by first | omega | decide) ?_
        | refine opt_step hB rfl ?_
        | refine fnat_step hB ?_
        | refine ifk_step hB rfl ?_
        | refine ifk_step hB (flat_or rfl) ?_
        | refine opt2_step hB rfl ?_
        | refine obj_raw hB ?_
        | refine sob_raw hB ?_
        | refine fst_raw hB ?_
        | refine optl_raw hB ?_
        | refine tok_step hB rfl ?_
        ) <;> conv => lhs; whnf)
      all_goals rfl
    · have hR : couldR d i k = (false, 91) := by unfold couldR; rw [hck, h1, h2]; rfl
      rw [hR]
      conv => lhs; whnf
      repeat' ((first
        | refine fnat_pred hB ?_
        | refine tok_step hB hd.tp ?_
        | refine tok_step hB hd.tb ?_
        | refine purs_step hB (by simp [purs, pur, hd.tp, hd.tb]) ?_
        | refine sub_step hB (by first
        | omega
        | (simp only [Int.ofNat_eq_natCast]; omega)) (by first
        | omega
        | (simp only [Int.ofNat_eq_natCast]; omega)) ?_
        | refine pans_step hB H1 ?_
        | refine pans_step hB H2 ?_
        | refine pans_step hB H3 ?_
        | refine purs_step hB rfl ?_
        | refine lt_tt hB (by decide) ?_
        | refine lt_ff hB (by decide) ?_
        | refine le_tt hB (by decide) ?_
        | refine le_ff hB (by decide) ?_
        | refine eq_tt hB (by decide) ?_
        | refine eq_ff hB (by decide) ?_
        | refine fint_wrp hB (by omega) (by omega) ?_
        | refine fint_step hB ?_
        | refine fbool_tt hB ?_
        | refine fbool_ff hB ?_
        | refine fbool_split hB (fun _ => ?_) (fun _ => ?_)
        | refine ftok_step hB ?_
        | refine frows_step hB ?_
        | refine fstr_step hB ?_
        | refine len_map hB ?_
        | refine len_step hB ?_
        | refine lens_step hB ?_
        | refine byte_step hB ?_
        | refine drop_step hB rfl ?_
        | refine fl_step hB rfl ?_
        | refine add_one hB (by first | omega | decide) ?_
        | refine opt_step hB rfl ?_
        | refine fnat_step hB ?_
        | refine ifk_step hB rfl ?_
        | refine ifk_step hB (flat_or rfl) ?_
        | refine opt2_step hB rfl ?_
        | refine obj_raw hB ?_
        | refine sob_raw hB ?_
        | refine fst_raw hB ?_
        | refine optl_raw hB ?_
        | refine tok_step hB rfl ?_
        ) <;> conv => lhs; whnf)
      all_goals rfl
    · obtain ⟨i', hi, hil⟩ := within_nat h1
      obtain ⟨k', hk, hkl⟩ := within_nat h2
      obtain ⟨b, hb⟩ : ∃ b, d.bs[i']? = some b := ⟨d.bs[i'], by simp [hil]⟩
      obtain ⟨p, hp⟩ := meantRow d hkl
      have H56 := couldF_ev (n := n') d hd hck i' k' hi hk b p hb hp (by omega)
      rw [← hcl] at H56
      rw [couldR_in hck hb hp hi hk]
      conv => lhs; whnf
      repeat' ((first
        | refine fnat_pred hB ?_
        | refine tok_step hB hd.tp ?_
        | refine tok_step hB hd.tb ?_
        | refine purs_step hB (by simp [purs, pur, hd.tp, hd.tb]) ?_
        | refine sub_step hB (by first
        | omega
        | (simp only [Int.ofNat_eq_natCast]; omega)) (by first
        | omega
        | (simp only [Int.ofNat_eq_natCast]; omega)) ?_
        | refine pans_step hB H1 ?_
        | refine pans_step hB H2 ?_
        | refine pans_step hB H3 ?_
        | refine pans_step hB H56 ?_
        | refine purs_step hB rfl ?_
        | refine lt_tt hB (by decide) ?_
        | refine lt_ff hB (by decide) ?_
        | refine le_tt hB (by decide) ?_
        | refine le_ff hB (by decide) ?_
        | refine eq_tt hB (by decide) ?_
        | refine eq_ff hB (by decide) ?_
        | refine fint_wrp hB (by omega) (by omega) ?_
        | refine fint_step hB ?_
        | refine fbool_tt hB ?_
        | refine fbool_ff hB ?_
        | refine fbool_split hB (fun _ => ?_) (fun _ => ?_)
        | refine ftok_step hB ?_
        | refine frows_step hB ?_
        | refine fstr_step hB ?_
        | refine len_map hB ?_
        | refine len_step hB ?_
        | refine lens_step hB ?_
        | refine byte_step hB ?_
        | refine drop_step hB rfl ?_
        | refine fl_step hB rfl ?_
        | refine add_one hB (by first | omega | decide) ?_
        | refine opt_step hB rfl ?_
        | refine fnat_step hB ?_
        | refine ifk_step hB rfl ?_
        | refine ifk_step hB (flat_or rfl) ?_
        | refine opt2_step hB rfl ?_
        | refine obj_raw hB ?_
        | refine sob_raw hB ?_
        | refine fst_raw hB ?_
        | refine optl_raw hB ?_
        | refine tok_step hB rfl ?_
        ) <;> conv => lhs; whnf)
      all_goals rfl

theorem place_first {l : List Int} {z : Int} : ∀ {i : Nat} {s : Int}, l[i]? = some z → (placeI l z s = s + (i : Int) ↔ z ∉ l.take i) := by
  induction l with
  | nil => intro i s h; simp at h
  | cons k l ih =>
    intro i s h
    cases i with
    | zero =>
      simp at h
      subst h
      simp [placeI]
    | succ i =>
      have h' : l[i]? = some z := by simpa using h
      unfold placeI
      by_cases hk : k = z
      · rw [if_pos hk]
        simp [hk]; omega
      · rw [if_neg hk]
        have := ih (i := i) (s := s + 1) h'
        rw [List.take_succ_cons, List.mem_cons]
        rw [show s + ((i + 1 : Nat) : Int) = s + 1 + (i : Int) by omega, this]
        simp [Ne.symm hk]
theorem a18_L1_false {B : Bnd} (hB : B = Bk) {cl : CallK} {rd : RoundK} (d : Desk) (l : List Int) {tp : Tok} (htp : purTok tp = true) (o z : Int) (n : Nat) (k : Ex → Env → St → Ans) (r : Ans) (j : Nat) (hj : 1 ≤ j)
    (k2 : ∀ e, k (.exit 0) ((1, .sl (rowsI l) tp) :: (2, .ptr 0 0 0) :: (7, .bool false) :: (8, .int .i64 o) :: e) [⟨[.cells d.c], []⟩] = r) :
    B.loop (evCK B a18_L1) [1, 2, 7, 8, 9] n j cl rd Gx 0 1 [(1, .sl (rowsI l) tp), (2, .ptr 0 0 0), (7, .bool false), (8, .int .i64 o), (9, .int .i64 z)] [⟨[.cells d.c], []⟩] k = r := by
  refine loop_step hB hj ?_
  conv => lhs; whnf
  repeat' ((first
    | refine purs_step hB rfl ?_
    | refine lt_tt hB (by decide) ?_
    | refine lt_ff hB (by decide) ?_
    | refine le_tt hB (by decide) ?_
    | refine le_ff hB (by decide) ?_
    | refine eq_tt hB (by decide) ?_
    | refine eq_ff hB (by decide) ?_
    | refine fint_wrp hB (by omega) (by omega) ?_
    | refine fint_step hB ?_
    | refine fbool_tt hB ?_
    | refine fbool_ff hB ?_
    | refine fbool_split hB (fun _ => ?_) (fun _ => ?_)
    | refine ftok_step hB ?_
    | refine frows_step hB ?_
    | refine fstr_step hB ?_
    | refine len_map hB ?_
    | refine len_step hB ?_
    | refine lens_step hB ?_
    | refine byte_step hB ?_
    | refine drop_step hB rfl ?_
    | refine fl_step hB rfl ?_
    | refine add_one hB (by first | omega | decide) ?_
    | refine opt_step hB rfl ?_
    | refine fnat_step hB ?_
    | refine ifk_step hB rfl ?_
    | refine ifk_step hB (flat_or rfl) ?_
    | refine opt2_step hB rfl ?_
    | refine obj_raw hB ?_
    | refine sob_raw hB ?_
    | refine fst_raw hB ?_
    | refine optl_raw hB ?_
    | refine tok_step hB rfl ?_
    ) <;> conv => lhs; whnf)
  rw [clampTok_pur htp]
  exact k2 _

theorem take_mem {l : List Int} {i : Nat} {z : Int} (hz : l[i]? = some z) (x : Int) : x ∈ l.take (i + 1) ↔ x ∈ l.take i ∨ x = z := by
  rw [List.take_add_one, hz]
  simp
set_option maxHeartbeats 2000000 in
theorem a18_L1_step {B : Bnd} (hB : B = Bk) {cl : CallK} {rd : RoundK} (d : Desk) (hd : d.ok) (hc : d.check = true) (l : List Int) {tp : Tok} (htp : purTok tp = true) (hlen : l.length = d.bs.length)
    (H38 : ∀ z : Int, cl 0 38 [.int .i64 z, .int .i64 0, .int .i64 ((d.ps.length : Int) - 1)] [] ansK = some (.bool (within z 0 ((d.ps.length : Int) - 1)), []))
    (H39 : ∀ z : Int, cl 0 39 [.sl (rowsI l) tp, .int .i64 z] [] ansK = some (.int .i64 (placeI l z 0), []))
    (H56 : ∀ (i k : Nat) (b : Box) (p : Parcel), d.bs[i]? = some b → d.ps[k]? = some p → cl 0 56 [d.v, .int .i64 (i : Int), .int .i64 (k : Int)] [] ansK = some (.bool (couldB d b p), []))
    (n : Nat) (k : Ex → Env → St → Ans) (r : Ans) :
    ∀ (j i0 t : Nat) (o : Int), l.length + 1 < i0 + j → i0 ≤ l.length → t < 256 → 0 ≤ o → o ≤ (i0 : Int) → (∀ k : Nat, k < 8 → (t.testBit k = true ↔ (k : Int) ∈ l.take i0)) →
    (∀ o' e, truthGo d (l.drop i0) i0 t o = some o' → k (.exit 0) ((1, .sl (rowsI l) tp) :: (2, .ptr 0 0 0) :: (7, .bool true) :: (8, .int .i64 o') :: e) [⟨[.cells d.c], []⟩] = r) →
    (∀ x e, truthGo d (l.drop i0) i0 t o = none → k (.exit 0) ((1, .sl (rowsI l) tp) :: (2, .ptr 0 0 0) :: (7, .bool false) :: (8, .int .i64 x) :: e) [⟨[.cells d.c], []⟩] = r) →
    B.loop (evCK B a18_L1) [1, 2, 7, 8, 9] n j cl rd Gx 0 1 [(1, .sl (rowsI l) tp), (2, .ptr 0 0 0), (7, .bool true), (8, .int .i64 o), (9, .int .i64 (.ofNat i0))] [⟨[.cells d.c], []⟩] k = r := by
  intro j
  induction j with
  | zero => intro i0 t o h1 h2; omega
  | succ j ih =>
    intro i0 t o h1 h2 ht ho0 hoi hT k1 k2
    have hnb := (check_fine hc).nb
    have hnp := (check_fine hc).np
    refine loop_succ hB ?_
    conv => lhs; whnf
    (repeat' ((first | refine fnat_step hB ?_ | refine obj_raw hB ?_ | refine drop_step hB rfl ?_ | refine len_map hB ?_) <;> conv => lhs; whnf))
    refine lt_nat hB (fun h => ?_) (fun h => ?_) <;> conv => lhs; whnf
    · have hz0 : l[i0]? = some l[i0] := by simp [h]
      have hx : (rowsI l)[i0]? = some [.int .i64 l[i0]] := by simp [rowsI, h]
      have hdr : l.drop i0 = l[i0] :: l.drop (i0 + 1) := List.drop_eq_getElem_cons h
      rw [hdr] at k1 k2
      generalize l[i0] = z at hx hdr k1 k2 hz0
      obtain ⟨b, hb⟩ : ∃ b, d.bs[i0]? = some b := ⟨d.bs[i0], by simp [← hlen, h]⟩
      have hxb : (d.bs.map Box.c)[i0]? = some b.c := by simp [hb]
      have hodd : oddB d i0 = !b.stamp := by simp [oddB, hb]
      by_cases hz1 : z = -1
      · subst hz1
        have hT2 : ∀ k : Nat, k < 8 → (t.testBit k = true ↔ (k : Int) ∈ l.take (i0 + 1)) := fun k hk => by
          rw [take_mem hz0, hT k hk]
          have : ¬ ((k : Int) = -1) := by omega
          simp [this]
        rcases b with ⟨b1, b2, b3, b4, b5⟩
        cases b5
        · repeat' ((first
            | refine fnat_pred hB ?_
            | refine natOf_step hB (m := i0) rfl ?_
            | refine nth_step hB hx ?_
            | refine nth_step hB hxb ?_
            | refine add_step hB (by omega) (by omega) ?_
            | refine purs_step hB rfl ?_
            | refine lt_tt hB (by decide) ?_
            | refine lt_ff hB (by decide) ?_
            | refine le_tt hB (by decide) ?_
            | refine le_ff hB (by decide) ?_
            | refine eq_tt hB (by decide) ?_
            | refine eq_ff hB (by decide) ?_
            | refine fint_wrp hB (by omega) (by omega) ?_
            | refine fint_step hB ?_
            | refine fbool_tt hB ?_
            | refine fbool_ff hB ?_
            | refine fbool_split hB (fun _ => ?_) (fun _ => ?_)
            | refine ftok_step hB ?_
            | refine frows_step hB ?_
            | refine fstr_step hB ?_
            | refine len_map hB ?_
            | refine len_step hB ?_
            | refine lens_step hB ?_
            | refine byte_step hB ?_
            | refine drop_step hB rfl ?_
            | refine fl_step hB rfl ?_
            | refine add_one hB (by first | omega | decide) ?_
            | refine opt_step hB rfl ?_
            | refine fnat_step hB ?_
            | refine ifk_step hB rfl ?_
            | refine ifk_step hB (flat_or rfl) ?_
            | refine opt2_step hB rfl ?_
            | refine obj_raw hB ?_
            | refine sob_raw hB ?_
            | refine fst_raw hB ?_
            | refine optl_raw hB ?_
            | refine tok_step hB rfl ?_
            ) <;> conv => lhs; whnf)
          rw [clampTok_pur htp]
          refine ih (i0 + 1) t (o + 1) (by omega) (by omega) ht (by omega) (by omega) hT2 (fun o' e h => k1 o' e ?_) (fun x e h => k2 x e ?_)
          · simpa [truthGo, hodd] using h
          · simpa [truthGo, hodd] using h
        · repeat' ((first
            | refine fnat_pred hB ?_
            | refine natOf_step hB (m := i0) rfl ?_
            | refine nth_step hB hx ?_
            | refine nth_step hB hxb ?_
            | refine add_step hB (by omega) (by omega) ?_
            | refine purs_step hB rfl ?_
            | refine lt_tt hB (by decide) ?_
            | refine lt_ff hB (by decide) ?_
            | refine le_tt hB (by decide) ?_
            | refine le_ff hB (by decide) ?_
            | refine eq_tt hB (by decide) ?_
            | refine eq_ff hB (by decide) ?_
            | refine fint_wrp hB (by omega) (by omega) ?_
            | refine fint_step hB ?_
            | refine fbool_tt hB ?_
            | refine fbool_ff hB ?_
            | refine fbool_split hB (fun _ => ?_) (fun _ => ?_)
            | refine ftok_step hB ?_
            | refine frows_step hB ?_
            | refine fstr_step hB ?_
            | refine len_map hB ?_
            | refine len_step hB ?_
            | refine lens_step hB ?_
            | refine byte_step hB ?_
            | refine drop_step hB rfl ?_
            | refine fl_step hB rfl ?_
            | refine add_one hB (by first | omega | decide) ?_
            | refine opt_step hB rfl ?_
            | refine fnat_step hB ?_
            | refine ifk_step hB rfl ?_
            | refine ifk_step hB (flat_or rfl) ?_
            | refine opt2_step hB rfl ?_
            | refine obj_raw hB ?_
            | refine sob_raw hB ?_
            | refine fst_raw hB ?_
            | refine optl_raw hB ?_
            | refine tok_step hB rfl ?_
            ) <;> conv => lhs; whnf)
          rw [clampTok_pur htp]
          refine a18_L1_false hB d l htp _ _ _ _ _ _ (by omega) (fun e => k2 _ e ?_)
          simp [truthGo, hodd]
      · have HW := H38 z
        cases hw : within z 0 ((d.ps.length : Int) - 1)
        · rw [hw] at HW
          have hno : ¬ (0 ≤ z ∧ fitsB d i0 t z.toNat = true) := by
            rintro ⟨h0, hfit⟩
            have : ¬ z.toNat < d.ps.length := by
              intro h9
              have : within z 0 ((d.ps.length : Int) - 1) = true := by simp [within]; omega
              rw [hw] at this; cases this
            have h9 : d.ps[z.toNat]? = none := by simp; omega
            simp [fitsB, h9] at hfit
          repeat' ((first
            | refine fnat_pred hB ?_
            | refine natOf_step hB (m := i0) rfl ?_
            | refine nth_step hB hx ?_
            | refine eq_ff hB hz1 ?_
            | refine sub_step hB (by first
            | omega
            | (simp only [Int.ofNat_eq_natCast]; omega)) (by first
            | omega
            | (simp only [Int.ofNat_eq_natCast]; omega)) ?_
            | refine pans_step hB HW ?_
            | refine purs_step hB rfl ?_
            | refine lt_tt hB (by decide) ?_
            | refine lt_ff hB (by decide) ?_
            | refine le_tt hB (by decide) ?_
            | refine le_ff hB (by decide) ?_
            | refine eq_tt hB (by decide) ?_
            | refine eq_ff hB (by decide) ?_
            | refine fint_wrp hB (by omega) (by omega) ?_
            | refine fint_step hB ?_
            | refine fbool_tt hB ?_
            | refine fbool_ff hB ?_
            | refine fbool_split hB (fun _ => ?_) (fun _ => ?_)
            | refine ftok_step hB ?_
            | refine frows_step hB ?_
            | refine fstr_step hB ?_
            | refine len_map hB ?_
            | refine len_step hB ?_
            | refine lens_step hB ?_
            | refine byte_step hB ?_
            | refine drop_step hB rfl ?_
            | refine fl_step hB rfl ?_
            | refine add_one hB (by first | omega | decide) ?_
            | refine opt_step hB rfl ?_
            | refine fnat_step hB ?_
            | refine ifk_step hB rfl ?_
            | refine ifk_step hB (flat_or rfl) ?_
            | refine opt2_step hB rfl ?_
            | refine obj_raw hB ?_
            | refine sob_raw hB ?_
            | refine fst_raw hB ?_
            | refine optl_raw hB ?_
            | refine tok_step hB rfl ?_
            ) <;> conv => lhs; whnf)
          rw [clampTok_pur htp]
          refine a18_L1_false hB d l htp _ _ _ _ _ _ (by omega) (fun e => k2 _ e ?_)
          simp [truthGo, hz1, hno]
        · rw [hw] at HW
          obtain ⟨k', rfl, hk'⟩ := within_nat hw
          obtain ⟨p, hp⟩ := meantRow d hk'
          have hfit : fitsB d i0 t k' = (!t.testBit k' && couldB d b p) := by simp [fitsB, hb, hp]
          have HP := H39 (k' : Int)
          have HC := H56 i0 k' b p hb hp
          have hpf := place_first (s := 0) hz0
          rw [Int.zero_add, ← hT k' (by omega)] at hpf
          cases hbit : t.testBit k'
          · have hpl : placeI l (k' : Int) 0 = Int.ofNat i0 := hpf.2 (by simp [hbit])
            cases hcb : couldB d b p
            · rw [hcb] at HC
              repeat' ((first
                | refine fnat_pred hB ?_
                | refine tok_step hB htp ?_
                | refine tok_step hB hd.tp ?_
                | refine tok_step hB hd.tb ?_
                | refine purs_step hB (by simp [purs, pur, hd.tp, hd.tb, htp]) ?_
                | refine natOf_step hB (m := i0) rfl ?_
                | refine nth_step hB hx ?_
                | refine eq_ff hB hz1 ?_
                | refine sub_step hB (by first
                | omega
                | (simp only [Int.ofNat_eq_natCast]; omega)) (by first
                | omega
                | (simp only [Int.ofNat_eq_natCast]; omega)) ?_
                | refine pans_step hB HW ?_
                | refine pans_step hB HP ?_
                | refine pans_step hB HC ?_
                | refine eq_tt hB hpl ?_
                | refine purs_step hB rfl ?_
                | refine lt_tt hB (by decide) ?_
                | refine lt_ff hB (by decide) ?_
                | refine le_tt hB (by decide) ?_
                | refine le_ff hB (by decide) ?_
                | refine eq_tt hB (by decide) ?_
                | refine eq_ff hB (by decide) ?_
                | refine fint_wrp hB (by omega) (by omega) ?_
                | refine fint_step hB ?_
                | refine fbool_tt hB ?_
                | refine fbool_ff hB ?_
                | refine fbool_split hB (fun _ => ?_) (fun _ => ?_)
                | refine ftok_step hB ?_
                | refine frows_step hB ?_
                | refine fstr_step hB ?_
                | refine len_map hB ?_
                | refine len_step hB ?_
                | refine lens_step hB ?_
                | refine byte_step hB ?_
                | refine drop_step hB rfl ?_
                | refine fl_step hB rfl ?_
                | refine add_one hB (by first | omega | decide) ?_
                | refine opt_step hB rfl ?_
                | refine fnat_step hB ?_
                | refine ifk_step hB rfl ?_
                | refine ifk_step hB (flat_or rfl) ?_
                | refine opt2_step hB rfl ?_
                | refine obj_raw hB ?_
                | refine sob_raw hB ?_
                | refine fst_raw hB ?_
                | refine optl_raw hB ?_
                | refine tok_step hB rfl ?_
                ) <;> conv => lhs; whnf)
              rw [clampTok_pur htp]
              refine a18_L1_false hB d l htp _ _ _ _ _ _ (by omega) (fun e => k2 _ e ?_)
              simp [truthGo, hz1, hfit, hcb]
            · rw [hcb] at HC
              repeat' ((first
                | refine fnat_pred hB ?_
                | refine tok_step hB htp ?_
                | refine tok_step hB hd.tp ?_
                | refine tok_step hB hd.tb ?_
                | refine purs_step hB (by simp [purs, pur, hd.tp, hd.tb, htp]) ?_
                | refine natOf_step hB (m := i0) rfl ?_
                | refine nth_step hB hx ?_
                | refine eq_ff hB hz1 ?_
                | refine sub_step hB (by first
                | omega
                | (simp only [Int.ofNat_eq_natCast]; omega)) (by first
                | omega
                | (simp only [Int.ofNat_eq_natCast]; omega)) ?_
                | refine pans_step hB HW ?_
                | refine pans_step hB HP ?_
                | refine pans_step hB HC ?_
                | refine eq_tt hB hpl ?_
                | refine purs_step hB rfl ?_
                | refine lt_tt hB (by decide) ?_
                | refine lt_ff hB (by decide) ?_
                | refine le_tt hB (by decide) ?_
                | refine le_ff hB (by decide) ?_
                | refine eq_tt hB (by decide) ?_
                | refine eq_ff hB (by decide) ?_
                | refine fint_wrp hB (by omega) (by omega) ?_
                | refine fint_step hB ?_
                | refine fbool_tt hB ?_
                | refine fbool_ff hB ?_
                | refine fbool_split hB (fun _ => ?_) (fun _ => ?_)
                | refine ftok_step hB ?_
                | refine frows_step hB ?_
                | refine fstr_step hB ?_
                | refine len_map hB ?_
                | refine len_step hB ?_
                | refine lens_step hB ?_
                | refine byte_step hB ?_
                | refine drop_step hB rfl ?_
                | refine fl_step hB rfl ?_
                | refine add_one hB (by first | omega | decide) ?_
                | refine opt_step hB rfl ?_
                | refine fnat_step hB ?_
                | refine ifk_step hB rfl ?_
                | refine ifk_step hB (flat_or rfl) ?_
                | refine opt2_step hB rfl ?_
                | refine obj_raw hB ?_
                | refine sob_raw hB ?_
                | refine fst_raw hB ?_
                | refine optl_raw hB ?_
                | refine tok_step hB rfl ?_
                ) <;> conv => lhs; whnf)
              rw [clampTok_pur htp]
              have hgo : truthGo d ((k' : Int) :: l.drop (i0 + 1)) i0 t o = truthGo d (l.drop (i0 + 1)) (i0 + 1) (t ||| 1 <<< k') o := by simp [truthGo, hz1, hfit, hbit, hcb]
              rw [hgo] at k1 k2
              refine ih (i0 + 1) _ o (by omega) (by omega) (bits_lt ht (by omega)) ho0 (by omega) (fun k hk => ?_) k1 k2
              rw [bit_or, take_mem hz0, Bool.or_eq_true, hT k hk, decide_eq_true_eq]
              constructor
              · rintro (h | h)
                · exact .inl h
                · exact .inr (by rw [h])
              · rintro (h | h)
                · exact .inl h
                · exact .inr (by omega)
          · have hpl : ¬ placeI l (k' : Int) 0 = Int.ofNat i0 := fun e => by
              have := hpf.1 e
              rw [hbit] at this; exact this rfl
            repeat' ((first
              | refine fnat_pred hB ?_
              | refine tok_step hB htp ?_
              | refine tok_step hB hd.tp ?_
              | refine tok_step hB hd.tb ?_
              | refine purs_step hB (by simp [purs, pur, hd.tp, hd.tb, htp]) ?_
              | refine natOf_step hB (m := i0) rfl ?_
              | refine nth_step hB hx ?_
              | refine eq_ff hB hz1 ?_
              | refine sub_step hB (by first
              | omega
              | (simp only [Int.ofNat_eq_natCast]; omega)) (by first
              | omega
              | (simp only [Int.ofNat_eq_natCast]; omega)) ?_
              | refine pans_step hB HW ?_
              | refine pans_step hB HP ?_
              | refine pans_step hB HC ?_
              | refine eq_ff hB hpl ?_
              | refine purs_step hB rfl ?_
              | refine lt_tt hB (by decide) ?_
              | refine lt_ff hB (by decide) ?_
              | refine le_tt hB (by decide) ?_
              | refine le_ff hB (by decide) ?_
              | refine eq_tt hB (by decide) ?_
              | refine eq_ff hB (by decide) ?_
              | refine fint_wrp hB (by omega) (by omega) ?_
              | refine fint_step hB ?_
              | refine fbool_tt hB ?_
              | refine fbool_ff hB ?_
              | refine fbool_split hB (fun _ => ?_) (fun _ => ?_)
              | refine ftok_step hB ?_
              | refine frows_step hB ?_
              | refine fstr_step hB ?_
              | refine len_map hB ?_
              | refine len_step hB ?_
              | refine lens_step hB ?_
              | refine byte_step hB ?_
              | refine drop_step hB rfl ?_
              | refine fl_step hB rfl ?_
              | refine add_one hB (by first | omega | decide) ?_
              | refine opt_step hB rfl ?_
              | refine fnat_step hB ?_
              | refine ifk_step hB rfl ?_
              | refine ifk_step hB (flat_or rfl) ?_
              | refine opt2_step hB rfl ?_
              | refine obj_raw hB ?_
              | refine sob_raw hB ?_
              | refine fst_raw hB ?_
              | refine optl_raw hB ?_
              | refine tok_step hB rfl ?_
              ) <;> conv => lhs; whnf)
            rw [clampTok_pur htp]
            refine a18_L1_false hB d l htp _ _ _ _ _ _ (by omega) (fun e => k2 _ e ?_)
            simp [truthGo, hz1, hfit, hbit]
    · repeat' ((first
        | refine purs_step hB rfl ?_
        | refine lt_tt hB (by decide) ?_
        | refine lt_ff hB (by decide) ?_
        | refine le_tt hB (by decide) ?_
        | refine le_ff hB (by decide) ?_
        | refine eq_tt hB (by decide) ?_
        | refine eq_ff hB (by decide) ?_
        | refine fint_wrp hB (by omega) (by omega) ?_
        | refine fint_step hB ?_
        | refine fbool_tt hB ?_
        | refine fbool_ff hB ?_
        | refine fbool_split hB (fun _ => ?_) (fun _ => ?_)
        | refine ftok_step hB ?_
        | refine frows_step hB ?_
        | refine fstr_step hB ?_
        | refine len_map hB ?_
        | refine len_step hB ?_
        | refine lens_step hB ?_
        | refine byte_step hB ?_
        | refine drop_step hB rfl ?_
        | refine fl_step hB rfl ?_
        | refine add_one hB (by first | omega | decide) ?_
        | refine opt_step hB rfl ?_
        | refine fnat_step hB ?_
        | refine ifk_step hB rfl ?_
        | refine ifk_step hB (flat_or rfl) ?_
        | refine opt2_step hB rfl ?_
        | refine obj_raw hB ?_
        | refine sob_raw hB ?_
        | refine fst_raw hB ?_
        | refine optl_raw hB ?_
        | refine tok_step hB rfl ?_
        ) <;> conv => lhs; whnf)
      have hi : i0 = l.length := by omega
      subst hi
      rw [clampTok_pur htp]
      exact k1 o _ (by simp [truthGo])
theorem IsTruthF_ev {n : Nat} (hn : 1000000000000500 ≤ n) (d : Desk) (hd : d.ok) (l : List Int) {tp : Tok} (htp : purTok tp = true) (hps : l.length ≤ 200000000000000) : (evKR Bk Gx fsT n).1 0 18 [d.v, .sl (rowsI l) tp] [] ansK = some (.tup [.bool (truthV d l), .int .i64 (truthE d)], []) := by
  refine call_open (show fsT.find 18 = some a18 from rfl) (by omega) fun n' B cl rd hn' hB hcl hrd => ?_
  have HC := CheckR_ev (n := n') d hd (by omega)
  rw [← hcl] at HC
  have hdb := hd.bs
  cases hc : d.check
  · rw [hc] at HC
    conv => lhs; whnf
    repeat' ((first
      | refine fnat_pred hB ?_
      | refine tok_step hB hd.tp ?_
      | refine tok_step hB hd.tb ?_
      | refine purs_step hB (by simp [purs, pur, hd.tp, hd.tb]) ?_
      | refine pans_step hB HC ?_
      | refine purs_step hB rfl ?_
      | refine lt_tt hB (by decide) ?_
      | refine lt_ff hB (by decide) ?_
      | refine le_tt hB (by decide) ?_
      | refine le_ff hB (by decide) ?_
      | refine eq_tt hB (by decide) ?_
      | refine eq_ff hB (by decide) ?_
      | refine fint_wrp hB (by omega) (by omega) ?_
      | refine fint_step hB ?_
      | refine fbool_tt hB ?_
      | refine fbool_ff hB ?_
      | refine fbool_split hB (fun _ => ?_) (fun _ => ?_)
      | refine ftok_step hB ?_
      | refine frows_step hB ?_
      | refine fstr_step hB ?_
      | refine len_map hB ?_
      | refine len_step hB ?_
      | refine lens_step hB ?_
      | refine byte_step hB ?_
      | refine drop_step hB rfl ?_
      | refine fl_step hB rfl ?_
      | refine add_one hB (by first | omega | decide) ?_
      | refine opt_step hB rfl ?_
      | refine fnat_step hB ?_
      | refine ifk_step hB rfl ?_
      | refine ifk_step hB (flat_or rfl) ?_
      | refine opt2_step hB rfl ?_
      | refine obj_raw hB ?_
      | refine sob_raw hB ?_
      | refine fst_raw hB ?_
      | refine optl_raw hB ?_
      | refine tok_step hB rfl ?_
      ) <;> conv => lhs; whnf)
    simp [truthV, truthE, hc]
  · rw [hc] at HC
    have hnp := (check_fine hc).np
    have hnb := (check_fine hc).nb
    have H38 := fun z => Tween_ev (G := Gx) (n := n') (by omega) z 0 ((d.ps.length : Int) - 1)
    have htp2 := purTok_clamp (l := 0) htp
    have H39 := fun z => Place_ev (n := n') (by omega) l (by omega) htp2 z
    have H56 := fun (i k : Nat) (b : Box) (p : Parcel) hb hp => couldF_ev (n := n') d hd hc i k rfl rfl b p hb hp (by omega)
    rw [← hcl] at H38 H39 H56
    by_cases hl : l.length = d.bs.length
    · conv => lhs; whnf
      repeat' ((first
        | refine fnat_pred hB ?_
        | refine tok_step hB hd.tp ?_
        | refine tok_step hB hd.tb ?_
        | refine tok_step hB htp ?_
        | refine purs_step hB (by simp [purs, pur, hd.tp, hd.tb]) ?_
        | refine pans_step hB HC ?_
        | refine eq_tt hB (by simp only [Int.ofNat_eq_natCast]; omega) ?_
        | refine a18_L1_step hB d hd hc l htp2 hl H38 H39 H56 _ _ _ _ 0 0 0 (by omega) (by omega) (by omega) (by omega) (by omega) (fun k hk => by simp) (fun o' e ho => ?_) (fun x e ho => ?_)
        | refine le_split hB (fun hle => ?_) (fun hle => ?_)
        | refine purs_step hB rfl ?_
        | refine lt_tt hB (by decide) ?_
        | refine lt_ff hB (by decide) ?_
        | refine le_tt hB (by decide) ?_
        | refine le_ff hB (by decide) ?_
        | refine eq_tt hB (by decide) ?_
        | refine eq_ff hB (by decide) ?_
        | refine fint_wrp hB (by omega) (by omega) ?_
        | refine fint_step hB ?_
        | refine fbool_tt hB ?_
        | refine fbool_ff hB ?_
        | refine fbool_split hB (fun _ => ?_) (fun _ => ?_)
        | refine ftok_step hB ?_
        | refine frows_step hB ?_
        | refine fstr_step hB ?_
        | refine len_map hB ?_
        | refine len_step hB ?_
        | refine lens_step hB ?_
        | refine byte_step hB ?_
        | refine drop_step hB rfl ?_
        | refine fl_step hB rfl ?_
        | refine add_one hB (by first | omega | decide) ?_
        | refine opt_step hB rfl ?_
        | refine fnat_step hB ?_
        | refine ifk_step hB rfl ?_
        | refine ifk_step hB (flat_or rfl) ?_
        | refine opt2_step hB rfl ?_
        | refine obj_raw hB ?_
        | refine sob_raw hB ?_
        | refine fst_raw hB ?_
        | refine optl_raw hB ?_
        | refine tok_step hB rfl ?_
        ) <;> conv => lhs; whnf)
      all_goals rw [List.drop_zero] at ho
      · simp [truthV, truthE, hc, hl, ho, hle]
      · simp [truthV, truthE, hc, hl, ho, hle]
      · simp [truthV, truthE, hc, hl, ho]
    · conv => lhs; whnf
      repeat' ((first
        | refine fnat_pred hB ?_
        | refine tok_step hB hd.tp ?_
        | refine tok_step hB hd.tb ?_
        | refine tok_step hB htp ?_
        | refine purs_step hB (by simp [purs, pur, hd.tp, hd.tb]) ?_
        | refine pans_step hB HC ?_
        | refine eq_ff hB (by simp only [Int.ofNat_eq_natCast]; omega) ?_
        | refine a18_L1_false hB d l htp2 _ _ _ _ _ _ (by omega) (fun e => ?_)
        | refine purs_step hB rfl ?_
        | refine lt_tt hB (by decide) ?_
        | refine lt_ff hB (by decide) ?_
        | refine le_tt hB (by decide) ?_
        | refine le_ff hB (by decide) ?_
        | refine eq_tt hB (by decide) ?_
        | refine eq_ff hB (by decide) ?_
        | refine fint_wrp hB (by omega) (by omega) ?_
        | refine fint_step hB ?_
        | refine fbool_tt hB ?_
        | refine fbool_ff hB ?_
        | refine fbool_split hB (fun _ => ?_) (fun _ => ?_)
        | refine ftok_step hB ?_
        | refine frows_step hB ?_
        | refine fstr_step hB ?_
        | refine len_map hB ?_
        | refine len_step hB ?_
        | refine lens_step hB ?_
        | refine byte_step hB ?_
        | refine drop_step hB rfl ?_
        | refine fl_step hB rfl ?_
        | refine add_one hB (by first | omega | decide) ?_
        | refine opt_step hB rfl ?_
        | refine fnat_step hB ?_
        | refine ifk_step hB rfl ?_
        | refine ifk_step hB (flat_or rfl) ?_
        | refine opt2_step hB rfl ?_
        | refine obj_raw hB ?_
        | refine sob_raw hB ?_
        | refine fst_raw hB ?_
        | refine optl_raw hB ?_
        | refine tok_step hB rfl ?_
        ) <;> conv => lhs; whnf)
      simp [truthV, truthE, hc, hl]
end Go.Ab.Cl
