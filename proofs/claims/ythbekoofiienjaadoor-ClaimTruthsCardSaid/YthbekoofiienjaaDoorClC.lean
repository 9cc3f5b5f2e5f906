/-
  The claims: Could.
-/
import Derived.Test.YthbekoofiienjaaDoorClB
namespace Go.Ab.Cl
open Go.Ab

theorem within_nat {z : Int} {l : Nat} (h : within z 0 ((l : Int) - 1) = true) : ∃ i : Nat, z = (i : Int) ∧ i < l := by
  simp [within] at h
  exact ⟨z.toNat, by omega, by omega⟩

structure Desk.fine (d : Desk) : Prop where
  wear : Small d.wear
  lo : Small d.lo
  hi : Small d.hi
  p : ∀ p ∈ d.ps, Small p.day ∧ Small p.weight ∧ Small p.mark ∧ Small p.value
  b : ∀ b ∈ d.bs, Small b.day ∧ Small b.low ∧ Small b.high ∧ okSeal b.mark = true ∧ b.mark.all okDigit = true
  np : d.ps.length ≤ 8
  nb : d.bs.length ≤ 6

theorem check_fine {d : Desk} (h : d.check = true) : d.fine := by
  simp only [Desk.check, Bool.and_eq_true, decide_eq_true_eq, List.all_eq_true, isSpan, within] at h
  obtain ⟨⟨⟨⟨⟨⟨⟨⟨h1, h2⟩, h3⟩, h4⟩, h5⟩, h6⟩, h7⟩, h8⟩, h9⟩ := h
  refine ⟨by unfold Small; omega, by unfold Small; omega, by unfold Small; omega, fun p hp => ?_, fun b hb => ?_, h6, h7⟩
  · have := h8 p hp
    simp only [okParcel, within, Bool.and_eq_true, decide_eq_true_eq] at this
    unfold Small; omega
  · have := h9 b hb
    simp only [okBox, within, isSpan, Bool.and_eq_true, decide_eq_true_eq] at this
    obtain ⟨⟨k1, k2⟩, k3⟩ := this
    have k4 := k3
    simp only [okSeal, Bool.and_eq_true] at k4
    unfold Small
    exact ⟨by omega, by omega, by omega, k3, k4.2⟩

/-- What Could returns. -/
def couldR (d : Desk) (i k : Int) : Bool × Int :=
  if d.check = true then (if within i 0 ((d.bs.length : Int) - 1) = true ∧ within k 0 ((d.ps.length : Int) - 1) = true then
    (match d.bs[i.toNat]?, d.ps[k.toNat]? with | some b, some p => (couldB d b p, 0) | _, _ => (false, 0)) else (false, 91)) else (false, 90)

theorem Could_ev {n : Nat} (d : Desk) (hd : d.ok) (i k : Int) (hn : 1000000000000006 ≤ n) :
    (evKR Bk Gx fsT n).1 0 13 [d.v, .int .i64 i, .int .i64 k] [] ansK = some (.tup [.bool (couldR d i k).1, .int .i64 (couldR d i k).2], []) := by
  refine call_open (show fsT.find 13 = some a13 from rfl) (by omega) fun n B cl rd hn' hB hcl hrd => ?_
  have HC := Check_ev (G := Gx) (n := n) d hd (by omega)
  have H52 := isBox_ev (G := Gx) (n := n) (by omega) d hd i
  have H53 := isParcel_ev (G := Gx) (n := n) (by omega) d hd k
  rw [← hcl] at HC H52 H53
  cases hck : d.check with
  | false =>
    rw [hck] at HC
    conv => lhs; whnf
    repeat' ((first
      | refine tok_step hB hd.tp ?_
      | refine tok_step hB hd.tb ?_
      | refine purs_step hB (by simp [purs, pur, hd.tp, hd.tb]) ?_
      | refine pans_step hB HC ?_
      | refine purs_step hB rfl ?_
      | refine lt_tt hB (by decide) ?_
      | refine lt_ff hB (by decide) ?_
      | refine le_tt hB (by decide) ?_
      | refine le_ff hB (by decide) ?_
      | refine eq_tt hB (by decide) ?_
      | refine eq_ff hB (by decide) ?_
      | refine fint_wrp hB (by omega) (by omega) ?_
      | refine fint_step hB ?_
      | refine fbool_tt hB ?_
      | refine fbool_ff hB ?_
      | refine fbool_split hB (fun _ => ?_) (fun _ => ?_)
      | refine ftok_step hB ?_
      | refine frows_step hB ?_
      | refine fstr_step hB ?_
      | refine len_map hB ?_
      | refine len_step hB ?_
      | refine lens_step hB ?_
      | refine byte_step hB ?_
      | refine drop_step hB rfl ?_
      | refine fl_step hB rfl ?_
      | refine add_one hB (by first | omega | decide) ?_
      | refine opt_step hB rfl ?_
      | refine fnat_step hB ?_
      | refine ifk_step hB rfl ?_
      | refine ifk_step hB (flat_or rfl) ?_
      | refine opt2_step hB rfl ?_
      | refine obj_raw hB ?_
      | refine sob_raw hB ?_
      | refine fst_raw hB ?_
      | refine optl_raw hB ?_
      | refine tok_step hB rfl ?_
      ) <;> conv => lhs; whnf)
    simp [couldR, hck]
  | true =>
    rw [hck] at HC
    conv => lhs; whnf
    repeat' ((first
      | refine tok_step hB hd.tp ?_
      | refine tok_step hB hd.tb ?_
      | refine purs_step hB (by simp [purs, pur, hd.tp, hd.tb]) ?_
      | refine pans_step hB HC ?_
      | refine pans_bool hB H52 (fun _ => ?_) (fun _ => ?_)
      | refine pans_bool hB H53 (fun _ => ?_) (fun _ => ?_)
      | refine purs_step hB rfl ?_
      | refine lt_tt hB (by decide) ?_
      | refine lt_ff hB (by decide) ?_
      | refine le_tt hB (by decide) ?_
      | refine le_ff hB (by decide) ?_
      | refine eq_tt hB (by decide) ?_
      | refine eq_ff hB (by decide) ?_
      | refine fint_wrp hB (by omega) (by omega) ?_
      | refine fint_step hB ?_
      | refine fbool_tt hB ?_
      | refine fbool_ff hB ?_
      | refine fbool_split hB (fun _ => ?_) (fun _ => ?_)
      | refine ftok_step hB ?_
      | refine frows_step hB ?_
      | refine fstr_step hB ?_
      | refine len_map hB ?_
      | refine len_step hB ?_
      | refine lens_step hB ?_
      | refine byte_step hB ?_
      | refine drop_step hB rfl ?_
      | refine fl_step hB rfl ?_
      | refine add_one hB (by first | omega | decide) ?_
      | refine opt_step hB rfl ?_
      | refine fnat_step hB ?_
      | refine ifk_step hB rfl ?_
      | refine ifk_step hB (flat_or rfl) ?_
      | refine opt2_step hB rfl ?_
      | refine obj_raw hB ?_
      | refine sob_raw hB ?_
      | refine fst_raw hB ?_
      | refine optl_raw hB ?_
      | refine tok_step hB rfl ?_
      ) <;> conv => lhs; whnf)
    · rename_i e1 e2
      obtain ⟨i', hi, hil⟩ := within_nat e1
      obtain ⟨k', hk, hkl⟩ := within_nat e2
      obtain ⟨b, hb⟩ : ∃ b, d.bs[i']? = some b := ⟨d.bs[i'], by simp [hil]⟩
      obtain ⟨p, hp⟩ : ∃ p, d.ps[k']? = some p := ⟨d.ps[k'], by simp [hkl]⟩
      have hf := check_fine hck
      have fb := hf.b b (List.mem_of_getElem? hb)
      have fp := hf.p p (List.mem_of_getElem? hp)
      have H54 := could_ev (n := n) d hd i' k' hi hk b p hb hp fb.1 fp.1 fp.2.1 hf.wear fp.2.2.1 fb.2.2.2.2 (by omega)
      rw [← hcl] at H54
      refine pans_step hB H54 ?_
      conv => lhs; whnf
      repeat' ((first
        | refine purs_step hB rfl ?_
        | refine lt_tt hB (by decide) ?_
        | refine lt_ff hB (by decide) ?_
        | refine le_tt hB (by decide) ?_
        | refine le_ff hB (by decide) ?_
        | refine eq_tt hB (by decide) ?_
        | refine eq_ff hB (by decide) ?_
        | refine fint_wrp hB (by omega) (by omega) ?_
        | refine fint_step hB ?_
        | refine fbool_tt hB ?_
        | refine fbool_ff hB ?_
        | refine fbool_split hB (fun _ => ?_) (fun _ => ?_)
        | refine ftok_step hB ?_
        | refine frows_step hB ?_
        | refine fstr_step hB ?_
        | refine len_map hB ?_
        | refine len_step hB ?_
        | refine lens_step hB ?_
        | refine byte_step hB ?_
        | refine drop_step hB rfl ?_
        | refine fl_step hB rfl ?_
        | refine add_one hB (by first | omega | decide) ?_
        | refine opt_step hB rfl ?_
        | refine fnat_step hB ?_
        | refine ifk_step hB rfl ?_
        | refine ifk_step hB (flat_or rfl) ?_
        | refine opt2_step hB rfl ?_
        | refine obj_raw hB ?_
        | refine sob_raw hB ?_
        | refine fst_raw hB ?_
        | refine optl_raw hB ?_
        | refine tok_step hB rfl ?_
        ) <;> conv => lhs; whnf)
      have hR : couldR d i k = (couldB d b p, 0) := by
        unfold couldR
        rw [if_pos hck, if_pos ⟨e1, e2⟩, hi, hk]
        simp [hb, hp]
      rw [hR]
    · rename_i e1 e2
      have hR : couldR d i k = (false, 91) := by unfold couldR; rw [if_pos hck, if_neg (by rw [e2]; simp)]
      rw [hR]
    · rename_i e1
      have hR : couldR d i k = (false, 91) := by unfold couldR; rw [if_pos hck, if_neg (by rw [e1]; simp)]
      rw [hR]
end Go.Ab.Cl
