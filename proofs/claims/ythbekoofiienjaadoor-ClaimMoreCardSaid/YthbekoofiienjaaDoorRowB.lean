/-
  The claims' seat: what the laid variable holds, and what a row's proof takes of it.
-/
import Derived.Test.YthbekoofiienjaaDoorChkY
import Derived.Test.YthbekoofiienjaaDoorAbRow
import Derived.Test.YthbekoofiienjaaDoorAbKRun
import Derived.Test.YthbekoofiienjaaDoorRows
import Derived.Test.YthbekoofiienjaaDoorTie
import Derived.Test.YthbekoofiienjaaDoorCards
import Derived.ProofKit
import Derived.LaidMore
import Derived.OpenShut
import Derived.Stop.Joined
import Derived.SevenTiedAt
namespace Go.Proofs.YthbekoofiienjaaDoor
open Go.ChangeShapes Go.WideShapes Go.ChangeAt Go.RowKit Go.Ab

theorem own : ownKnob Tryd.prog.godebug = none := by kernel_rfl
theorem gMarks : Tryd.prog.globalNamed "wishbook/claim.marks" = some 0 := by kernel_rfl
theorem tMarks : (Tryd.prog.globals[0]?).map (·.type) = some 111 := by kernel_rfl

def laid1 : List (String × DataW Unit) := [("wishbook/claim.marks", Rows.laid_wishbook_claim_marks)]

theorem door_met (os : Os) (args : Array Value) : laidMetH Tryd.prog laid1 ((World.doorLaid Tryd.prog 600 os).forCall (fun _ _ => 0) ⟨#[], args, []⟩).memory :=
  laidMetH_of_parts3 (fuel := 8) (laidMet_of_run' 8 (by kernel_rfl) (by kernel_rfl)) (by kernel_rfl) (by kernel_rfl)

/-- What the laid variable holds, abstractly. -/
def Gx : Nat → List AV
  | 0 => [.fn 107 [] [], .fn 108 [] [], .fn 109 [] []]
  | _ => []

set_option maxRecDepth 100000 in
theorem of_laid {W : World} (h : laidMetH Tryd.prog laid1 W) : ∀ i, i < 3 → W.cell? ⟨0, i, none⟩ = some (.func (.func (107 + i)) #[] #[]) := by
  obtain ⟨g, t, cs, fuel, p, hg, ht, hv, hd⟩ := h.funcs (List.mem_singleton.2 rfl)
  obtain rfl := Option.some.inj (gMarks.symm.trans hg)
  obtain rfl := Option.some.inj (tMarks.symm.trans ht)
  obtain ⟨xs, m, rfl, hx, hlen, hn, hel⟩ := DataW.trod_array (show Tryd.prog.underlying 111 = some (.array 3 110) by kernel_rfl) hd
  have c110 : Tryd.prog.cellsOf 110 = 1 := by kernel_rfl
  have c111 : Tryd.prog.cellsOf 111 = 3 := by kernel_rfl
  have u110 : Tryd.prog.underlying 110 = some (.func #[76, 64, 56] #[4] false) := by kernel_rfl
  have hcell := World.var?_cell hg hv
  obtain ⟨l⟩ := cs
  rw [c111] at hlen
  match l, hlen with
  | [v0, v1, v2], _ =>
    match xs, hn with
    | [x0, x1, x2], _ =>
      have hx3 : (DataW.agg [.held [40, 119, 105, 115, 104, 98, 111, 111, 107, 47, 99, 108, 97, 105, 109, 46, 100, 101, 115, 107, 41, 46, 100, 97, 121], .held [40, 119, 105, 115, 104, 98, 111, 111, 107, 47, 99, 108, 97, 105, 109, 46, 100, 101, 115, 107, 41, 46, 119, 101, 105, 103, 104, 116], .held [40, 119, 105, 115, 104, 98, 111, 111, 107, 47, 99, 108, 97, 105, 109, 46, 100, 101, 115, 107, 41, 46, 115, 101, 97, 108]] : DataW (List UInt8)) = .agg ([x0, x1, x2].map (·.1)) := (Prod.mk.inj hx).1
      simp only [List.map_cons, List.map_nil, DataW.agg.injEq, List.cons.injEq, and_true] at hx3
      obtain ⟨e0, e1, e2⟩ := hx3
      have h0 := hel 0 (by decide)
      have h1 := hel 1 (by decide)
      have h2 := hel 2 (by decide)
      rw [c110] at h0 h1 h2
      obtain ⟨d0, q0⟩ := x0
      obtain ⟨d1, q1⟩ := x1
      obtain ⟨d2, q2⟩ := x2
      dsimp only at e0 e1 e2
      subst e0 e1 e2
      obtain rfl := func_of_trod (f0 := 107) u110 (by kernel_rfl) (show DataW.trod (funcToken Tryd.prog) Tryd.prog W 0 (fun _ => true) true m 110 [v0] = some _ from h0)
      obtain rfl := func_of_trod (f0 := 108) u110 (by kernel_rfl) (show DataW.trod (funcToken Tryd.prog) Tryd.prog W 0 (fun _ => true) true m 110 [v1] = some _ from h1)
      obtain rfl := func_of_trod (f0 := 109) u110 (by kernel_rfl) (show DataW.trod (funcToken Tryd.prog) Tryd.prog W 0 (fun _ => true) true m 110 [v2] = some _ from h2)
      intro i hi
      rw [hcell i]
      match i, hi with
      | 0, _ => rfl
      | 1, _ => rfl
      | 2, _ => rfl

theorem glb {W : World} (h : laidMetH Tryd.prog laid1 W) : Glb Gx [0] (bare W).vw := by
  intro g hg
  obtain rfl := List.mem_singleton.1 hg
  refine .rp _ 0 0 (fun i => .func (.func (107 + i)) #[] #[]) (fun j hj => ⟨by rw [Nat.zero_add]; exact of_laid h j hj, bare_own⟩) (fun j v hv => ?_) ⟨rfl, by simp [Gx, oneCell]⟩
  have hn : ∀ f, f % 1000 = f → VR (bare W).vw (.fn f [] []) (.func (.func f) #[] #[]) := fun f hf => by
    have := VR.fn (V := (bare W).vw) f [] [] #[] #[] rfl rfl (by simp) (by simp)
    rwa [hf] at this
  match j, hv with
  | 0, hv => cases hv; exact hn 107 rfl
  | 1, hv => cases hv; exact hn 108 rfl
  | 2, hv => cases hv; exact hn 109 rfl
  | j + 3, hv => simp [Gx] at hv

/-- Does the machine say 'true'? -/
def isT : Ans → Bool
  | some (.bool true, _) => true
  | _ => false
theorem isT_ok {r : Ans} (h : isT r = true) : ∃ s, r = some (.bool true, s) := by
  unfold isT at h
  split at h
  · exact ⟨_, rfl⟩
  · cases h
end Go.Proofs.YthbekoofiienjaaDoor
