/-
  Of the rows: what they share: the laid variable's table, and calls from outside.
-/
import Derived.Test.YthbekoofiienjaaDoorClO
namespace Go.Proofs.YthbekoofiienjaaDoor
open Go.ChangeShapes Go.WideShapes Go.ChangeAt Go.RowKit Go.Ab

theorem gx_eq : Gx = Cl.Gx := by
  funext n
  cases n <;> rfl
theorem laidOut : laidOutB Tryd.prog = true := by kernel_rfl

theorem stays_trod {H : Type} {enc : TypeId × Value → H} {t : TypeId} (hr : Tryd.prog.readableRec t = true) (hrow : t < Tryd.prog.types.size) {W W' : World} {v : Value} {d : DataW H} {ps : List MemPlace} {sp : Nat → Bool}
    (h : DataW.Trod enc Tryd.prog W 0 (fun _ => true) true t v d ps) (hb : Below W.heap.size W W') (hlt : ∀ x ∈ ps, x.block < W.heap.size) (hsp : ∀ x ∈ ps, sp x.block = true) :
    DataW.Trod enc Tryd.prog W' 0 sp true t v d ps :=
  WideElems.Trod_stays laidOut hr hrow h (fun x hx => hb.same (hlt x hx)) hsp

/-- What the machine says of a call is what the call returns. -/
theorem law_calls {k : Nat} (hk : k % 1000 = k) {args : List AV} {cargs : Array Value} (hs : (evKR Bk Cl.Gx fsT 2000000000000000).1 0 k args [] ansK = some (.bool true, [])) {W : World} (hL : laidMetH Tryd.prog laid1 W) (ha : VRs (bare W).vw args cargs) :
    Calls Tryd.prog k cargs W fun e W' => e = .returned (.bool true) ∧ Below W.heap.size W W' ∧ ∀ a, W'.frozen? a = W.frozen? a := by
  rw [← gx_eq] at hs
  have hs : evK Gx fsT 2000000000000000 k args = some (.bool true, []) := hs
  rw [evK_eq] at hs
  have := run_law (k := k) tabOK hF (glb hL) (args := args) (cargs := cargs) ha hs
  rwa [hk] at this
end Go.Proofs.YthbekoofiienjaaDoor
