/-
  What the abstract machine says of a call from outside, for a law's row: it returns true, and all that was there stays.
-/
import Derived.Test.YthbekoofiienjaaDoorAbFn
import Derived.ProofKit
import Derived.LaidMore
namespace Go.Ab
open Go Go.RowKit

/-- The configuration of a call from outside. -/
def bare (W : World) : Cf := ⟨W, fun _ _ => False, fun _ _ => none, fun _ _ => none, []⟩

theorem bare_own {W : World} {b o : Nat} : ¬ (bare W).own b o := by
  rintro (h | ⟨l, i, h⟩ | ⟨l, p, r, h, _⟩ | h)
  · exact h
  · cases h
  · cases h
  · cases h

theorem run_law {P : Program} {T : Nat → Option TyI} {G : Nat → List AV} {gl : List Nat} {fs : Nat → Option F} (hTab : TabOK P T)
    (hF : ∀ k f, fs k = some f → ∃ pf, P.funcs[k % 1000]? = some pf ∧ chkF T gl (P.eqGuardType P.depth) (P.follows .mixedOrders) f pf = true)
    {W : World} {k n : Nat} {args : List AV} {cargs : Array Value} {b : Bool} {s' : St} (hG : Glb G gl (bare W).vw) (ha : VRs (bare W).vw args cargs) (hev : evF G fs n k args [] = some (.bool b, s')) :
    Calls P (k % 1000) cargs W fun e W' => e = .returned (.bool b) ∧ Below W.heap.size W W' ∧ ∀ a, W'.frozen? a = W.frozen? a := by
  obtain ⟨_, _, hc⟩ := (adequate (G := G) hTab hF n).1 k args [] s' (.bool b) (bare W) cargs hev (inv_bare fun _ _ h => h.elim) ha hG
  refine Calls.mono hc ?_
  intro e w' hr
  cases e with
  | panicked _ => exact hr.elim
  | outgrown => exact hr.elim
  | returned cv =>
    obtain ⟨c', rfl, _, e1, v1⟩ := hr
    cases v1
    refine ⟨rfl, ⟨e1.io.os, e1.io.tape, e1.io.output, e1.k3, fun i hi => e1.k1 i hi fun o ho => bare_own (.inr ho)⟩, e1.io.fz⟩
end Go.Ab
