/-
  ClaimKnown, abstractly: the machine says true (by the kernel).
-/
import Derived.Test.YthbekoofiienjaaDoorRowB
namespace Go.Proofs.YthbekoofiienjaaDoor
open Go.Ab
set_option maxRecDepth 100000 in
theorem known_ev : isT (evK Gx fsT 60 12 []) = true := by decide +kernel
end Go.Proofs.YthbekoofiienjaaDoor
