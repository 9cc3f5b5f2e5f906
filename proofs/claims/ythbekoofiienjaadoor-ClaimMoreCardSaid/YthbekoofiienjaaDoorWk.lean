/-
  The chapter's examples, abstractly: the machine says true (by the kernel).
-/
import Derived.Test.YthbekoofiienjaaDoorClB
namespace Go.Ab.Cl
open Go.Ab
/-- Does the machine say 'true'? -/
def isT : Ans → Bool
  | some (.bool true, []) => true
  | _ => false
set_option maxRecDepth 100000 in
theorem works_isT : isT (evK Gx fsT 1999999999999999 21 []) = true := by decide +kernel
theorem works_ev : (evKR Bk Gx fsT 1999999999999999).1 0 21 [] [] ansK = some (.bool true, []) := by
  have h : isT ((evKR Bk Gx fsT 1999999999999999).1 0 21 [] [] ansK) = true := works_isT
  revert h
  generalize (evKR Bk Gx fsT 1999999999999999).1 0 21 [] [] ansK = x
  intro h
  unfold isT at h
  split at h
  · rfl
  · cases h
end Go.Ab.Cl
