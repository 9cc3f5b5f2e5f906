/-
  The abstract code is the program's: each function is checked by the kernel.
-/
import Derived.Test.YthbekoofiienjaaDoorCodeY
import Derived.Test.YthbekoofiienjaaDoorProg
set_option maxRecDepth 100000
namespace Go.Ab
open Go Go.Proofs

noncomputable def guardB (t : Nat) : Bool := Tryd.prog.eqGuardType Tryd.prog.depth t
theorem mixedB : Tryd.prog.follows .mixedOrders = true := by decide +kernel
theorem c3 : chkF tyT [0] guardB true a3 Tryd.f3 = true := by decide +kernel
theorem c4 : chkF tyT [0] guardB true a4 Tryd.f4 = true := by decide +kernel
theorem c9 : chkF tyT [0] guardB true a9 Tryd.f9 = true := by decide +kernel
theorem c11 : chkF tyT [0] guardB true a11 Tryd.f11 = true := by decide +kernel
theorem c13 : chkF tyT [0] guardB true a13 Tryd.f13 = true := by decide +kernel
theorem c14 : chkF tyT [0] guardB true a14 Tryd.f14 = true := by decide +kernel
theorem c15 : chkF tyT [0] guardB true a15 Tryd.f15 = true := by decide +kernel
theorem c16 : chkF tyT [0] guardB true a16 Tryd.f16 = true := by decide +kernel
theorem c17 : chkF tyT [0] guardB true a17 Tryd.f17 = true := by decide +kernel
theorem c18 : chkF tyT [0] guardB true a18 Tryd.f18 = true := by decide +kernel
theorem c19 : chkF tyT [0] guardB true a19 Tryd.f19 = true := by decide +kernel
theorem c20 : chkF tyT [0] guardB true a20 Tryd.f20 = true := by decide +kernel
theorem c21 : chkF tyT [0] guardB true a21 Tryd.f21 = true := by decide +kernel
theorem c22 : chkF tyT [0] guardB true a22 Tryd.f22 = true := by decide +kernel
theorem c23 : chkF tyT [0] guardB true a23 Tryd.f23 = true := by decide +kernel
theorem c24 : chkF tyT [0] guardB true a24 Tryd.f24 = true := by decide +kernel
theorem c25 : chkF tyT [0] guardB true a25 Tryd.f25 = true := by decide +kernel
theorem c26 : chkF tyT [0] guardB true a26 Tryd.f26 = true := by decide +kernel
theorem c27 : chkF tyT [0] guardB true a27 Tryd.f27 = true := by decide +kernel
theorem c29 : chkF tyT [0] guardB true a29 Tryd.f29 = true := by decide +kernel
theorem c31 : chkF tyT [0] guardB true a31 Tryd.f31 = true := by decide +kernel
theorem c33 : chkF tyT [0] guardB true a33 Tryd.f33 = true := by decide +kernel
theorem c35 : chkF tyT [0] guardB true a35 Tryd.f35 = true := by decide +kernel
theorem c38 : chkF tyT [0] guardB true a38 Tryd.f38 = true := by decide +kernel
theorem c39 : chkF tyT [0] guardB true a39 Tryd.f39 = true := by decide +kernel
theorem c40 : chkF tyT [0] guardB true a40 Tryd.f40 = true := by decide +kernel
theorem c41 : chkF tyT [0] guardB true a41 Tryd.f41 = true := by decide +kernel
theorem c42 : chkF tyT [0] guardB true a42 Tryd.f42 = true := by decide +kernel
theorem c43 : chkF tyT [0] guardB true a43 Tryd.f43 = true := by decide +kernel
theorem c44 : chkF tyT [0] guardB true a44 Tryd.f44 = true := by decide +kernel
theorem c45 : chkF tyT [0] guardB true a45 Tryd.f45 = true := by decide +kernel
theorem c46 : chkF tyT [0] guardB true a46 Tryd.f46 = true := by decide +kernel
theorem c49 : chkF tyT [0] guardB true a49 Tryd.f49 = true := by decide +kernel
theorem c50 : chkF tyT [0] guardB true a50 Tryd.f50 = true := by decide +kernel
theorem c51 : chkF tyT [0] guardB true a51 Tryd.f51 = true := by decide +kernel
theorem c52 : chkF tyT [0] guardB true a52 Tryd.f52 = true := by decide +kernel
theorem c53 : chkF tyT [0] guardB true a53 Tryd.f53 = true := by decide +kernel
theorem c54 : chkF tyT [0] guardB true a54 Tryd.f54 = true := by decide +kernel
theorem c55 : chkF tyT [0] guardB true a55 Tryd.f55 = true := by decide +kernel
theorem c56 : chkF tyT [0] guardB true a56 Tryd.f56 = true := by decide +kernel
theorem c57 : chkF tyT [0] guardB true a57 Tryd.f57 = true := by decide +kernel
theorem c58 : chkF tyT [0] guardB true a58 Tryd.f58 = true := by decide +kernel
theorem c59 : chkF tyT [0] guardB true a59 Tryd.f59 = true := by decide +kernel
theorem c60 : chkF tyT [0] guardB true a60 Tryd.f60 = true := by decide +kernel
theorem c61 : chkF tyT [0] guardB true a61 Tryd.f61 = true := by decide +kernel
theorem c62 : chkF tyT [0] guardB true a62 Tryd.f62 = true := by decide +kernel
theorem c63 : chkF tyT [0] guardB true a63 Tryd.f63 = true := by decide +kernel
theorem c64 : chkF tyT [0] guardB true a64 Tryd.f64 = true := by decide +kernel
theorem c65 : chkF tyT [0] guardB true a65 Tryd.f65 = true := by decide +kernel
theorem c66 : chkF tyT [0] guardB true a66 Tryd.f66 = true := by decide +kernel
theorem c67 : chkF tyT [0] guardB true a67 Tryd.f67 = true := by decide +kernel
theorem c68 : chkF tyT [0] guardB true a68 Tryd.f68 = true := by decide +kernel
theorem c69 : chkF tyT [0] guardB true a69 Tryd.f69 = true := by decide +kernel
theorem c70 : chkF tyT [0] guardB true a70 Tryd.f70 = true := by decide +kernel
theorem c71 : chkF tyT [0] guardB true a71 Tryd.f71 = true := by decide +kernel
theorem c72 : chkF tyT [0] guardB true a72 Tryd.f72 = true := by decide +kernel
theorem c73 : chkF tyT [0] guardB true a73 Tryd.f73 = true := by decide +kernel
theorem c74 : chkF tyT [0] guardB true a74 Tryd.f74 = true := by decide +kernel
theorem c75 : chkF tyT [0] guardB true a75 Tryd.f75 = true := by decide +kernel
theorem c76 : chkF tyT [0] guardB true a76 Tryd.f76 = true := by decide +kernel
theorem c77 : chkF tyT [0] guardB true a77 Tryd.f77 = true := by decide +kernel
theorem c78 : chkF tyT [0] guardB true a78 Tryd.f78 = true := by decide +kernel
theorem c82 : chkF tyT [0] guardB true a82 Tryd.f82 = true := by decide +kernel
theorem c83 : chkF tyT [0] guardB true a83 Tryd.f83 = true := by decide +kernel
theorem c84 : chkF tyT [0] guardB true a84 Tryd.f84 = true := by decide +kernel
theorem c85 : chkF tyT [0] guardB true a85 Tryd.f85 = true := by decide +kernel
theorem c86 : chkF tyT [0] guardB true a86 Tryd.f86 = true := by decide +kernel
theorem c87 : chkF tyT [0] guardB true a87 Tryd.f87 = true := by decide +kernel
theorem c88 : chkF tyT [0] guardB true a88 Tryd.f88 = true := by decide +kernel
theorem c89 : chkF tyT [0] guardB true a89 Tryd.f89 = true := by decide +kernel
theorem c90 : chkF tyT [0] guardB true a90 Tryd.f90 = true := by decide +kernel
theorem c107 : chkF tyT [0] guardB true a107 Tryd.f107 = true := by decide +kernel
theorem c108 : chkF tyT [0] guardB true a108 Tryd.f108 = true := by decide +kernel
theorem c109 : chkF tyT [0] guardB true a109 Tryd.f109 = true := by decide +kernel
theorem c113 : chkF tyT [0] guardB true a113 Tryd.f113 = true := by decide +kernel
theorem c1050 : chkF tyT [0] guardB true a1050 Tryd.f50 = true := by decide +kernel
theorem hF : ∀ k f, fsT.find k = some f → ∃ pf, Tryd.prog.funcs[k % 1000]? = some pf ∧ chkF tyT [0] (Tryd.prog.eqGuardType Tryd.prog.depth) (Tryd.prog.follows .mixedOrders) f pf = true := by
  intro k f h
  rw [mixedB]
  exact Tr.find_all (p := fun k f => ∃ pf, Tryd.prog.funcs[k % 1000]? = some pf ∧ chkF tyT [0] (Tryd.prog.eqGuardType Tryd.prog.depth) true f pf = true) h
    ⟨⟨⟨⟨⟨⟨⟨Tryd.f3, rfl, c3⟩, ⟨Tryd.f4, rfl, c4⟩⟩, ⟨⟨Tryd.f9, rfl, c9⟩, ⟨Tryd.f11, rfl, c11⟩⟩⟩, ⟨⟨⟨Tryd.f13, rfl, c13⟩, ⟨Tryd.f14, rfl, c14⟩⟩, ⟨⟨Tryd.f15, rfl, c15⟩, ⟨⟨Tryd.f16, rfl, c16⟩, ⟨Tryd.f17, rfl, c17⟩⟩⟩⟩⟩, ⟨⟨⟨⟨Tryd.f18, rfl, c18⟩, ⟨Tryd.f19, rfl, c19⟩⟩, ⟨⟨Tryd.f20, rfl, c20⟩, ⟨⟨Tryd.f21, rfl, c21⟩, ⟨Tryd.f22, rfl, c22⟩⟩⟩⟩, ⟨⟨⟨Tryd.f23, rfl, c23⟩, ⟨Tryd.f24, rfl, c24⟩⟩, ⟨⟨Tryd.f25, rfl, c25⟩, ⟨⟨Tryd.f26, rfl, c26⟩, ⟨Tryd.f27, rfl, c27⟩⟩⟩⟩⟩⟩, ⟨⟨⟨⟨⟨Tryd.f29, rfl, c29⟩, ⟨Tryd.f31, rfl, c31⟩⟩, ⟨⟨Tryd.f33, rfl, c33⟩, ⟨Tryd.f35, rfl, c35⟩⟩⟩, ⟨⟨⟨Tryd.f38, rfl, c38⟩, ⟨Tryd.f39, rfl, c39⟩⟩, ⟨⟨Tryd.f40, rfl, c40⟩, ⟨⟨Tryd.f41, rfl, c41⟩, ⟨Tryd.f42, rfl, c42⟩⟩⟩⟩⟩, ⟨⟨⟨⟨Tryd.f43, rfl, c43⟩, ⟨Tryd.f44, rfl, c44⟩⟩, ⟨⟨Tryd.f45, rfl, c45⟩, ⟨⟨Tryd.f46, rfl, c46⟩, ⟨Tryd.f49, rfl, c49⟩⟩⟩⟩, ⟨⟨⟨Tryd.f50, rfl, c50⟩, ⟨Tryd.f51, rfl, c51⟩⟩, ⟨⟨Tryd.f52, rfl, c52⟩, ⟨⟨Tryd.f53, rfl, c53⟩, ⟨Tryd.f54, rfl, c54⟩⟩⟩⟩⟩⟩⟩, ⟨⟨⟨⟨⟨⟨Tryd.f55, rfl, c55⟩, ⟨Tryd.f56, rfl, c56⟩⟩, ⟨⟨Tryd.f57, rfl, c57⟩, ⟨Tryd.f58, rfl, c58⟩⟩⟩, ⟨⟨⟨Tryd.f59, rfl, c59⟩, ⟨Tryd.f60, rfl, c60⟩⟩, ⟨⟨Tryd.f61, rfl, c61⟩, ⟨⟨Tryd.f62, rfl, c62⟩, ⟨Tryd.f63, rfl, c63⟩⟩⟩⟩⟩, ⟨⟨⟨⟨Tryd.f64, rfl, c64⟩, ⟨Tryd.f65, rfl, c65⟩⟩, ⟨⟨Tryd.f66, rfl, c66⟩, ⟨⟨Tryd.f67, rfl, c67⟩, ⟨Tryd.f68, rfl, c68⟩⟩⟩⟩, ⟨⟨⟨Tryd.f69, rfl, c69⟩, ⟨Tryd.f70, rfl, c70⟩⟩, ⟨⟨Tryd.f71, rfl, c71⟩, ⟨⟨Tryd.f72, rfl, c72⟩, ⟨Tryd.f73, rfl, c73⟩⟩⟩⟩⟩⟩, ⟨⟨⟨⟨⟨Tryd.f74, rfl, c74⟩, ⟨Tryd.f75, rfl, c75⟩⟩, ⟨⟨Tryd.f76, rfl, c76⟩, ⟨Tryd.f77, rfl, c77⟩⟩⟩, ⟨⟨⟨Tryd.f78, rfl, c78⟩, ⟨Tryd.f82, rfl, c82⟩⟩, ⟨⟨Tryd.f83, rfl, c83⟩, ⟨⟨Tryd.f84, rfl, c84⟩, ⟨Tryd.f85, rfl, c85⟩⟩⟩⟩⟩, ⟨⟨⟨⟨Tryd.f86, rfl, c86⟩, ⟨Tryd.f87, rfl, c87⟩⟩, ⟨⟨Tryd.f88, rfl, c88⟩, ⟨⟨Tryd.f89, rfl, c89⟩, ⟨Tryd.f90, rfl, c90⟩⟩⟩⟩, ⟨⟨⟨Tryd.f107, rfl, c107⟩, ⟨Tryd.f108, rfl, c108⟩⟩, ⟨⟨Tryd.f109, rfl, c109⟩, ⟨⟨Tryd.f113, rfl, c113⟩, ⟨Tryd.f50, rfl, c1050⟩⟩⟩⟩⟩⟩⟩⟩
noncomputable def okUp : Nat → Bool
  | 0 => true
  | n + 1 => (match tyT n with | some i => okTy Tryd.prog n i | none => true) && okUp n
theorem okAll : okUp tyL.length = true := by decide +kernel
theorem okUp_get : ∀ (n t : Nat) (i : TyI), okUp n = true → t < n → tyT t = some i → okTy Tryd.prog t i = true
  | 0, _, _, _, h, _ => by omega
  | n + 1, t, i, h, hl, ht => by
    simp only [okUp, Bool.and_eq_true] at h
    by_cases he : t = n
    · subst he
      have h1 := h.1
      rw [ht] at h1
      exact h1
    · exact okUp_get n t i h.2 (by omega) ht
theorem tabOK : TabOK Tryd.prog tyT := fun t i h => okTy_ok (okUp_get _ t i okAll (by
  rcases Nat.lt_or_ge t tyL.length with hl | hl
  · exact hl
  · unfold tyT at h; rw [List.getElem?_eq_none hl] at h; cases h) h)
end Go.Ab
