/-
  ClaimCould returns true, whatever it is handed: proved of the program's form in Lean, on an abstract machine that is shown to do what the program does. No conditions beyond the row's own.
-/
import Derived.Test.YthbekoofiienjaaDoorClO
import Derived.Test.YthbekoofiienjaaDoorClHf
namespace Go.Proofs.YthbekoofiienjaaDoor
open Go.ChangeShapes Go.WideShapes Go.ChangeAt Go.RowKit Go.Ab

theorem gx_eq : Gx = Cl.Gx := by
  funext n
  cases n <;> rfl
theorem laidOut : laidOutB Tryd.prog = true := by kernel_rfl

theorem stays_trod {H : Type} {enc : TypeId × Value → H} {t : TypeId} (hr : Tryd.prog.readableRec t = true) (hrow : t < Tryd.prog.types.size) {W W' : World} {v : Value} {d : DataW H} {ps : List MemPlace} {sp : Nat → Bool}
    (h : DataW.Trod enc Tryd.prog W 0 (fun _ => true) true t v d ps) (hb : Below W.heap.size W W') (hlt : ∀ x ∈ ps, x.block < W.heap.size) (hsp : ∀ x ∈ ps, sp x.block = true) :
    DataW.Trod enc Tryd.prog W' 0 sp true t v d ps :=
  WideElems.Trod_stays laidOut hr hrow h (fun x hx => hb.same (hlt x hx)) hsp

/-- What the machine says of a call with a desk and two numbers is what the call returns. -/
theorem desk_two_calls {k : Nat} (hk : k % 1000 = k) (law : ∀ (d : Cl.Desk), d.ok → ∀ n0 n1 : Int, (-9223372036854775808 ≤ n0 ∧ n0 ≤ 9223372036854775807) → (evKR Bk Cl.Gx fsT 2000000000000000).1 0 k [d.v, .agg [.int .i64 n0, .int .i64 n1]] [] ansK = some (.bool true, []))
    (W : World) (hL : laidMetH Tryd.prog laid1 W) {v v' : Value} {d : Cl.Desk} (hd : d.ok) (hv : VR (bare W).vw d.v v) {n0 n1 : Int} (hv' : v' = .agg #[.int .i64 n0, .int .i64 n1]) (hn : -9223372036854775808 ≤ n0 ∧ n0 ≤ 9223372036854775807) :
    Calls Tryd.prog k #[v, v'] W fun e W' => e = .returned (.bool true) ∧ Below W.heap.size W W' ∧ ∀ a, W'.frozen? a = W.frozen? a := by
  subst hv'
  have hs := law d hd n0 n1 hn
  rw [← gx_eq] at hs
  have hs : evK Gx fsT 2000000000000000 k [d.v, .agg [.int .i64 n0, .int .i64 n1]] = some (.bool true, []) := hs
  rw [evK_eq] at hs
  have := run_law (k := k) tabOK hF (glb hL) (args := [d.v, .agg [.int .i64 n0, .int .i64 n1]]) (cargs := #[v, .agg #[.int .i64 n0, .int .i64 n1]]) ⟨rfl, fun j x hx => ?_⟩ hs
  · rwa [hk] at this
  · match j, hx with
    | 0, hx => cases hx; exact hv
    | 1, hx =>
      cases hx
      refine .agg _ _ rfl (fun j v hv => ?_) (fun v hv => ?_)
      · match j, hv with
        | 0, hv => cases hv; exact .int _ _
        | 1, hv => cases hv; exact .int _ _
        | j + 2, hv => simp at hv
      · simp only [List.mem_cons, List.not_mem_nil, or_false] at hv
        rcases hv with rfl | rfl <;> rfl
    | j + 2, hx => simp at hx

set_option maxRecDepth 100000 in
theorem claimCould_lifted (os : Os) (started : os.Started) (H : Type) (enc : TypeId × Value → H) :
    ReturnsInHanded {} Tryd.checked os 9 .any (fun w args => (Rows.claimCouldSpec.pre enc Tryd.prog Tryd.f9 [] false w args ∧ laidMetH Tryd.prog laid1 w) ∧ sizedMet enc Tryd.prog Tryd.f9 (OpenSpec.ofChange Rows.claimCouldSpec) false w args)
      (Rows.claimCouldSpec.post enc Tryd.prog Tryd.f9 false true false false) := by
  refine returnsInHanded_of_change_and (C := Tryd.checked) (X := fun w _ => laidMetH Tryd.prog laid1 w) (fun _ _ _ hh h => h.of_heap hh) own started (by kernel_rfl) Tryd.func9
    (ChangeSpec.witness_shaped (enc := enc) (C := Tryd.checked) (os := os) (X := fun w _ => laidMetH Tryd.prog laid1 w) false (World.doorLaid Tryd.prog 600 os) #[.agg #[.int .i64 0, .int .i64 0, .int .i64 0, .int .i64 0, .slice none 0 0, .slice none 0 0], .agg #[.int .i64 0, .int .i64 0]] 8 rfl (World.shaped_of_RefB (by kernel_rfl) (by kernel_rfl)) (by kernel_rfl) (by kernel_rfl) (by kernel_rfl) (door_met os _)) ?_
  intro W base args ds gs before hval0 hW _ hsz hL _
  have hW' := hW
  obtain ⟨p, q, hA0, hV, rfl, hfz, hnd⟩ := hW
  have hA : DataW.TrodAll enc Tryd.prog W 0 (fun _ => true) true Tryd.f9.params.toList args.toList ds p := hA0
  rw [Tryd.params9] at hA
  obtain ⟨v, v', d, d', p1, p2, rfl, rfl, rfl, ht, ht'⟩ := trodAll_two hA
  obtain ⟨rfl, rfl⟩ := trodVars_none hV
  have hk0 : Value.okWide Tryd.prog W .any base 27 v := hval0 0 27 v (by rw [Tryd.params9]; rfl) rfl
  have hk1 : Value.okWide Tryd.prog W .any base 28 v' := hval0 1 28 v' (by rw [Tryd.params9]; rfl) rfl
  have hw : (d.weights Tryd.prog 27).all (· ≤ reachBytes) = true := by
    have h := hsz
    rw [Tryd.params9] at h
    exact weightsEach_get h (i := 0) rfl rfl
  obtain ⟨k, hko, hkv⟩ := Cl.desk_open hk0 ht hw
  obtain ⟨n0, n1, hv', hn0, hn1⟩ := Cl.two_open hk1 ht'
  refine (desk_two_calls (k := 9) rfl (fun d hd n0 n1 hn => Cl.law_could d hd n0 n1 hn) W hL hko hkv hv' hn0).mono fun e W' ⟨he, hB, hf⟩ => ?_
  subst he
  have hlt : ∀ x ∈ p1 ++ p2, x.block < W.heap.size := fun x hx => hW'.lt x (by simpa using hx)
  exact ⟨_, rfl, post_of_same (pa := p1 ++ p2) (pv := []) hW' (fun _ _ _ => trodAll_mk1 (shut_bool Tryd.underlying4 _)) (fun sp hsp => trodAll_mk2 (stays_trod (by kernel_rfl) (of_decide_eq_true (by kernel_rfl)) ht hB (fun x hx => hlt x (by simp [hx])) (fun x hx => hsp x (by simp [hx]))) (stays_trod (by kernel_rfl) (of_decide_eq_true (by kernel_rfl)) ht' hB (fun x hx => hlt x (by simp [hx])) (fun x hx => hsp x (by simp [hx])))) (fun _ _ => rfl) rfl (hB.frame _) hf (ok_one (by kernel_rfl) rfl (okWide_bool_mk Tryd.underlying4 _))⟩

theorem claimCould_holds : Rows.ClaimCouldSaid :=
  OpenClaim.holds_of_wide 9 Tryd.f9 rfl rfl rfl rfl rfl rfl rfl ⟨rfl, rfl, rfl, rfl, rfl⟩ rfl rfl rfl rfl rfl (by kernel_rfl) Tryd.func9 (by kernel_rfl)
    (of_decide_eq_true (by kernel_rfl)) (by unfold Func.isWrapper; first | (rw [if_pos (by decide +kernel)]; kernel_rfl) | (rw [if_neg (by decide +kernel)]; exact ⟨rfl, rfl⟩))
    (fun os started H enc _ => claimCould_lifted os started H enc)

theorem claimCould_card : Rows.ClaimCouldCardSaid :=
  Claim7.holds_tied_plain_at .later [] [.funcs] true (true, "40f3040427be0c04aec3da7b6c5351f9e8b48b4d873cea388ad5d327d937ef06") false
    claimCould_holds (fun _ h => by cases h) (by kernel_rfl) (fun _ h => by cases h) claimCould_row_tie rfl ⟨rfl, rfl⟩ (by kernel_rfl) rfl
    (fun f fn hf hfn => by
      obtain rfl : f = 9 := Option.some.inj ((show Tryd.prog.funcNamed "wishbook/wishbooklaw09.ClaimCould" = some 9 by kernel_rfl).symm.trans hf) |>.symm
      obtain rfl : fn = Tryd.f9 := (Option.some.inj (Tryd.func9.symm.trans hfn)).symm
      exact ⟨by kernel_rfl, fun j t ht => by
        rw [Tryd.params9] at ht
        match j, ht with
        | 0, ht => cases ht; exact (show Tryd.prog.wantsStandIn 27 = false by kernel_rfl)
        | 1, ht => cases ht; exact (show Tryd.prog.wantsStandIn 28 = false by kernel_rfl)
        | j + 2, ht => simp at ht⟩)
    (by kernel_rfl)
#print axioms claimCould_card
end Go.Proofs.YthbekoofiienjaaDoor
