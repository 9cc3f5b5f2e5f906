/-
  ClaimTrue returns true, whatever it is handed: proved of the program's form in Lean, on an abstract machine that is shown to do what the program does. No conditions beyond the row's own.
-/
import Derived.Test.YthbekoofiienjaaDoorRowS
import Derived.Test.YthbekoofiienjaaDoorClPe
namespace Go.Proofs.YthbekoofiienjaaDoor
open Go.ChangeShapes Go.WideShapes Go.ChangeAt Go.RowKit Go.Ab

set_option maxRecDepth 100000 in
theorem claimTrue_lifted (os : Os) (started : os.Started) (H : Type) (enc : TypeId × Value → H) :
    ReturnsInHanded {} Tryd.checked os 7 .any (fun w args => (Rows.claimTrueSpec.pre enc Tryd.prog Tryd.f7 [] false w args ∧ laidMetH Tryd.prog laid1 w) ∧ sizedMet enc Tryd.prog Tryd.f7 (OpenSpec.ofChange Rows.claimTrueSpec) false w args)
      (Rows.claimTrueSpec.post enc Tryd.prog Tryd.f7 false true false false) := by
  refine returnsInHanded_of_change_and (C := Tryd.checked) (X := fun w _ => laidMetH Tryd.prog laid1 w) (fun _ _ _ hh h => h.of_heap hh) own started (by kernel_rfl) Tryd.func7
    (ChangeSpec.witness_shaped (enc := enc) (C := Tryd.checked) (os := os) (X := fun w _ => laidMetH Tryd.prog laid1 w) false (World.doorLaid Tryd.prog 600 os) #[.agg #[.int .i64 0, .int .i64 0, .int .i64 0, .int .i64 0, .slice none 0 0, .slice none 0 0], .slice none 0 0] 7 rfl (World.shaped_of_RefB (by kernel_rfl) (by kernel_rfl)) (by kernel_rfl) (by kernel_rfl) (by kernel_rfl) (door_met os _)) ?_
  intro W base args ds gs before hval0 hW _ hsz hL _
  have hW' := hW
  obtain ⟨p, q, hA0, hV, rfl, hfz, hnd⟩ := hW
  have hA : DataW.TrodAll enc Tryd.prog W 0 (fun _ => true) true Tryd.f7.params.toList args.toList ds p := hA0
  rw [Tryd.params7] at hA
  obtain ⟨v, v', d, d', p1, p2, rfl, rfl, rfl, ht, ht'⟩ := trodAll_two hA
  obtain ⟨rfl, rfl⟩ := trodVars_none hV
  have hk0 : Value.okWide Tryd.prog W .any base 27 v := hval0 0 27 v (by rw [Tryd.params7]; rfl) rfl
  have hk1 : Value.okWide Tryd.prog W .any base 29 v' := hval0 1 29 v' (by rw [Tryd.params7]; rfl) rfl
  have hws := hsz
  rw [Tryd.params7] at hws
  have hw : (d.weights Tryd.prog 27).all (· ≤ reachBytes) = true := weightsEach_get hws (i := 0) rfl rfl
  have hw2 : (d'.weights Tryd.prog 29).all (· ≤ reachBytes) = true := weightsEach_get hws (i := 1) rfl rfl
  obtain ⟨k, hko, hkv⟩ := Cl.desk_open hk0 ht hw
  obtain ⟨l, hl, hlv⟩ := Cl.ints_open hk1 ht' hw2
  have hr : reachBytes = 140737488351232 := rfl
  refine (law_calls (k := 7) rfl (args := [k.v, .sl (Cl.rowsI l) .any]) (Cl.law_true k hko l rfl (by omega)) hL ⟨rfl, fun j x hx => by
    match j, hx with
    | 0, hx => cases hx; exact hkv
    | 1, hx => cases hx; exact hlv
    | j + 2, hx => simp at hx⟩).mono fun e W' ⟨he, hB, hf⟩ => ?_
  subst he
  have hlt : ∀ x ∈ p1 ++ p2, x.block < W.heap.size := fun x hx => hW'.lt x (by simpa using hx)
  exact ⟨_, rfl, post_of_same (pa := p1 ++ p2) (pv := []) hW' (fun _ _ _ => trodAll_mk1 (shut_bool Tryd.underlying4 _)) (fun sp hsp => trodAll_mk2 (stays_trod (by kernel_rfl) (of_decide_eq_true (by kernel_rfl)) ht hB (fun x hx => hlt x (by simp [hx])) (fun x hx => hsp x (by simp [hx]))) (stays_trod (by kernel_rfl) (of_decide_eq_true (by kernel_rfl)) ht' hB (fun x hx => hlt x (by simp [hx])) (fun x hx => hsp x (by simp [hx])))) (fun _ _ => rfl) rfl (hB.frame _) hf (ok_one (by kernel_rfl) rfl (okWide_bool_mk Tryd.underlying4 _))⟩

theorem claimTrue_holds : Rows.ClaimTrueSaid :=
  OpenClaim.holds_of_wide 7 Tryd.f7 rfl rfl rfl rfl rfl rfl rfl ⟨rfl, rfl, rfl, rfl, rfl⟩ rfl rfl rfl rfl rfl (by kernel_rfl) Tryd.func7 (by kernel_rfl)
    (of_decide_eq_true (by kernel_rfl)) (by unfold Func.isWrapper; first | (rw [if_pos (by decide +kernel)]; kernel_rfl) | (rw [if_neg (by decide +kernel)]; exact ⟨rfl, rfl⟩))
    (fun os started H enc _ => claimTrue_lifted os started H enc)

theorem claimTrue_card : Rows.ClaimTrueCardSaid :=
  Claim7.holds_tied_plain_at .later [] [.funcs] true (true, "40f3040427be0c04aec3da7b6c5351f9e8b48b4d873cea388ad5d327d937ef06") false
    claimTrue_holds (fun _ h => by cases h) (by kernel_rfl) (fun _ h => by cases h) claimTrue_row_tie rfl ⟨rfl, rfl⟩ (by kernel_rfl) rfl
    (fun f fn hf hfn => by
      obtain rfl : f = 7 := Option.some.inj ((show Tryd.prog.funcNamed "wishbook/wishbooklaw09.ClaimTrue" = some 7 by kernel_rfl).symm.trans hf) |>.symm
      obtain rfl : fn = Tryd.f7 := (Option.some.inj (Tryd.func7.symm.trans hfn)).symm
      exact ⟨by kernel_rfl, fun j t ht => by
        rw [Tryd.params7] at ht
        match j, ht with
        | 0, ht => cases ht; exact (show Tryd.prog.wantsStandIn 27 = false by kernel_rfl)
        | 1, ht => cases ht; exact (show Tryd.prog.wantsStandIn 29 = false by kernel_rfl)
        | j + 2, ht => simp at ht⟩)
    (by kernel_rfl)
#print axioms claimTrue_card
end Go.Proofs.YthbekoofiienjaaDoor
