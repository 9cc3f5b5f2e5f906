/-
  ClaimTruths returns true, whatever it is handed: proved of the program's form in Lean, on an abstract machine that is shown to do what the program does. No conditions beyond the row's own.
-/
import Derived.Test.YthbekoofiienjaaDoorRowS
import Derived.Test.YthbekoofiienjaaDoorClTd
namespace Go.Proofs.YthbekoofiienjaaDoor
open Go.ChangeShapes Go.WideShapes Go.ChangeAt Go.RowKit Go.Ab

set_option maxRecDepth 100000 in
theorem claimTruths_lifted (os : Os) (started : os.Started) (H : Type) (enc : TypeId × Value → H) :
    ReturnsInHanded {} Tryd.checked os 3 .any (fun w args => (Rows.claimTruthsSpec.pre enc Tryd.prog Tryd.f3 [] false w args ∧ laidMetH Tryd.prog laid1 w) ∧ sizedMet enc Tryd.prog Tryd.f3 (OpenSpec.ofChange Rows.claimTruthsSpec) false w args)
      (Rows.claimTruthsSpec.post enc Tryd.prog Tryd.f3 false true false false) := by
  refine returnsInHanded_of_change_and (C := Tryd.checked) (X := fun w _ => laidMetH Tryd.prog laid1 w) (fun _ _ _ hh h => h.of_heap hh) own started (by kernel_rfl) Tryd.func3
    (ChangeSpec.witness_shaped (enc := enc) (C := Tryd.checked) (os := os) (X := fun w _ => laidMetH Tryd.prog laid1 w) false (World.doorLaid Tryd.prog 600 os) #[.agg #[.int .i64 0, .int .i64 0, .int .i64 0, .int .i64 0, .slice none 0 0, .slice none 0 0], .agg #[.int .i64 0, .int .i64 0], .slice none 0 0] 7 rfl (World.shaped_of_RefB (by kernel_rfl) (by kernel_rfl)) (by kernel_rfl) (by kernel_rfl) (by kernel_rfl) (door_met os _)) ?_
  intro W base args ds gs before hval0 hW _ hsz hL _
  have hW' := hW
  obtain ⟨p, q, hA0, hV, rfl, hfz, hnd⟩ := hW
  have hA : DataW.TrodAll enc Tryd.prog W 0 (fun _ => true) true Tryd.f3.params.toList args.toList ds p := hA0
  rw [Tryd.params3] at hA
  obtain ⟨v, v', v'', d, d', d'', p1, p2, p3, rfl, rfl, rfl, ht, ht', ht''⟩ := trodAll_three hA
  obtain ⟨rfl, rfl⟩ := trodVars_none hV
  have hk0 : Value.okWide Tryd.prog W .any base 27 v := hval0 0 27 v (by rw [Tryd.params3]; rfl) rfl
  have hk1 : Value.okWide Tryd.prog W .any base 28 v' := hval0 1 28 v' (by rw [Tryd.params3]; rfl) rfl
  have hk2 : Value.okWide Tryd.prog W .any base 29 v'' := hval0 2 29 v'' (by rw [Tryd.params3]; rfl) rfl
  have hws := hsz
  rw [Tryd.params3] at hws
  have hw : (d.weights Tryd.prog 27).all (· ≤ reachBytes) = true := weightsEach_get hws (i := 0) rfl rfl
  have hw2 : (d''.weights Tryd.prog 29).all (· ≤ reachBytes) = true := weightsEach_get hws (i := 2) rfl rfl
  obtain ⟨k, hko, hkv⟩ := Cl.desk_open hk0 ht hw
  obtain ⟨n0, n1, rfl, _, _⟩ := Cl.two_open hk1 ht'
  obtain ⟨l, hl, hlv⟩ := Cl.ints_open hk2 ht'' hw2
  have hr : reachBytes = 140737488351232 := rfl
  refine (law_calls (k := 3) rfl (args := [k.v, .agg [.int .i64 n0, .int .i64 n1], .sl (Cl.rowsI l) .any]) (Cl.law_truths k hko n0 n1 l rfl (by omega)) hL ⟨rfl, fun j x hx => by
    match j, hx with
    | 0, hx => cases hx; exact hkv
    | 1, hx =>
      cases hx
      exact .agg _ _ rfl (fun j v hv => match j, hv with
        | 0, hv => by cases hv; exact .int _ _
        | 1, hv => by cases hv; exact .int _ _
        | j + 2, hv => by simp at hv) (fun v hv => by
          simp only [List.mem_cons, List.not_mem_nil, or_false] at hv
          rcases hv with rfl | rfl <;> rfl)
    | 2, hx => cases hx; exact hlv
    | j + 3, hx => simp at hx⟩).mono fun e W' ⟨he, hB, hf⟩ => ?_
  subst he
  have hlt : ∀ x ∈ p1 ++ p2 ++ p3, x.block < W.heap.size := fun x hx => hW'.lt x (by simpa using hx)
  exact ⟨_, rfl, post_of_same (pa := p1 ++ p2 ++ p3) (pv := []) hW' (fun _ _ _ => trodAll_mk1 (shut_bool Tryd.underlying4 _)) (fun sp hsp => (List.append_assoc p1 p2 p3).symm ▸ trodAll_mk3 (stays_trod (by kernel_rfl) (of_decide_eq_true (by kernel_rfl)) ht hB (fun x hx => hlt x (by simp [hx])) (fun x hx => hsp x (by simp [hx]))) (stays_trod (by kernel_rfl) (of_decide_eq_true (by kernel_rfl)) ht' hB (fun x hx => hlt x (by simp [hx])) (fun x hx => hsp x (by simp [hx]))) (stays_trod (by kernel_rfl) (of_decide_eq_true (by kernel_rfl)) ht'' hB (fun x hx => hlt x (by simp [hx])) (fun x hx => hsp x (by simp [hx])))) (fun _ _ => rfl) rfl (hB.frame _) hf (ok_one (by kernel_rfl) rfl (okWide_bool_mk Tryd.underlying4 _))⟩

theorem claimTruths_holds : Rows.ClaimTruthsSaid :=
  OpenClaim.holds_of_wide 3 Tryd.f3 rfl rfl rfl rfl rfl rfl rfl ⟨rfl, rfl, rfl, rfl, rfl⟩ rfl rfl rfl rfl rfl (by kernel_rfl) Tryd.func3 (by kernel_rfl)
    (of_decide_eq_true (by kernel_rfl)) (by unfold Func.isWrapper; first | (rw [if_pos (by decide +kernel)]; kernel_rfl) | (rw [if_neg (by decide +kernel)]; exact ⟨rfl, rfl⟩))
    (fun os started H enc _ => claimTruths_lifted os started H enc)

theorem claimTruths_card : Rows.ClaimTruthsCardSaid :=
  Claim7.holds_tied_plain_at .later [] [.funcs] true (true, "40f3040427be0c04aec3da7b6c5351f9e8b48b4d873cea388ad5d327d937ef06") false
    claimTruths_holds (fun _ h => by cases h) (by kernel_rfl) (fun _ h => by cases h) claimTruths_row_tie rfl ⟨rfl, rfl⟩ (by kernel_rfl) rfl
    (fun f fn hf hfn => by
      obtain rfl : f = 3 := Option.some.inj ((show Tryd.prog.funcNamed "wishbook/wishbooklaw09.ClaimTruths" = some 3 by kernel_rfl).symm.trans hf) |>.symm
      obtain rfl : fn = Tryd.f3 := (Option.some.inj (Tryd.func3.symm.trans hfn)).symm
      exact ⟨by kernel_rfl, fun j t ht => by
        rw [Tryd.params3] at ht
        match j, ht with
        | 0, ht => cases ht; exact (show Tryd.prog.wantsStandIn 27 = false by kernel_rfl)
        | 1, ht => cases ht; exact (show Tryd.prog.wantsStandIn 28 = false by kernel_rfl)
        | 2, ht => cases ht; exact (show Tryd.prog.wantsStandIn 29 = false by kernel_rfl)
        | j + 3, ht => simp at ht⟩)
    (by kernel_rfl)
#print axioms claimTruths_card
end Go.Proofs.YthbekoofiienjaaDoor
