/-
  ClaimMore returns true, whatever it is handed: proved of the program's form in Lean, on an abstract machine that is shown to do what the program does. No conditions beyond the row's own.
-/
import Derived.Test.YthbekoofiienjaaDoorRowS
import Derived.Test.YthbekoofiienjaaDoorClMe
namespace Go.Ab.Cl
open Go Go.Ab Go.RowKit Go.ChangeShapes Go.WideShapes Go.ChangeAt Go.Proofs

theorem u69 : Tryd.prog.underlying 69 = some (.array 3 3) := by kernel_rfl
theorem c69 : Tryd.prog.cellsOf 69 = 3 := by kernel_rfl

section
variable {H : Type} {enc : TypeId × Value → H} {W : World} {base : Nat} {spare : Nat → Bool} {held : Bool}

set_option maxRecDepth 100000 in
theorem three_open {v : Value} {d : DataW H} {p : List MemPlace} {r : Reach} {b0 : Nat} (hok : Value.okWide Tryd.prog W r b0 69 v) (hd : DataW.Trod enc Tryd.prog W base spare held 69 v d p) :
    ∃ n0 n1 n2 : Int, v = .agg #[.int .i64 n0, .int .i64 n1, .int .i64 n2] := by
  unfold Value.okWide at hok
  rw [u69] at hok
  obtain ⟨⟨cs⟩, rfl, hsz, _⟩ := hok
  obtain ⟨m, h⟩ := hd
  obtain ⟨xs, k, rfl, _, _, hn, hel⟩ := DataW.trod_array u69 h
  rw [c69] at hsz
  have hcs : (Value.agg ⟨cs⟩).cells.toList = cs := rfl
  rw [hcs] at hel
  match cs, hsz with
  | [v0, v1, v2], _ =>
    match xs, hn with
    | [x0, x1, x2], _ =>
      have h0 := hel 0 (by decide)
      have h1 := hel 1 (by decide)
      have h2 := hel 2 (by decide)
      rw [c3] at h0 h1 h2
      obtain ⟨z0, rfl, _⟩ := int_open (show DataW.trod enc Tryd.prog W base spare held k 3 [v0] = some x0 from h0)
      obtain ⟨z1, rfl, _⟩ := int_open (show DataW.trod enc Tryd.prog W base spare held k 3 [v1] = some x1 from h1)
      obtain ⟨z2, rfl, _⟩ := int_open (show DataW.trod enc Tryd.prog W base spare held k 3 [v2] = some x2 from h2)
      exact ⟨z0, z1, z2, rfl⟩

set_option maxRecDepth 100000 in
theorem parcel_arg {r : Reach} {b0 : Nat} {v : Value} {d : DataW H} {p : List MemPlace} (hok : Value.okWide Tryd.prog W r b0 56 v) (hd : DataW.Trod enc Tryd.prog W base spare held 56 v d p) :
    ∃ q : Parcel, v = .agg #[.int .i64 q.day, .int .i64 q.weight, .int .i64 q.mark, .int .i64 q.value] := by
  obtain ⟨fs, hu, hL⟩ := u56
  obtain ⟨m, h⟩ := hd
  obtain ⟨_, hf⟩ := struct_get hu hL h
  obtain ⟨cs, rfl, hsz, _⟩ := cellOf (L := [3, 3, 3, 3]) hu (by kernel_rfl) hok
  obtain ⟨cs⟩ := cs
  rw [c56] at hsz
  have hcs : (Value.agg ⟨cs⟩).cells.toList = cs := rfl
  rw [hcs] at hf
  match cs, hsz with
  | [v0, v1, v2, v3], _ =>
    obtain ⟨_, _, h0, _⟩ := hf 0 3 0 rfl
    obtain ⟨_, _, h1, _⟩ := hf 1 3 1 rfl
    obtain ⟨_, _, h2, _⟩ := hf 2 3 2 rfl
    obtain ⟨_, _, h3, _⟩ := hf 3 3 3 rfl
    rw [c3] at h0 h1 h2 h3
    obtain ⟨z0, rfl, _⟩ := int_open h0
    obtain ⟨z1, rfl, _⟩ := int_open h1
    obtain ⟨z2, rfl, _⟩ := int_open h2
    obtain ⟨z3, rfl, _⟩ := int_open h3
    exact ⟨⟨z0, z1, z2, z3⟩, rfl⟩
end

end Go.Ab.Cl
namespace Go.Proofs.YthbekoofiienjaaDoor
open Go.ChangeShapes Go.WideShapes Go.ChangeAt Go.RowKit Go.Ab

set_option maxRecDepth 100000 in
theorem claimMore_lifted (os : Os) (started : os.Started) (H : Type) (enc : TypeId × Value → H) :
    ReturnsInHanded {} Tryd.checked os 11 .any (fun w args => (Rows.claimMoreSpec.pre enc Tryd.prog Tryd.f11 [] false w args ∧ laidMetH Tryd.prog laid1 w) ∧ sizedMet enc Tryd.prog Tryd.f11 (OpenSpec.ofChange Rows.claimMoreSpec) false w args)
      (Rows.claimMoreSpec.post enc Tryd.prog Tryd.f11 false true false false) := by
  refine returnsInHanded_of_change_and (C := Tryd.checked) (X := fun w _ => laidMetH Tryd.prog laid1 w) (fun _ _ _ hh h => h.of_heap hh) own started (by kernel_rfl) Tryd.func11
    (ChangeSpec.witness_shaped (enc := enc) (C := Tryd.checked) (os := os) (X := fun w _ => laidMetH Tryd.prog laid1 w) false (World.doorLaid Tryd.prog 600 os) #[.agg #[.int .i64 0, .int .i64 0, .int .i64 0, .int .i64 0, .slice none 0 0, .slice none 0 0], .agg #[.int .i64 0, .int .i64 0, .int .i64 0, .int .i64 0], .agg #[.int .i64 0, .int .i64 0, .int .i64 0]] 7 rfl (World.shaped_of_RefB (by kernel_rfl) (by kernel_rfl)) (by kernel_rfl) (by kernel_rfl) (by kernel_rfl) (door_met os _)) ?_
  intro W base args ds gs before hval0 hW _ hsz hL _
  have hW' := hW
  obtain ⟨p, q, hA0, hV, rfl, hfz, hnd⟩ := hW
  have hA : DataW.TrodAll enc Tryd.prog W 0 (fun _ => true) true Tryd.f11.params.toList args.toList ds p := hA0
  rw [Tryd.params11] at hA
  obtain ⟨v, v', v'', d, d', d'', p1, p2, p3, rfl, rfl, rfl, ht, ht', ht''⟩ := trodAll_three hA
  obtain ⟨rfl, rfl⟩ := trodVars_none hV
  have hk0 : Value.okWide Tryd.prog W .any base 27 v := hval0 0 27 v (by rw [Tryd.params11]; rfl) rfl
  have hk1 : Value.okWide Tryd.prog W .any base 56 v' := hval0 1 56 v' (by rw [Tryd.params11]; rfl) rfl
  have hk2 : Value.okWide Tryd.prog W .any base 69 v'' := hval0 2 69 v'' (by rw [Tryd.params11]; rfl) rfl
  have hws := hsz
  rw [Tryd.params11] at hws
  have hw : (d.weights Tryd.prog 27).all (· ≤ reachBytes) = true := weightsEach_get hws (i := 0) rfl rfl
  obtain ⟨k, hko, hkv⟩ := Cl.desk_open hk0 ht hw
  obtain ⟨qq, rfl⟩ := Cl.parcel_arg hk1 ht'
  obtain ⟨n0, n1, n2, rfl⟩ := Cl.three_open hk2 ht''
  refine (law_calls (k := 11) rfl (args := [k.v, .agg qq.c, .agg [.int .i64 n0, .int .i64 n1, .int .i64 n2]]) (Cl.law_more k hko qq n0 n1 n2) hL ⟨rfl, fun j x hx => by
    match j, hx with
    | 0, hx => cases hx; exact hkv
    | 1, hx =>
      cases hx
      exact .agg _ _ rfl (fun j v hv => match j, hv with
        | 0, hv => by cases hv; exact .int _ _
        | 1, hv => by cases hv; exact .int _ _
        | 2, hv => by cases hv; exact .int _ _
        | 3, hv => by cases hv; exact .int _ _
        | j + 4, hv => by simp [Cl.Parcel.c] at hv) (fun v hv => by
          simp only [Cl.Parcel.c, List.mem_cons, List.not_mem_nil, or_false] at hv
          rcases hv with rfl | rfl | rfl | rfl <;> rfl)
    | 2, hx =>
      cases hx
      exact .agg _ _ rfl (fun j v hv => match j, hv with
        | 0, hv => by cases hv; exact .int _ _
        | 1, hv => by cases hv; exact .int _ _
        | 2, hv => by cases hv; exact .int _ _
        | j + 3, hv => by simp at hv) (fun v hv => by
          simp only [List.mem_cons, List.not_mem_nil, or_false] at hv
          rcases hv with rfl | rfl | rfl <;> rfl)
    | j + 3, hx => simp at hx⟩).mono fun e W' ⟨he, hB, hf⟩ => ?_
  subst he
  have hlt : ∀ x ∈ p1 ++ p2 ++ p3, x.block < W.heap.size := fun x hx => hW'.lt x (by simpa using hx)
  exact ⟨_, rfl, post_of_same (pa := p1 ++ p2 ++ p3) (pv := []) hW' (fun _ _ _ => trodAll_mk1 (shut_bool Tryd.underlying4 _)) (fun sp hsp => (List.append_assoc p1 p2 p3).symm ▸ trodAll_mk3 (stays_trod (by kernel_rfl) (of_decide_eq_true (by kernel_rfl)) ht hB (fun x hx => hlt x (by simp [hx])) (fun x hx => hsp x (by simp [hx]))) (stays_trod (by kernel_rfl) (of_decide_eq_true (by kernel_rfl)) ht' hB (fun x hx => hlt x (by simp [hx])) (fun x hx => hsp x (by simp [hx]))) (stays_trod (by kernel_rfl) (of_decide_eq_true (by kernel_rfl)) ht'' hB (fun x hx => hlt x (by simp [hx])) (fun x hx => hsp x (by simp [hx])))) (fun _ _ => rfl) rfl (hB.frame _) hf (ok_one (by kernel_rfl) rfl (okWide_bool_mk Tryd.underlying4 _))⟩

theorem claimMore_holds : Rows.ClaimMoreSaid :=
  OpenClaim.holds_of_wide 11 Tryd.f11 rfl rfl rfl rfl rfl rfl rfl ⟨rfl, rfl, rfl, rfl, rfl⟩ rfl rfl rfl rfl rfl (by kernel_rfl) Tryd.func11 (by kernel_rfl)
    (of_decide_eq_true (by kernel_rfl)) (by unfold Func.isWrapper; first | (rw [if_pos (by decide +kernel)]; kernel_rfl) | (rw [if_neg (by decide +kernel)]; exact ⟨rfl, rfl⟩))
    (fun os started H enc _ => claimMore_lifted os started H enc)

theorem claimMore_card : Rows.ClaimMoreCardSaid :=
  Claim7.holds_tied_plain_at .later [] [.funcs] true (true, "40f3040427be0c04aec3da7b6c5351f9e8b48b4d873cea388ad5d327d937ef06") false
    claimMore_holds (fun _ h => by cases h) (by kernel_rfl) (fun _ h => by cases h) claimMore_row_tie rfl ⟨rfl, rfl⟩ (by kernel_rfl) rfl
    (fun f fn hf hfn => by
      obtain rfl : f = 11 := Option.some.inj ((show Tryd.prog.funcNamed "wishbook/wishbooklaw09.ClaimMore" = some 11 by kernel_rfl).symm.trans hf) |>.symm
      obtain rfl : fn = Tryd.f11 := (Option.some.inj (Tryd.func11.symm.trans hfn)).symm
      exact ⟨by kernel_rfl, fun j t ht => by
        rw [Tryd.params11] at ht
        match j, ht with
        | 0, ht => cases ht; exact (show Tryd.prog.wantsStandIn 27 = false by kernel_rfl)
        | 1, ht => cases ht; exact (show Tryd.prog.wantsStandIn 56 = false by kernel_rfl)
        | 2, ht => cases ht; exact (show Tryd.prog.wantsStandIn 69 = false by kernel_rfl)
        | j + 3, ht => simp at ht⟩)
    (by kernel_rfl)
#print axioms claimMore_card
end Go.Proofs.YthbekoofiienjaaDoor
