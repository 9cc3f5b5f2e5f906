/-
  The claims: a desk that is handed in, told to the abstract machine.
-/
import Derived.Test.YthbekoofiienjaaDoorOpn
import Derived.Test.YthbekoofiienjaaDoorRowB
import Derived.Test.YthbekoofiienjaaDoorClB
namespace Go.Ab.Cl
open Go Go.Ab Go.RowKit Go.ChangeShapes Go.WideShapes Go.ChangeAt Go.Proofs

theorem u3 : Tryd.prog.underlying 3 = some (.int .i64) := by kernel_rfl
theorem u4 : Tryd.prog.underlying 4 = some .bool := by kernel_rfl
theorem u9 : Tryd.prog.underlying 9 = some .string := by kernel_rfl
def fieldsOf (P : Program) (t : TypeId) : Array Field := match P.underlying t with | some (.struct fs) => fs | _ => #[]
theorem u23 : ∃ fs : Array Field, Tryd.prog.underlying 23 = some (.struct fs) ∧ fs.toList.map (fun f => (f.type, f.offset)) = [(3, 0), (3, 1)] := ⟨fieldsOf Tryd.prog 23, by kernel_rfl, by kernel_rfl⟩
theorem u27 : ∃ fs : Array Field, Tryd.prog.underlying 27 = some (.struct fs) ∧ fs.toList.map (fun f => (f.type, f.offset)) = [(23, 0), (3, 2), (3, 3), (24, 4), (25, 5)] := ⟨fieldsOf Tryd.prog 27, by kernel_rfl, by kernel_rfl⟩
theorem u56 : ∃ fs : Array Field, Tryd.prog.underlying 56 = some (.struct fs) ∧ fs.toList.map (fun f => (f.type, f.offset)) = [(3, 0), (3, 1), (3, 2), (3, 3)] := ⟨fieldsOf Tryd.prog 56, by kernel_rfl, by kernel_rfl⟩
theorem u64 : ∃ fs : Array Field, Tryd.prog.underlying 64 = some (.struct fs) ∧ fs.toList.map (fun f => (f.type, f.offset)) = [(3, 0), (23, 1), (9, 3), (4, 4)] := ⟨fieldsOf Tryd.prog 64, by kernel_rfl, by kernel_rfl⟩
theorem u24 : Tryd.prog.underlying 24 = some (.slice 56) := by kernel_rfl
theorem u25 : Tryd.prog.underlying 25 = some (.slice 64) := by kernel_rfl
theorem u28 : Tryd.prog.underlying 28 = some (.array 2 3) := by kernel_rfl
theorem c3 : Tryd.prog.cellsOf 3 = 1 := by kernel_rfl
theorem c4 : Tryd.prog.cellsOf 4 = 1 := by kernel_rfl
theorem c9 : Tryd.prog.cellsOf 9 = 1 := by kernel_rfl
theorem c23 : Tryd.prog.cellsOf 23 = 2 := by kernel_rfl
theorem c24 : Tryd.prog.cellsOf 24 = 1 := by kernel_rfl
theorem c25 : Tryd.prog.cellsOf 25 = 1 := by kernel_rfl
theorem c27 : Tryd.prog.cellsOf 27 = 6 := by kernel_rfl
theorem c28 : Tryd.prog.cellsOf 28 = 2 := by kernel_rfl
theorem c56 : Tryd.prog.cellsOf 56 = 4 := by kernel_rfl
theorem c64 : Tryd.prog.cellsOf 64 = 5 := by kernel_rfl

section
variable {H : Type} {enc : TypeId × Value → H} {W : World} {base : Nat} {spare : Nat → Bool} {held : Bool}

theorem int_open {n : Nat} {c : Value} {y : DataW H × List MemPlace} (h : DataW.trod enc Tryd.prog W base spare held n 3 [c] = some y) : ∃ z : Int, c = .int .i64 z ∧ -9223372036854775808 ≤ z ∧ z ≤ 9223372036854775807 := by
  obtain ⟨z, h1, h2, h3⟩ := DataW.trod_int u3 h
  obtain ⟨h4, h5⟩ := bounds_i64 h3
  exact ⟨z, by simpa using h1, h4, h5⟩

theorem span_open {n : Nat} {c0 c1 : Value} {y : DataW H × List MemPlace} (h : DataW.trod enc Tryd.prog W base spare held n 23 [c0, c1] = some y) : ∃ z0 z1 : Int, c0 = .int .i64 z0 ∧ c1 = .int .i64 z1 := by
  obtain ⟨fs, hu, hL⟩ := u23
  obtain ⟨_, hf⟩ := struct_get hu hL h
  obtain ⟨n0, y0, h0, _⟩ := hf 0 3 0 rfl
  obtain ⟨n1, y1, h1, _⟩ := hf 1 3 1 rfl
  rw [c3] at h0 h1
  obtain ⟨z0, h0, _⟩ := int_open h0
  obtain ⟨z1, h1, _⟩ := int_open h1
  exact ⟨z0, z1, h0, h1⟩

set_option maxRecDepth 100000 in
theorem parcel_open (n : Nat) (cs : List Value) (x : DataW H × List MemPlace) (h : DataW.trod enc Tryd.prog W base spare held n 56 cs = some x) (hl : cs.length = Tryd.prog.cellsOf 56) (_ : (x.1.weights Tryd.prog 56).all (· ≤ reachBytes) = true) : ∃ a : Parcel, True ∧ RowTold (bare W).vw a.c cs := by
  obtain ⟨fs, hu, hL⟩ := u56
  obtain ⟨_, hf⟩ := struct_get hu hL h
  rw [c56] at hl
  match cs, hl with
  | [v0, v1, v2, v3], _ =>
    obtain ⟨_, _, h0, _⟩ := hf 0 3 0 rfl
    obtain ⟨_, _, h1, _⟩ := hf 1 3 1 rfl
    obtain ⟨_, _, h2, _⟩ := hf 2 3 2 rfl
    obtain ⟨_, _, h3, _⟩ := hf 3 3 3 rfl
    rw [c3] at h0 h1 h2 h3
    obtain ⟨z0, rfl, _⟩ := int_open h0
    obtain ⟨z1, rfl, _⟩ := int_open h1
    obtain ⟨z2, rfl, _⟩ := int_open h2
    obtain ⟨z3, rfl, _⟩ := int_open h3
    exact ⟨⟨z0, z1, z2, z3⟩, trivial, .cons (.int _ _) rfl rfl (.cons (.int _ _) rfl rfl (.cons (.int _ _) rfl rfl (.cons (.int _ _) rfl rfl .nil)))⟩

set_option maxRecDepth 100000 in
theorem box_open (n : Nat) (cs : List Value) (x : DataW H × List MemPlace) (h : DataW.trod enc Tryd.prog W base spare held n 64 cs = some x) (hl : cs.length = Tryd.prog.cellsOf 64) (hw : (x.1.weights Tryd.prog 64).all (· ≤ reachBytes) = true) : ∃ a : Box, a.mark.length ≤ reachBytes ∧ RowTold (bare W).vw a.c cs := by
  obtain ⟨fs, hu, hL⟩ := u64
  obtain ⟨_, hf⟩ := struct_get hu hL h
  rw [c64] at hl
  match cs, hl with
  | [v0, v1, v2, v3, v4], _ =>
    obtain ⟨_, _, h0, _⟩ := hf 0 3 0 rfl
    obtain ⟨_, _, h1, _⟩ := hf 1 23 1 rfl
    obtain ⟨_, y, h2, hy⟩ := hf 2 9 3 rfl
    obtain ⟨_, _, h3, _⟩ := hf 3 4 4 rfl
    rw [c3] at h0
    rw [c23] at h1
    rw [c9] at h2
    rw [c4] at h3
    obtain ⟨z0, rfl, _⟩ := int_open h0
    obtain ⟨z1, z2, rfl, rfl⟩ := span_open h1
    obtain ⟨s, e2, rfl, _⟩ := DataW.trod_string u9 h2
    obtain ⟨b, e3, _⟩ := DataW.trod_bool u4 h3
    obtain rfl : v3 = .string s := by simpa using e2
    obtain rfl : v4 = .bool b := by simpa using e3
    have hk := hy _ hw
    simp only [DataW.weights, List.all_cons, List.all_nil, Bool.and_true, decide_eq_true_eq] at hk
    exact ⟨⟨z0, z1, z2, s.data.toList, b⟩, hk, .cons (.int _ _) rfl rfl (.cons (.int _ _) rfl rfl (.cons (.int _ _) rfl rfl (.cons (by simpa using VR.str (V := (bare W).vw) s.data.toList) rfl rfl (.cons (.bool _) rfl rfl .nil))))⟩

set_option maxRecDepth 100000 in
theorem cellOf {r : Reach} {b0 : Nat} {t : TypeId} {fs : Array Field} {v : Value} {L : List TypeId} (hu : Tryd.prog.underlying t = some (.struct fs)) (hc : Tryd.prog.cellTypes Tryd.prog.depth t = some L) (h : Value.okWide Tryd.prog W r b0 t v) :
    ∃ cs : Array Value, v = .agg cs ∧ cs.size = Tryd.prog.cellsOf t ∧ ∀ (i : Nat) (u : TypeId) (c : Value), i < L.length → L[i]? = some u → cs[i]? = some c → Cell.okWide Tryd.prog W r b0 u c := by
  unfold Value.okWide at h
  rw [hu] at h
  obtain ⟨cs, h1, h2, ts, h3, _, h4⟩ := h
  obtain rfl := Option.some.inj (hc.symm.trans h3)
  refine ⟨cs, h1, h2, fun i u c hi hu hc => ?_⟩
  obtain ⟨u', h5, h6⟩ := h4 i c hc
  rw [Nat.mod_eq_of_lt hi] at h5
  obtain rfl := Option.some.inj (hu.symm.trans h5)
  exact h6

set_option maxRecDepth 100000 in
theorem desk_open {r : Reach} {b0 : Nat} {v : Value} {d : DataW H} {p : List MemPlace} (hok : Value.okWide Tryd.prog W r b0 27 v) (hd : DataW.Trod enc Tryd.prog W base spare held 27 v d p) (hw : (d.weights Tryd.prog 27).all (· ≤ reachBytes) = true) :
    ∃ k : Desk, k.ok ∧ VR (bare W).vw k.v v := by
  obtain ⟨fs, hu, hL⟩ := u27
  obtain ⟨m, h⟩ := hd
  obtain ⟨hl, hf⟩ := struct_get hu hL h
  obtain ⟨cs, rfl, hsz, hcell⟩ := cellOf (L := [3, 3, 3, 3, 24, 25]) hu (by kernel_rfl) hok
  obtain ⟨cs⟩ := cs
  rw [c27] at hsz
  have hcs : (Value.agg ⟨cs⟩).cells.toList = cs := rfl
  rw [hcs] at hf
  match cs, hsz with
  | [v0, v1, v2, v3, v4, v5], _ =>
    obtain ⟨_, _, h0, _⟩ := hf 0 23 0 rfl
    obtain ⟨_, _, h1, _⟩ := hf 1 3 2 rfl
    obtain ⟨_, _, h2, _⟩ := hf 2 3 3 rfl
    obtain ⟨_, y3, h3, w3⟩ := hf 3 24 4 rfl
    obtain ⟨_, y4, h4, w4⟩ := hf 4 25 5 rfl
    rw [c23] at h0
    rw [c3] at h1 h2
    rw [c24] at h3
    rw [c25] at h4
    obtain ⟨z0, z1, rfl, rfl⟩ := span_open h0
    obtain ⟨z2, rfl, _⟩ := int_open h1
    obtain ⟨z3, rfl, _⟩ := int_open h2
    obtain ⟨ps, _, hp1, hp2⟩ := slice_vr Parcel.c (fun _ => True) u24 (by rw [c56]; decide) (Nat.le_of_ble_eq_true (by kernel_rfl)) (hcell 4 24 v4 (by decide) rfl rfl) rfl parcel_open (w3 _ hw) h3
    obtain ⟨bs, hb0, hb1, hb2⟩ := slice_vr Box.c (fun b => b.mark.length ≤ reachBytes) u25 (by rw [c64]; decide) (Nat.le_of_ble_eq_true (by kernel_rfl)) (hcell 5 25 v5 (by decide) rfl rfl) rfl box_open (w4 _ hw) h4
    have hr : reachBytes = 140737488351232 := rfl
    refine ⟨⟨z0, z1, z2, z3, ps, bs, .any, .any⟩, ⟨rfl, rfl, ?_, ?_, fun b hb => ?_⟩, ?_⟩
    · show ps.length ≤ _; omega
    · show bs.length ≤ _; omega
    · have := hb0 b hb; omega
    · refine .agg _ _ rfl (fun j v hv => ?_) (fun v hv => ?_)
      · match j, hv with
        | 0, hv => cases hv; exact .int _ _
        | 1, hv => cases hv; exact .int _ _
        | 2, hv => cases hv; exact .int _ _
        | 3, hv => cases hv; exact .int _ _
        | 4, hv => cases hv; exact hp2
        | 5, hv => cases hv; exact hb2
        | j + 6, hv => simp [Desk.c] at hv
      · simp only [Desk.c, List.mem_cons, List.not_mem_nil, or_false] at hv
        rcases hv with rfl | rfl | rfl | rfl | rfl | rfl <;> rfl

set_option maxRecDepth 100000 in
theorem two_open {v : Value} {d : DataW H} {p : List MemPlace} {r : Reach} {b0 : Nat} (hok : Value.okWide Tryd.prog W r b0 28 v) (hd : DataW.Trod enc Tryd.prog W base spare held 28 v d p) :
    ∃ n0 n1 : Int, v = .agg #[.int .i64 n0, .int .i64 n1] ∧ (-9223372036854775808 ≤ n0 ∧ n0 ≤ 9223372036854775807) ∧ (-9223372036854775808 ≤ n1 ∧ n1 ≤ 9223372036854775807) := by
  unfold Value.okWide at hok
  rw [u28] at hok
  obtain ⟨⟨cs⟩, rfl, hsz, _⟩ := hok
  obtain ⟨m, h⟩ := hd
  obtain ⟨xs, k, rfl, _, _, hn, hel⟩ := DataW.trod_array u28 h
  rw [c28] at hsz
  have hcs : (Value.agg ⟨cs⟩).cells.toList = cs := rfl
  rw [hcs] at hel
  match cs, hsz with
  | [v0, v1], _ =>
    match xs, hn with
    | [x0, x1], _ =>
      have h0 := hel 0 (by decide)
      have h1 := hel 1 (by decide)
      rw [c3] at h0 h1
      obtain ⟨z0, rfl, b0⟩ := int_open (show DataW.trod enc Tryd.prog W base spare held k 3 [v0] = some x0 from h0)
      obtain ⟨z1, rfl, b1⟩ := int_open (show DataW.trod enc Tryd.prog W base spare held k 3 [v1] = some x1 from h1)
      exact ⟨z0, z1, rfl, b0, b1⟩

set_option maxRecDepth 100000 in
theorem num_open {v : Value} {d : DataW H} {p : List MemPlace} {r : Reach} {b0 : Nat} (hok : Value.okWide Tryd.prog W r b0 3 v) (hd : DataW.Trod enc Tryd.prog W base spare held 3 v d p) :
    ∃ z : Int, v = .int .i64 z ∧ -9223372036854775808 ≤ z ∧ z ≤ 9223372036854775807 := by
  unfold Value.okWide at hok
  rw [u3] at hok
  have hok : Cell.okWide Tryd.prog W r b0 3 v := hok
  obtain ⟨m, h⟩ := hd
  cases v with
  | int k z =>
    obtain ⟨z', h1, h2⟩ := int_open (show DataW.trod enc Tryd.prog W base spare held m 3 [.int k z] = some (d, p) from h)
    exact ⟨z', h1, h2⟩
  | _ => simp [Cell.okWide, Cell.ok] at hok

theorem u29 : Tryd.prog.underlying 29 = some (.slice 3) := by kernel_rfl

set_option maxRecDepth 100000 in
theorem ints_open {v : Value} {d : DataW H} {p : List MemPlace} {r : Reach} {b0 : Nat} (hok : Value.okWide Tryd.prog W r b0 29 v) (hd : DataW.Trod enc Tryd.prog W base spare held 29 v d p) (hw : (d.weights Tryd.prog 29).all (· ≤ reachBytes) = true) :
    ∃ l : List Int, l.length ≤ reachBytes ∧ VR (bare W).vw (.sl (l.map fun z => [.int .i64 z]) .any) v := by
  unfold Value.okWide at hok
  rw [u29] at hok
  have hok : Cell.okWide Tryd.prog W r b0 29 v := hok
  obtain ⟨m, h⟩ := hd
  have go : v.cells.toList = [v] → ∃ l : List Int, l.length ≤ reachBytes ∧ VR (bare W).vw (.sl (l.map fun z => [.int .i64 z]) .any) v := fun hc => by
    rw [hc] at h
    obtain ⟨l, _, hl, hv⟩ := slice_vr (fun z : Int => [.int .i64 z]) (fun _ => True) u29 (by rw [c3]; decide) (Nat.le_of_ble_eq_true (by kernel_rfl)) hok rfl
      (fun n cs x h hl _ => by
        rw [c3] at hl
        match cs, hl with
        | [v0], _ =>
          obtain ⟨z, rfl, _⟩ := int_open h
          exact ⟨z, trivial, .cons (.int _ _) rfl rfl .nil⟩) hw h
    exact ⟨l, hl, hv⟩
  cases v with
  | agg cs =>
    exfalso
    unfold Cell.okWide Cell.ok at hok
    rw [u29] at hok
    exact hok.elim
  | _ => exact go rfl
end
end Go.Ab.Cl
