/-
  The claims: ClaimCould, on the abstract machine.
-/
import Derived.Test.YthbekoofiienjaaDoorClG
import Derived.Test.YthbekoofiienjaaDoorWk
namespace Go.Ab.Cl
open Go.Ab

theorem a9_L1_two {G : Nat → List AV} {B : Bnd} (hB : B = Bk) {cl : CallK} {rd : RoundK} (d : Desk) (b : Box) (p : Parcel) (n0 n1 v5 v6 : AV) (own : List UInt8) (hl : b.mark.length ≤ own.length) (hl2 : own.length ≤ 100) (x5 x6 x10 m0 m1 : Int) (is : Bool) (n : Nat) (k : Ex → Env → St → Ans) (r : Ans) :
    ∀ (j i : Nat) (ok : Bool), b.mark.length < i + j → i ≤ b.mark.length →
    ((ok && agree (b.mark.drop i) (own.drop i)) = true → k (.exit 0) [(2, .ptr 0 0 0), (3, .ptr 0 1 0), (5, .int .i64 x5), (6, .int .i64 x6), (7, .ptr 0 2 0), (9, .bool is), (10, .int .i64 x10), (11, .bool true), (12, .str own), (13, .int .i64 (.ofNat b.mark.length))] [⟨[.cells d.c, .cells [.int .i64 m0, .int .i64 m1], .cells b.c, .cells p.c], []⟩] = r) →
    ((ok && agree (b.mark.drop i) (own.drop i)) = false → k (.exit 0) [(2, .ptr 0 0 0), (3, .ptr 0 1 0), (5, .int .i64 x5), (6, .int .i64 x6), (7, .ptr 0 2 0), (9, .bool is), (10, .int .i64 x10), (11, .bool false), (12, .str own), (13, .int .i64 (.ofNat b.mark.length))] [⟨[.cells d.c, .cells [.int .i64 m0, .int .i64 m1], .cells b.c, .cells p.c], []⟩] = r) →
    B.loop (evCK B a9_L1) [2, 3, 5, 6, 7, 9, 10, 11, 12, 13] n j cl rd G 0 1 [(2, .ptr 0 0 0), (3, .ptr 0 1 0), (5, .int .i64 x5), (6, .int .i64 x6), (7, .ptr 0 2 0), (9, .bool is), (10, .int .i64 x10), (11, .bool ok), (12, .str own), (13, .int .i64 (.ofNat i))] [⟨[.cells d.c, .cells [.int .i64 m0, .int .i64 m1], .cells b.c, .cells p.c], []⟩] k = r := by
  intro j
  induction j with
  | zero => intro i ok h1 h2; omega
  | succ j ih =>
    intro i ok h1 h2 k1 k2
    refine loop_succ hB ?_
    conv => lhs; whnf
    repeat' ((first
      | refine purs_step hB rfl ?_
      | refine lt_tt hB (by decide) ?_
      | refine lt_ff hB (by decide) ?_
      | refine le_tt hB (by decide) ?_
      | refine le_ff hB (by decide) ?_
      | refine eq_tt hB (by decide) ?_
      | refine eq_ff hB (by decide) ?_
      | refine fint_wrp hB (by omega) (by omega) ?_
      | refine fint_step hB ?_
      | refine fbool_tt hB ?_
      | refine fbool_ff hB ?_
      | refine fbool_split hB (fun _ => ?_) (fun _ => ?_)
      | refine ftok_step hB ?_
      | refine frows_step hB ?_
      | refine fstr_step hB ?_
      | refine len_map hB ?_
      | refine len_step hB ?_
      | refine lens_step hB ?_
      | refine byte_step hB ?_
      | refine drop_step hB rfl ?_
      | refine fl_step hB rfl ?_
      | refine add_one hB (by first | omega | decide) ?_
      | refine opt_step hB rfl ?_
      | refine fnat_step hB ?_
      | refine ifk_step hB rfl ?_
      | refine ifk_step hB (flat_or rfl) ?_
      | refine opt2_step hB rfl ?_
      | refine obj_raw hB ?_
      | refine sob_raw hB ?_
      | refine fst_raw hB ?_
      | refine optl_raw hB ?_
      | refine tok_step hB rfl ?_
      ) <;> conv => lhs; whnf)
    refine lt_nat hB (fun h => ?_) (fun h => ?_) <;> conv => lhs; whnf
    · have hx : b.mark[i]? = some b.mark[i] := by simp [h]
      have hy : own[i]? = some (own[i]'(by omega)) := by simp
      have hd : b.mark.drop i = b.mark[i] :: b.mark.drop (i + 1) := List.drop_eq_getElem_cons h
      have hd2 : own.drop i = (own[i]'(by omega)) :: own.drop (i + 1) := List.drop_eq_getElem_cons (by omega)
      rw [hd, hd2] at k1 k2
      generalize b.mark[i] = c at hx k1 k2
      generalize (own[i]'(by omega)) = o at hy k1 k2
      cases ok
      · repeat' ((first
          | refine natOf_step hB (m := i) rfl ?_
          | refine nthb_step hB hx ?_
          | refine purs_step hB rfl ?_
          | refine lt_tt hB (by decide) ?_
          | refine lt_ff hB (by decide) ?_
          | refine le_tt hB (by decide) ?_
          | refine le_ff hB (by decide) ?_
          | refine eq_tt hB (by decide) ?_
          | refine eq_ff hB (by decide) ?_
          | refine fint_wrp hB (by omega) (by omega) ?_
          | refine fint_step hB ?_
          | refine fbool_tt hB ?_
          | refine fbool_ff hB ?_
          | refine fbool_split hB (fun _ => ?_) (fun _ => ?_)
          | refine ftok_step hB ?_
          | refine frows_step hB ?_
          | refine fstr_step hB ?_
          | refine len_map hB ?_
          | refine len_step hB ?_
          | refine lens_step hB ?_
          | refine byte_step hB ?_
          | refine drop_step hB rfl ?_
          | refine fl_step hB rfl ?_
          | refine add_one hB (by first | omega | decide) ?_
          | refine opt_step hB rfl ?_
          | refine fnat_step hB ?_
          | refine ifk_step hB rfl ?_
          | refine ifk_step hB (flat_or rfl) ?_
          | refine opt2_step hB rfl ?_
          | refine obj_raw hB ?_
          | refine sob_raw hB ?_
          | refine fst_raw hB ?_
          | refine optl_raw hB ?_
          | refine tok_step hB rfl ?_
          ) <;> conv => lhs; whnf)
        refine ih (i + 1) false (by omega) (by omega) (fun h => k1 ?_) (fun h => k2 ?_)
        · simp at h
        · simp
      · repeat' ((first
          | refine natOf_step hB (m := i) rfl ?_
          | refine nthb_step hB hx ?_
          | refine nthb_step hB hy ?_
          | refine eq_split hB (fun _ => ?_) (fun _ => ?_)
          | refine purs_step hB rfl ?_
          | refine lt_tt hB (by decide) ?_
          | refine lt_ff hB (by decide) ?_
          | refine le_tt hB (by decide) ?_
          | refine le_ff hB (by decide) ?_
          | refine eq_tt hB (by decide) ?_
          | refine eq_ff hB (by decide) ?_
          | refine fint_wrp hB (by omega) (by omega) ?_
          | refine fint_step hB ?_
          | refine fbool_tt hB ?_
          | refine fbool_ff hB ?_
          | refine fbool_split hB (fun _ => ?_) (fun _ => ?_)
          | refine ftok_step hB ?_
          | refine frows_step hB ?_
          | refine fstr_step hB ?_
          | refine len_map hB ?_
          | refine len_step hB ?_
          | refine lens_step hB ?_
          | refine byte_step hB ?_
          | refine drop_step hB rfl ?_
          | refine fl_step hB rfl ?_
          | refine add_one hB (by first | omega | decide) ?_
          | refine opt_step hB rfl ?_
          | refine fnat_step hB ?_
          | refine ifk_step hB rfl ?_
          | refine ifk_step hB (flat_or rfl) ?_
          | refine opt2_step hB rfl ?_
          | refine obj_raw hB ?_
          | refine sob_raw hB ?_
          | refine fst_raw hB ?_
          | refine optl_raw hB ?_
          | refine tok_step hB rfl ?_
          ) <;> conv => lhs; whnf)
        · have hb : agree (c :: b.mark.drop (i + 1)) (o :: own.drop (i + 1)) = agree (b.mark.drop (i + 1)) (own.drop (i + 1)) := by clear ih k1 k2; simp_all [agree]
          rw [hb] at k1 k2
          (repeat' ((refine ifk_step hB rfl ?_) <;> conv => lhs; whnf))
          exact ih (i + 1) true (by omega) (by omega) k1 k2
        · have hb : agree (c :: b.mark.drop (i + 1)) (o :: own.drop (i + 1)) = agree (b.mark.drop (i + 1)) (own.drop (i + 1)) := by clear ih k1 k2; simp_all [agree]
          rw [hb] at k1 k2
          (repeat' ((refine ifk_step hB rfl ?_) <;> conv => lhs; whnf))
          exact ih (i + 1) true (by omega) (by omega) k1 k2
        · have hb : agree (c :: b.mark.drop (i + 1)) (o :: own.drop (i + 1)) = false := by clear ih k1 k2; simp_all [agree]
          rw [hb] at k2
          (repeat' ((refine ifk_step hB rfl ?_) <;> conv => lhs; whnf))
          exact ih (i + 1) false (by omega) (by omega) (fun h => by simp at h) (fun _ => k2 rfl)
    · have hi : i = b.mark.length := by omega
      have hz : b.mark.drop i = [] := by rw [hi]; simp
      rw [hz] at k1 k2
      rw [hi]
      cases ok
      · (repeat' ((refine ifk_step hB rfl ?_) <;> conv => lhs; whnf))
        exact k2 rfl
      · (repeat' ((refine ifk_step hB rfl ?_) <;> conv => lhs; whnf))
        exact k1 (by simp [agree])

theorem box_put2 {bs : List Box} {i : Nat} {b : Box} (hb : bs[i]? = some b) (m : List UInt8) : putAt (bs.map Box.c).flatten (Nat.add (Nat.add 0 (Nat.mul i 5)) 3) [.str m] = ((bs.set i { b with mark := m }).map Box.c).flatten := by
  rw [show Nat.add (Nat.add 0 (Nat.mul i 5)) 3 = i * 5 + 3 by simp]
  exact box_put hb m
theorem box_lt {bs : List Box} {i : Nat} (h : i < bs.length) : Nat.ble (Nat.succ i) (bs.map Box.c).length = true := by
  rw [Nat.ble_eq, List.length_map]; exact h
theorem box_room {bs : List Box} {i : Nat} (h : i < bs.length) : Nat.ble (Nat.add (Nat.add (Nat.add 0 (Nat.mul i 5)) 3) 1) (lenK (bs.map Box.c).flatten) = true := by
  rw [lenK_eq, flat_len5 _ box_len, List.length_map, Nat.ble_eq]
  show 0 + i * 5 + 3 + 1 ≤ bs.length * 5
  omega
end Go.Ab.Cl
