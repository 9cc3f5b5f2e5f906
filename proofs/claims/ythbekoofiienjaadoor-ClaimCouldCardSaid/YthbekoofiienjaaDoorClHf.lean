/-
  The claims: ClaimCould, on the abstract machine: together.
-/
import Derived.Test.YthbekoofiienjaaDoorClHa
import Derived.Test.YthbekoofiienjaaDoorClHb
import Derived.Test.YthbekoofiienjaaDoorClHc
import Derived.Test.YthbekoofiienjaaDoorClHd
import Derived.Test.YthbekoofiienjaaDoorClHe
namespace Go.Ab.Cl
open Go.Ab

theorem couldB_open {d d' : Desk} {b b' : Box} {p : Parcel} (h1 : d'.lo = d.lo) (h2 : d'.hi = d.hi) (h3 : d'.wear = d.wear) (h4 : b'.day = b.day) (h5 : b'.low = b.low) (h6 : b'.high = b.high) (h7 : b'.mark = []) (h : couldB d b p = true) : couldB d' b' p = true := by
  unfold couldB dayB weightB at *
  rw [h1, h2, h3, h4, h5, h6]
  simp only [Bool.and_eq_true] at h ⊢
  exact ⟨h.1, by simp [sealB, h7, sealGo]⟩

theorem law_could (d : Desk) (hd : d.ok) (n0 n1 : Int) (hn0 : -9223372036854775808 ≤ n0 ∧ n0 ≤ 9223372036854775807) :
    (evKR Bk Gx fsT 2000000000000000).1 0 9 [d.v, .agg [.int .i64 n0, .int .i64 n1]] [] ansK = some (.bool true, []) := by
  cases hck : d.check with
  | false => exact could_c0 d hd n0 n1 hck
  | true =>
    by_cases hb0 : d.bs.length = 0
    · exact could_b0 d hd n0 n1 hck hb0
    · by_cases hp0 : d.ps.length = 0
      · exact could_p0 d hd n0 n1 hck hb0 hp0
      · have hS1 := spin_in (n := n0) (many := (d.bs.length : Int)) (by omega)
        have hS2 := spin_in (n := n1) (many := (d.ps.length : Int)) (by omega)
        obtain ⟨i, hzi⟩ : ∃ i : Nat, spin n0 (Int.ofNat d.bs.length) = (i : Int) := ⟨(spin n0 (d.bs.length : Int)).toNat, by simp only [Int.ofNat_eq_natCast]; omega⟩
        obtain ⟨k, hzk⟩ : ∃ k : Nat, spin n1 (Int.ofNat d.ps.length) = (k : Int) := ⟨(spin n1 (d.ps.length : Int)).toNat, by simp only [Int.ofNat_eq_natCast]; omega⟩
        have hil : i < d.bs.length := by simp only [Int.ofNat_eq_natCast] at hzi; omega
        have hkl : k < d.ps.length := by simp only [Int.ofNat_eq_natCast] at hzk; omega
        obtain ⟨b, hb⟩ : ∃ b, d.bs[i]? = some b := ⟨d.bs[i], by simp [hil]⟩
        obtain ⟨p, hp⟩ : ∃ p, d.ps[k]? = some p := ⟨d.ps[k], by simp [hkl]⟩
        have hpm : 0 ≤ p.mark ∧ p.mark ≤ 9999 := by
          have := hck
          simp only [Desk.check, Bool.and_eq_true, List.all_eq_true] at this
          have := this.1.2 p (List.mem_of_getElem? hp)
          simp only [okParcel, within, Bool.and_eq_true, decide_eq_true_eq] at this
          omega
        obtain ⟨m, hm⟩ : ∃ m : Nat, p.mark = (m : Int) := ⟨p.mark.toNat, by omega⟩
        have hm9 : m ≤ 9999 := by omega
        by_cases h4 : b.mark.length = 4
        · cases his : couldB d b p with
          | true => exact could_4t d hd n0 n1 hn0 hck i k b p m hb hp hm hm9 hzi hzk h4 his
          | false =>
            have hS3 := spin_in (n := n0.tdiv 8) (many := 4) (by omega)
            obtain ⟨i3, hz3⟩ : ∃ i3 : Nat, spin (n0.tdiv 8) 4 = (i3 : Int) := ⟨(spin (n0.tdiv 8) 4).toNat, by omega⟩
            cases hsv : couldB (d.put i b (b.mark.take i3 ++ 63 :: b.mark.drop (i3 + 1))) { b with mark := (b.mark.take i3 ++ 63 :: b.mark.drop (i3 + 1)) } p with
            | true => exact could_4f_true_true d hd n0 n1 hn0 hck i k b p m hb hp hm hm9 hzi hzk h4 his i3 hz3 hsv (couldB_open (d := d.put i b (b.mark.take i3 ++ 63 :: b.mark.drop (i3 + 1))) (b := { b with mark := (b.mark.take i3 ++ 63 :: b.mark.drop (i3 + 1)) }) rfl rfl rfl rfl rfl rfl rfl hsv)
            | false =>
              cases hov : couldB ((d.put i b (b.mark.take i3 ++ 63 :: b.mark.drop (i3 + 1))).put i { b with mark := (b.mark.take i3 ++ 63 :: b.mark.drop (i3 + 1)) } []) { b with mark := [] } p with
              | true => exact could_4f_false_true d hd n0 n1 hn0 hck i k b p m hb hp hm hm9 hzi hzk h4 his i3 hz3 hsv hov
              | false => exact could_4f_false_false d hd n0 n1 hn0 hck i k b p m hb hp hm hm9 hzi hzk h4 his i3 hz3 hsv hov
        · cases his : couldB d b p with
          | true => exact could_nt d hd n0 n1 hn0 hck i k b p m hb hp hm hm9 hzi hzk h4 his
          | false =>
            cases ho : couldB (({ d with tb := .any } : Desk).put i b []) { b with mark := [] } p with
            | true => exact could_nf_true d hd n0 n1 hn0 hck i k b p m hb hp hm hm9 hzi hzk h4 his ho
            | false => exact could_nf_false d hd n0 n1 hn0 hck i k b p m hb hp hm hm9 hzi hzk h4 his ho
end Go.Ab.Cl
