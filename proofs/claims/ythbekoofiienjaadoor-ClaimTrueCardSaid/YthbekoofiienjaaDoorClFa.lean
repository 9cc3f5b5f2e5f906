/-
  The claims, plain: a desk that is made, with what is true of it.
-/
import Derived.Test.YthbekoofiienjaaDoorClG
namespace Go.Ab.Cl
open Go.Ab

def takeZ (l : List Int) (n : Int) : Int := (l[(spin n l.length).toNat]?).getD 0
def lotZ (lo hi n : Int) : Int := if hi ≤ lo then lo else lo + spin n (hi - lo + 1)
theorem lot_in {lo hi n : Int} (h : lo ≤ hi) : lo ≤ lotZ lo hi n ∧ lotZ lo hi n ≤ hi := by
  unfold lotZ
  split
  · omega
  · have := spin_in (n := n) (many := hi - lo + 1) (by omega)
    omega
theorem hi_ge (a b : Int) : a ≤ hiI a b ∧ b ≤ hiI a b := by unfold hiI; split <;> omega
theorem lo_le (a b : Int) : loI a b ≤ a ∧ loI a b ≤ b := by unfold loI; split <;> omega
/-- What is read of a seal. -/
def markAt (bits : List Int) (i : Nat) (q : List UInt8) (m : Nat) : UInt8 := if spin (takeZ bits ((i : Int) + (m : Int))) 2 = 0 then 63 else (q[m]?).getD 0
def markTo (bits : List Int) (i : Nat) (q : List UInt8) (m : Nat) : List UInt8 := (List.range m).map (markAt bits i q)
def markZ (bits : List Int) (i : Nat) (q : List UInt8) : List UInt8 := if 0 < spin (takeZ bits ((i : Int) + 5)) 4 then markTo bits i q 4 else []
def wZ (d : Desk) (bits : List Int) (i : Nat) (p : Parcel) : Int := lotZ (hiI 0 (p.weight - d.wear)) p.weight (takeZ bits ((i : Int) + 2))
def madeB (d : Desk) (bits : List Int) (i : Nat) (b : Box) (p : Parcel) : Box where
  day := loI 4000 (p.day + lotZ d.lo d.hi (takeZ bits ((i : Int) + 1)))
  low := hiI 0 (wZ d bits i p - spin (takeZ bits ((i : Int) + 3)) 50)
  high := loI 50000 (wZ d bits i p + spin (takeZ bits ((i : Int) + 4)) 50)
  mark := markZ bits i (d4 p.mark.toNat)
  stamp := b.stamp

theorem w_in {d : Desk} {bits : List Int} {i : Nat} {p : Parcel} (hw : 0 ≤ d.wear) (hp : okParcel p = true) : p.weight - d.wear ≤ wZ d bits i p ∧ wZ d bits i p ≤ p.weight ∧ 0 ≤ wZ d bits i p ∧ p.weight ≤ 50000 := by
  simp only [okParcel, within, Bool.and_eq_true, decide_eq_true_eq] at hp
  have h1 := hi_ge 0 (p.weight - d.wear)
  have h2 : hiI 0 (p.weight - d.wear) ≤ p.weight := by unfold hiI; split <;> omega
  have h3 := lot_in (n := takeZ bits ((i : Int) + 2)) h2
  unfold wZ
  omega
theorem digit_ok (m : Nat) : ∀ c ∈ d4 m, okDigit c = true := by
  obtain ⟨g0, g1, g2, g3⟩ := d4_get (m := m)
  have e0 : (d4 m)[0]! = (48 + m / 1000 % 10).toUInt8 := rfl
  have e1 : (d4 m)[1]! = (48 + m / 100 % 10).toUInt8 := rfl
  have e2 : (d4 m)[2]! = (48 + m / 10 % 10).toUInt8 := rfl
  have e3 : (d4 m)[3]! = (48 + m % 10).toUInt8 := rfl
  rw [e0] at g0
  rw [e1] at g1
  rw [e2] at g2
  rw [e3] at g3
  intro c hc
  simp only [d4, List.mem_cons, List.not_mem_nil, or_false] at hc
  have hok : ∀ (c : UInt8) (x : Nat), (c.toNat : Int) = 48 + (x : Int) → x < 10 → okDigit c = true := by
    intro c x h hx
    simp only [okDigit, within, Bool.or_eq_true, Bool.and_eq_true, decide_eq_true_eq]
    right; omega
  rcases hc with rfl | rfl | rfl | rfl
  · exact hok _ _ g0 (by omega)
  · exact hok _ _ g1 (by omega)
  · exact hok _ _ g2 (by omega)
  · exact hok _ _ g3 (by omega)
theorem d4_len (m : Nat) : (d4 m).length = 4 := rfl
theorem mark_get (bits : List Int) (i m : Nat) (k : Nat) (hk : k < 4) : markAt bits i (d4 m) k = 63 ∨ (d4 m)[k]? = some (markAt bits i (d4 m) k) := by
  unfold markAt
  split
  · exact .inl rfl
  · have : k < (d4 m).length := by rw [d4_len]; exact hk
    rw [List.getElem?_eq_getElem this]
    exact .inr rfl
theorem mark_ok (bits : List Int) (i m : Nat) : okSeal (markZ bits i (d4 m)) = true := by
  unfold markZ
  split
  · simp only [okSeal, Bool.and_eq_true]
    refine ⟨by simp [markTo], ?_⟩
    rw [List.all_eq_true]
    intro c hc
    simp only [markTo, List.mem_map, List.mem_range] at hc
    obtain ⟨k, hk, rfl⟩ := hc
    rcases mark_get bits i m k hk with h | h
    · rw [h]; rfl
    · exact digit_ok m _ (List.mem_of_getElem? h)
  · rfl
theorem mark_agree (bits : List Int) (i m : Nat) : agree (markZ bits i (d4 m)) (d4 m) = true := by
  unfold markZ
  split
  · have h : ∀ k, k < 4 → ∀ o, (d4 m)[k]? = some o → (decide (((markAt bits i (d4 m) k).toNat : Int) = 63) || decide (((markAt bits i (d4 m) k).toNat : Int) = o.toNat)) = true := by
      intro k hk o ho
      rcases mark_get bits i m k hk with h | h
      · rw [h]; rfl
      · rw [h] at ho
        rw [Option.some.inj ho]; simp
    have e : markTo bits i (d4 m) 4 = [markAt bits i (d4 m) 0, markAt bits i (d4 m) 1, markAt bits i (d4 m) 2, markAt bits i (d4 m) 3] := rfl
    rw [e]
    have h0 := h 0 (by omega) _ rfl
    have h1 := h 1 (by omega) _ rfl
    have h2 := h 2 (by omega) _ rfl
    have h3 := h 3 (by omega) _ rfl
    show ((_ && (_ && (_ && (_ && true)))) : Bool) = true
    rw [h0, h1, h2, h3]
    rfl
  · rfl
theorem made_ok {d : Desk} (hc : d.check = true) {bits : List Int} {i : Nat} {b : Box} {p : Parcel} (hp : okParcel p = true) (hd : p.day + d.lo ≤ 4000) : okBox (madeB d bits i b p) = true ∧ couldB d (madeB d bits i b p) p = true := by
  have hck := hc
  simp only [Desk.check, isSpan, within, Bool.and_eq_true, decide_eq_true_eq] at hck
  obtain ⟨hw1, hw2, hw3, hw4⟩ := w_in (bits := bits) (i := i) (p := p) hck.1.1.1.1.1.2.1 hp
  have hp2 := hp
  simp only [okParcel, within, Bool.and_eq_true, decide_eq_true_eq] at hp2
  have hl := lot_in (n := takeZ bits ((i : Int) + 1)) hck.1.1.1.1.1.1.1.2
  have s3 := spin_in (n := takeZ bits ((i : Int) + 3)) (many := 50) (by omega)
  have s4 := spin_in (n := takeZ bits ((i : Int) + 4)) (many := 50) (by omega)
  have a1 : (madeB d bits i b p).day = loI 4000 (p.day + lotZ d.lo d.hi (takeZ bits ((i : Int) + 1))) := rfl
  have a2 : (madeB d bits i b p).low = hiI 0 (wZ d bits i p - spin (takeZ bits ((i : Int) + 3)) 50) := rfl
  have a3 : (madeB d bits i b p).high = loI 50000 (wZ d bits i p + spin (takeZ bits ((i : Int) + 4)) 50) := rfl
  have b1 := lo_le 4000 (p.day + lotZ d.lo d.hi (takeZ bits ((i : Int) + 1)))
  have b1' := lo_or 4000 (p.day + lotZ d.lo d.hi (takeZ bits ((i : Int) + 1)))
  have b2 := hi_ge 0 (wZ d bits i p - spin (takeZ bits ((i : Int) + 3)) 50)
  have b2' := hi_or 0 (wZ d bits i p - spin (takeZ bits ((i : Int) + 3)) 50)
  have b3 := lo_le 50000 (wZ d bits i p + spin (takeZ bits ((i : Int) + 4)) 50)
  have b3' := lo_or 50000 (wZ d bits i p + spin (takeZ bits ((i : Int) + 4)) 50)
  rw [← a1] at b1 b1'
  rw [← a2] at b2 b2'
  rw [← a3] at b3 b3'
  have hmk : p.mark = ((p.mark.toNat : Nat) : Int) := by omega
  constructor
  · simp only [okBox, isSpan, within, Bool.and_eq_true, decide_eq_true_eq]
    refine ⟨⟨⟨?_, ?_⟩, ⟨?_, ?_⟩, ?_⟩, mark_ok bits i p.mark.toNat⟩ <;> omega
  · simp only [couldB, dayB, weightB, within, Bool.and_eq_true, decide_eq_true_eq]
    refine ⟨⟨⟨?_, ?_⟩, ?_, ?_⟩, ?_⟩
    · omega
    · omega
    · omega
    · omega
    · rw [sealB_agree (mark_ok bits i p.mark.toNat) hmk]
      exact mark_agree bits i p.mark.toNat

/-! ### all boxes -/
structure Md where
  bs : List Box
  tr : List Int
  tk : Nat
  od : Int
def dayOf (d : Desk) (k : Nat) : Int := match d.ps[k]? with
  | some p => p.day
  | none => 0
def choiceK (d : Desk) (bits : List Int) (i : Nat) : Nat := (spin (takeZ bits (i : Int)) ((d.ps.length : Int) + 1)).toNat
def skipB (d : Desk) (tk k : Nat) : Bool := decide (k = d.ps.length) || tk.testBit k || decide (4000 < dayOf d k + d.lo)
def madeStep (d : Desk) (bits : List Int) (s : Md) (i : Nat) : Md := match d.bs[i]? with
  | none => s
  | some b => if skipB d s.tk (choiceK d bits i) = true then (if b.stamp = true ∨ s.od = d.strange then s else ⟨s.bs ++ [b], s.tr ++ [-1], s.tk, s.od + 1⟩)
    else match d.ps[choiceK d bits i]? with
      | none => s
      | some p => ⟨s.bs ++ [madeB d bits i b p], s.tr ++ [(choiceK d bits i : Int)], s.tk ||| 1 <<< choiceK d bits i, s.od⟩
def md0 : Md := ⟨[], [], 0, 0⟩
def madeV (d : Desk) (bits : List Int) : Md := (List.range' 0 d.bs.length).foldl (madeStep d bits) md0
def madeD (d : Desk) (s : Md) (tb : Tok) : Desk := { d with bs := s.bs, tb := tb }

theorem choice_le {d : Desk} {bits : List Int} {i : Nat} : choiceK d bits i ≤ d.ps.length := by
  have := spin_in (n := takeZ bits (i : Int)) (many := (d.ps.length : Int) + 1) (by omega)
  unfold choiceK; omega
/-- What is true of what is made so far. -/
structure MdOk (d : Desk) (i : Nat) (s : Md) : Prop where
  len : s.bs.length = s.tr.length
  le : s.bs.length ≤ i
  tk : s.tk < 256
  od0 : 0 ≤ s.od
  od : s.od ≤ d.strange
  cnt : ((s.tr.count (-1) : Nat) : Int) = s.od
  ok : ∀ (j : Nat) (k : Int) (b : Box), s.tr[j]? = some k → s.bs[j]? = some b → okBox b = true ∧ ((k = -1 ∧ b.stamp = false) ∨ ∃ (n : Nat) (p : Parcel), k = (n : Int) ∧ d.ps[n]? = some p ∧ couldB d b p = true)
  bits : ∀ n : Nat, s.tk.testBit n = true ↔ (n : Int) ∈ s.tr
  inj : ∀ (i j n : Nat), s.tr[i]? = some (n : Int) → s.tr[j]? = some (n : Int) → i = j
theorem md0_ok {d : Desk} (hs : 0 ≤ d.strange) : MdOk d 0 md0 where
  len := rfl
  le := Nat.le_refl _
  tk := by show (0 : Nat) < 256; omega
  od0 := Int.le_refl _
  od := hs
  cnt := rfl
  ok j k b h := by simp [md0] at h
  bits n := by simp [md0]
  inj i j n h := by simp [md0] at h
theorem push_get {α : Type} {l : List α} {x y : α} {j : Nat} (h : (l ++ [x])[j]? = some y) : (j < l.length ∧ l[j]? = some y) ∨ (j = l.length ∧ y = x) := by
  rw [List.getElem?_append] at h
  split at h
  · rename_i hj; exact .inl ⟨hj, h⟩
  · rename_i hj
    have hj' : j - l.length = 0 := by
      refine Decidable.byContradiction fun hn => ?_
      rw [List.getElem?_eq_none (by simp; omega)] at h
      cases h
    rw [hj'] at h
    exact .inr ⟨by omega, (by simpa using h.symm)⟩
theorem step_ok {d : Desk} (hc : d.check = true) {bits : List Int} {i : Nat} {s : Md} (h : MdOk d i s) : MdOk d (i + 1) (madeStep d bits s i) := by
  have hle := h.le
  have hweak : MdOk d (i + 1) s := ⟨h.len, by omega, h.tk, h.od0, h.od, h.cnt, h.ok, h.bits, h.inj⟩
  have hnp := (check_fine hc).np
  unfold madeStep
  cases hb : d.bs[i]? with
  | none => exact hweak
  | some b =>
    have hbok : okBox b = true := by
      simp only [Desk.check, Bool.and_eq_true, List.all_eq_true] at hc
      exact hc.2 b (List.mem_of_getElem? hb)
    dsimp only
    split
    · split
      · exact hweak
      · rename_i hno
        rw [not_or] at hno
        have hod := h.od
        refine ⟨by simp [h.len], by simp; omega, h.tk, by have := h.od0; show 0 ≤ s.od + 1; omega, by show s.od + 1 ≤ d.strange; have := hno.2; omega, ?_, fun j k b' hk hb' => ?_, fun n => ?_, fun i j n h1 h2 => ?_⟩
        · show (((s.tr ++ [-1]).count (-1) : Nat) : Int) = s.od + 1
          rw [List.count_append]
          have := h.cnt
          simp; omega
        · rcases push_get hk with ⟨j1, j2⟩ | ⟨j1, rfl⟩
          · rcases push_get hb' with ⟨_, j3⟩ | ⟨j3, _⟩
            · exact h.ok j k b' j2 j3
            · have := h.len; omega
          · rcases push_get hb' with ⟨j3, _⟩ | ⟨_, rfl⟩
            · have := h.len; omega
            · exact ⟨hbok, .inl ⟨rfl, by simpa using hno.1⟩⟩
        · rw [h.bits]
          show (n : Int) ∈ s.tr ↔ (n : Int) ∈ s.tr ++ [-1]
          rw [List.mem_append, List.mem_singleton]
          constructor
          · exact .inl
          · rintro (h | h)
            · exact h
            · omega
        · rcases push_get h1 with ⟨_, a1⟩ | ⟨_, a1⟩
          · rcases push_get h2 with ⟨_, a2⟩ | ⟨_, a2⟩
            · exact h.inj i j n a1 a2
            · omega
          · omega
    · rename_i hsk
      cases hp : d.ps[choiceK d bits i]? with
      | none => exact hweak
      | some p =>
        have hk8 : choiceK d bits i < d.ps.length := (List.getElem?_eq_some_iff.1 hp).1
        have hpok : okParcel p = true := by
          simp only [Desk.check, Bool.and_eq_true, List.all_eq_true] at hc
          exact hc.1.2 p (List.mem_of_getElem? hp)
        have hsk2 : skipB d s.tk (choiceK d bits i) = false := by simpa using hsk
        simp only [skipB, Bool.or_eq_false_iff, decide_eq_false_iff_not, dayOf, hp] at hsk2
        obtain ⟨hm1, hm2⟩ := made_ok hc (bits := bits) (i := i) (b := b) hpok (by omega)
        have hnot : ((choiceK d bits i : Nat) : Int) ∉ s.tr := fun hm => by
          rw [← h.bits, hsk2.1.2] at hm; cases hm
        refine ⟨by simp [h.len], by simp; omega, bits_lt h.tk (by omega), h.od0, h.od, ?_, fun j k b' hk hb' => ?_, fun n => ?_, fun i' j n h1 h2 => ?_⟩
        · show (((s.tr ++ [(choiceK d bits i : Int)]).count (-1) : Nat) : Int) = s.od
          rw [List.count_append]
          have := h.cnt
          have e : [(choiceK d bits i : Int)].count (-1) = 0 := by
            rw [List.count_eq_zero]; simp
          omega
        · rcases push_get hk with ⟨j1, j2⟩ | ⟨j1, rfl⟩
          · rcases push_get hb' with ⟨_, j3⟩ | ⟨j3, _⟩
            · exact h.ok j k b' j2 j3
            · have := h.len; omega
          · rcases push_get hb' with ⟨j3, _⟩ | ⟨_, rfl⟩
            · have := h.len; omega
            · exact ⟨hm1, .inr ⟨_, p, rfl, hp, hm2⟩⟩
        · show (s.tk ||| 1 <<< choiceK d bits i).testBit n = true ↔ (n : Int) ∈ s.tr ++ [(choiceK d bits i : Int)]
          rw [bit_or, Bool.or_eq_true, h.bits, List.mem_append, decide_eq_true_eq, List.mem_singleton]
          constructor
          · rintro (h | h)
            · exact .inl h
            · exact .inr (by omega)
          · rintro (h | h)
            · exact .inl h
            · exact .inr (by omega)
        · rcases push_get h1 with ⟨_, a1⟩ | ⟨b1, a1⟩
          · rcases push_get h2 with ⟨_, a2⟩ | ⟨_, a2⟩
            · exact h.inj i' j n a1 a2
            · exact absurd (a2 ▸ List.mem_of_getElem? a1) hnot
          · rcases push_get h2 with ⟨_, a2⟩ | ⟨b2, _⟩
            · exact absurd (a1 ▸ List.mem_of_getElem? a2) hnot
            · omega
theorem made_all {d : Desk} (hc : d.check = true) (bits : List Int) : MdOk d d.bs.length (madeV d bits) := by
  have key : ∀ (c j : Nat) (s : Md), MdOk d j s → MdOk d (j + c) ((List.range' j c).foldl (madeStep d bits) s) := by
    intro c
    induction c with
    | zero => intro j s h; exact h
    | succ c ih =>
      intro j s h
      rw [List.range'_succ, List.foldl_cons]
      have := ih (j + 1) _ (step_ok hc (bits := bits) h)
      rwa [show j + 1 + c = j + (c + 1) by omega] at this
  have := key d.bs.length 0 md0 (md0_ok (check_strange hc).1)
  rwa [Nat.zero_add] at this
theorem made_check {d : Desk} (hc : d.check = true) {s : Md} (h : MdOk d d.bs.length s) (tb : Tok) : (madeD d s tb).check = true := by
  have e : (madeD d s tb).check = (isSpan d.lo d.hi 0 400 && within d.wear 0 5000 && within d.strange 0 6 && decide (d.ps.length ≤ 8) && decide (s.bs.length ≤ 6) && d.ps.all okParcel && s.bs.all okBox) := rfl
  have e2 : d.check = (isSpan d.lo d.hi 0 400 && within d.wear 0 5000 && within d.strange 0 6 && decide (d.ps.length ≤ 8) && decide (d.bs.length ≤ 6) && d.ps.all okParcel && d.bs.all okBox) := rfl
  rw [e]
  rw [e2] at hc
  simp only [Bool.and_eq_true, decide_eq_true_eq] at hc ⊢
  obtain ⟨⟨⟨⟨⟨⟨h1, h2⟩, h3⟩, h4⟩, h5⟩, h6⟩, h7⟩ := hc
  have hle := h.le
  refine ⟨⟨⟨⟨⟨⟨h1, h2⟩, h3⟩, h4⟩, by omega⟩, h6⟩, ?_⟩
  rw [List.all_eq_true]
  intro b hb
  obtain ⟨j, hj, rfl⟩ := List.mem_iff_getElem.1 hb
  have hj2 : j < s.tr.length := by rw [← h.len]; exact hj
  exact (h.ok j s.tr[j] s.bs[j] (by simp) (by simp)).1
theorem made_Tr {d : Desk} {s : Md} (h : MdOk d d.bs.length s) (tb : Tok) : Tr (madeD d s tb) s.tr where
  len := h.len.symm
  ok i k hk := by
    have hi : i < s.bs.length := by rw [h.len]; exact (List.getElem?_eq_some_iff.1 hk).1
    have hb : s.bs[i]? = some s.bs[i] := by simp
    rcases (h.ok i k _ hk hb).2 with ⟨h1, h2⟩ | ⟨n, p, h1, h2, h3⟩
    · refine .inl ⟨h1, ?_⟩
      show oddB (madeD d s tb) i = true
      unfold oddB
      rw [show (madeD d s tb).bs[i]? = some s.bs[i] from hb]
      simp [h2]
    · refine .inr ⟨n, h1, ?_⟩
      unfold fit0
      rw [show (madeD d s tb).bs[i]? = some s.bs[i] from hb, show (madeD d s tb).ps[n]? = some p from h2]
      exact h3
  inj := h.inj
  few := by have := h.cnt; have := h.od; show ((s.tr.count (-1) : Nat) : Int) ≤ d.strange; omega
end Go.Ab.Cl

namespace Go.Ab.Cl
open Go.Ab

theorem To_ev {n : Nat} (hn : 2 ≤ n) (a b : Int) : (evKR Bk Gx fsT n).1 0 43 [.int .i64 a, .int .i64 b] [] ansK = some (.agg [.int .i64 a, .int .i64 b], []) := by
  refine call_open (show fsT.find 43 = some a43 from rfl) (by omega) fun n' B cl rd hn' hB hcl hrd => ?_
  conv => lhs; whnf
  repeat' ((first | refine Qw hB ?_ | refine Q0 hB rfl ?_ | refine Q1 hB (by decide) ?_ | refine Q2 hB (by decide) ?_ | refine Q3 hB (by decide) ?_ | refine Q4 hB (by decide) ?_ | refine Q5 hB (by decide) ?_ | refine Q6 hB (by decide) ?_ | refine Q7 hB (by omega) (by omega) ?_ | refine Q8 hB ?_ | refine Q9 hB ?_ | refine Qa hB ?_ | refine Qb hB (fun _ => ?_) (fun _ => ?_) | refine Qc hB ?_ | refine Qd hB ?_ | refine Qe hB ?_ | refine Qf hB ?_ | refine Qg hB ?_ | refine Qh hB ?_ | refine Qi hB ?_ | refine Qj hB rfl ?_ | refine Qk hB rfl ?_ | refine Ql hB (by first | omega | decide) ?_ | refine Qm hB rfl ?_ | refine Qn hB ?_ | refine Qo hB rfl ?_ | refine Qo hB (Qp rfl) ?_ | refine Qq hB rfl ?_ | refine Qr hB ?_ | refine Qs hB ?_ | refine Qt hB ?_ | refine Qu hB ?_ | refine Qv hB rfl ?_) <;> conv => lhs; whnf)
  all_goals rfl
def innerB (a b c d : Int) : Bool := decide (c ≤ a) && decide (b ≤ d)
theorem Inner_ev {n : Nat} (hn : 2 ≤ n) (a b c d : Int) : (evKR Bk Gx fsT n).1 0 49 [.agg [.int .i64 a, .int .i64 b], .agg [.int .i64 c, .int .i64 d]] [] ansK = some (.bool (innerB a b c d), []) := by
  refine call_open (show fsT.find 49 = some a49 from rfl) (by omega) fun n' B cl rd hn' hB hcl hrd => ?_
  conv => lhs; whnf
  repeat' ((first | refine Qw hB ?_ | refine le_split hB (fun h1 => ?_) (fun h1 => ?_) | refine Q0 hB rfl ?_ | refine Q1 hB (by decide) ?_ | refine Q2 hB (by decide) ?_ | refine Q3 hB (by decide) ?_ | refine Q4 hB (by decide) ?_ | refine Q5 hB (by decide) ?_ | refine Q6 hB (by decide) ?_ | refine Q7 hB (by omega) (by omega) ?_ | refine Q8 hB ?_ | refine Q9 hB ?_ | refine Qa hB ?_ | refine Qb hB (fun _ => ?_) (fun _ => ?_) | refine Qc hB ?_ | refine Qd hB ?_ | refine Qe hB ?_ | refine Qf hB ?_ | refine Qg hB ?_ | refine Qh hB ?_ | refine Qi hB ?_ | refine Qj hB rfl ?_ | refine Qk hB rfl ?_ | refine Ql hB (by first | omega | decide) ?_ | refine Qm hB rfl ?_ | refine Qn hB ?_ | refine Qo hB rfl ?_ | refine Qo hB (Qp rfl) ?_ | refine Qq hB rfl ?_ | refine Qr hB ?_ | refine Qs hB ?_ | refine Qt hB ?_ | refine Qu hB ?_ | refine Qv hB rfl ?_) <;> conv => lhs; whnf)
  all_goals
    refine congrArg some (congrArg (·, []) (congrArg AV.bool ?_))
    simp_all [innerB] <;> omega
def placeI : List Int → Int → Int → Int
  | [], _, _ => -1
  | k :: l, n, i => if k = n then i else placeI l n (i + 1)
theorem a39_L1_step {B : Bnd} (hB : B = Bk) {cl : CallK} {rd : RoundK} (l : List Int) (hl : l.length ≤ 1000000000000000) (z : Int) (n : Nat) (s : St) (k : Ex → Env → St → Ans) (r : Ans) :
    ∀ (j i0 : Nat) (t : Tok), purTok t = true → l.length < i0 + j → i0 ≤ l.length →
    (placeI (l.drop i0) z (i0 : Int) = -1 → ∀ e, k (.exit 0) ((0, .sl (rowsI l) t) :: e) s = r) →
    (∀ e, k .ret ((0, .sl (rowsI l) t) :: (1, .int .i64 z) :: (4, .int .i64 (placeI (l.drop i0) z (i0 : Int))) :: e) s = r) →
    B.loop (evCK B a39_L1) [0, 1, 4, 5] n j cl rd Gx 0 1 [(0, .sl (rowsI l) t), (1, .int .i64 z), (4, .int .i64 0), (5, .int .i64 (.ofNat i0))] s k = r := by
  intro j
  induction j with
  | zero => intro i0 t ht h1 h2; omega
  | succ j ih =>
    intro i0 t ht h1 h2 k1 k2
    refine loop_succ hB ?_
    conv => lhs; whnf
    refine Qf hB ?_
    conv => lhs; whnf
    refine lt_nat hB (fun h => ?_) (fun h => ?_) <;> conv => lhs; whnf
    · have hx : (rowsI l)[i0]? = some [.int .i64 l[i0]] := by simp [rowsI, h]
      have hdr : l.drop i0 = l[i0] :: l.drop (i0 + 1) := List.drop_eq_getElem_cons h
      rw [hdr] at k1 k2
      generalize l[i0] = y at hx hdr k1 k2
      repeat' ((first | refine QC hB (m := i0) rfl ?_ | refine QB hB hx ?_ | refine eq_split hB (fun hy => ?_) (fun hy => ?_) | refine Q0 hB rfl ?_ | refine Q1 hB (by decide) ?_ | refine Q2 hB (by decide) ?_ | refine Q3 hB (by decide) ?_ | refine Q4 hB (by decide) ?_ | refine Q5 hB (by decide) ?_ | refine Q6 hB (by decide) ?_ | refine Q7 hB (by omega) (by omega) ?_ | refine Q8 hB ?_ | refine Q9 hB ?_ | refine Qa hB ?_ | refine Qb hB (fun _ => ?_) (fun _ => ?_) | refine Qc hB ?_ | refine Qd hB ?_ | refine Qe hB ?_ | refine Qf hB ?_ | refine Qg hB ?_ | refine Qh hB ?_ | refine Qi hB ?_ | refine Qj hB rfl ?_ | refine Qk hB rfl ?_ | refine Ql hB (by first | omega | decide) ?_ | refine Qm hB rfl ?_ | refine Qn hB ?_ | refine Qo hB rfl ?_ | refine Qo hB (Qp rfl) ?_ | refine Qq hB rfl ?_ | refine Qr hB ?_ | refine Qs hB ?_ | refine Qt hB ?_ | refine Qu hB ?_ | refine Qv hB rfl ?_) <;> conv => lhs; whnf)
      · have hp : placeI (y :: l.drop (i0 + 1)) z (i0 : Int) = (i0 : Int) := by simp [placeI, hy]
        rw [hp] at k2
        rw [clampTok_pur ht]
        exact k2 _
      · have hp : placeI (y :: l.drop (i0 + 1)) z (i0 : Int) = placeI (l.drop (i0 + 1)) z ((i0 + 1 : Nat) : Int) := by simp [placeI, hy]
        rw [hp] at k1 k2
        rw [clampTok_pur ht]
        exact ih (i0 + 1) t ht (by omega) (by omega) k1 k2
    · repeat' ((first | refine Q0 hB rfl ?_ | refine Q1 hB (by decide) ?_ | refine Q2 hB (by decide) ?_ | refine Q3 hB (by decide) ?_ | refine Q4 hB (by decide) ?_ | refine Q5 hB (by decide) ?_ | refine Q6 hB (by decide) ?_ | refine Q7 hB (by omega) (by omega) ?_ | refine Q8 hB ?_ | refine Q9 hB ?_ | refine Qa hB ?_ | refine Qb hB (fun _ => ?_) (fun _ => ?_) | refine Qc hB ?_ | refine Qd hB ?_ | refine Qe hB ?_ | refine Qf hB ?_ | refine Qg hB ?_ | refine Qh hB ?_ | refine Qi hB ?_ | refine Qj hB rfl ?_ | refine Qk hB rfl ?_ | refine Ql hB (by first | omega | decide) ?_ | refine Qm hB rfl ?_ | refine Qn hB ?_ | refine Qo hB rfl ?_ | refine Qo hB (Qp rfl) ?_ | refine Qq hB rfl ?_ | refine Qr hB ?_ | refine Qs hB ?_ | refine Qt hB ?_ | refine Qu hB ?_ | refine Qv hB rfl ?_) <;> conv => lhs; whnf)
      have hi : i0 = l.length := by omega
      subst hi
      rw [clampTok_pur ht]
      exact k1 (by simp [placeI]) _
theorem Place_ev {n : Nat} (hn : 1000000000000002 ≤ n) (l : List Int) (hl : l.length ≤ 1000000000000000) {t : Tok} (ht : purTok t = true) (z : Int) : (evKR Bk Gx fsT n).1 0 39 [.sl (rowsI l) t, .int .i64 z] [] ansK = some (.int .i64 (placeI l z 0), []) := by
  refine call_open (show fsT.find 39 = some a39 from rfl) (by omega) fun n' B cl rd hn' hB hcl hrd => ?_
  conv => lhs; whnf
  repeat' ((first | refine Qw hB ?_ | refine a39_L1_step hB l hl z _ _ _ _ _ 0 _ (purTok_clamp ht) (by omega) (by omega) (fun hp e => ?_) (fun e => ?_) | refine Q0 hB rfl ?_ | refine Q1 hB (by decide) ?_ | refine Q2 hB (by decide) ?_ | refine Q3 hB (by decide) ?_ | refine Q4 hB (by decide) ?_ | refine Q5 hB (by decide) ?_ | refine Q6 hB (by decide) ?_ | refine Q7 hB (by omega) (by omega) ?_ | refine Q8 hB ?_ | refine Q9 hB ?_ | refine Qa hB ?_ | refine Qb hB (fun _ => ?_) (fun _ => ?_) | refine Qc hB ?_ | refine Qd hB ?_ | refine Qe hB ?_ | refine Qf hB ?_ | refine Qg hB ?_ | refine Qh hB ?_ | refine Qi hB ?_ | refine Qj hB rfl ?_ | refine Qk hB rfl ?_ | refine Ql hB (by first | omega | decide) ?_ | refine Qm hB rfl ?_ | refine Qn hB ?_ | refine Qo hB rfl ?_ | refine Qo hB (Qp rfl) ?_ | refine Qq hB rfl ?_ | refine Qr hB ?_ | refine Qs hB ?_ | refine Qt hB ?_ | refine Qu hB ?_ | refine Qv hB rfl ?_) <;> conv => lhs; whnf)
  · have hp : placeI l z 0 = -1 := hp
    rw [hp]
  · rfl
theorem place_lt {l : List Int} {z : Int} : ∀ {i : Int}, 0 ≤ i → (placeI l z i < 0 ↔ z ∉ l) := by
  induction l with
  | nil => intro i hi; simp [placeI]
  | cons k l ih =>
    intro i hi
    unfold placeI
    by_cases h : k = z
    · simp [h]; omega
    · rw [if_neg h, ih (by omega)]
      simp [Ne.symm h]
end Go.Ab.Cl

namespace Go.Ab.Cl
open Go.Ab

theorem a61_L1_step {B : Bnd} (hB : B = Bk) {cl : CallK} {rd : RoundK} (m : List UInt8) (hlen : m.length ≤ 9223372036854775806) (n : Nat) (s : St) (k : Ex → Env → St → Ans) (r : Ans) :
    ∀ (j i : Nat), m.length < i + j → i ≤ m.length →
    ((m.drop i).all okDigit = true → ∀ e, k (.exit 0) e s = r) → ((m.drop i).all okDigit = false → ∀ e, k .ret ((0, .str m) :: (2, .bool false) :: e) s = r) →
    B.loop (evCK B a61_L1) [0, 2, 3] n j cl rd Gx 0 1 [(0, .str m), (2, .bool false), (3, .int .i64 (.ofNat i))] s k = r := by
  intro j
  induction j with
  | zero => intro i h1 h2; omega
  | succ j ih =>
    intro i h1 h2 k1 k2
    refine loop_succ hB ?_
    conv => lhs; whnf
    refine Qh hB ?_
    conv => lhs; whnf
    refine lt_nat hB (fun h => ?_) (fun h => ?_) <;> conv => lhs; whnf
    · have hx : m[i]? = some m[i] := by simp [h]
      have hd : m.drop i = m[i] :: m.drop (i + 1) := List.drop_eq_getElem_cons h
      rw [hd] at k1 k2
      generalize m[i] = c at hx k1 k2
      have hcl := c.toNat_lt
      repeat' ((first | refine QC hB (m := i) rfl ?_ | refine nthb_step hB hx ?_ | refine Qi hB ?_ | refine eq_split hB (fun h63 => ?_) (fun h63 => ?_) | refine lt_split hB (fun hl => ?_) (fun hl => ?_) | refine Q0 hB rfl ?_ | refine Q1 hB (by decide) ?_ | refine Q2 hB (by decide) ?_ | refine Q3 hB (by decide) ?_ | refine Q4 hB (by decide) ?_ | refine Q5 hB (by decide) ?_ | refine Q6 hB (by decide) ?_ | refine Q7 hB (by omega) (by omega) ?_ | refine Q8 hB ?_ | refine Q9 hB ?_ | refine Qa hB ?_ | refine Qb hB (fun _ => ?_) (fun _ => ?_) | refine Qc hB ?_ | refine Qd hB ?_ | refine Qe hB ?_ | refine Qf hB ?_ | refine Qg hB ?_ | refine Qh hB ?_ | refine Qi hB ?_ | refine Qj hB rfl ?_ | refine Qk hB rfl ?_ | refine Ql hB (by first | omega | decide) ?_ | refine Qm hB rfl ?_ | refine Qn hB ?_ | refine Qo hB rfl ?_ | refine Qo hB (Qp rfl) ?_ | refine Qq hB rfl ?_ | refine Qr hB ?_ | refine Qs hB ?_ | refine Qt hB ?_ | refine Qu hB ?_ | refine Qv hB rfl ?_) <;> conv => lhs; whnf)
      · have hb : okDigit c = true := by simp only [okDigit, within, Bool.or_eq_true, Bool.and_eq_true, decide_eq_true_eq]; simp only [Int.ofNat_eq_natCast] at h63; omega
        rw [List.all_cons, hb, Bool.true_and] at k1 k2
        exact ih (i + 1) (by omega) (by omega) k1 k2
      · have hb : okDigit c = false := by simp only [okDigit, within, Bool.or_eq_false_iff, Bool.and_eq_false_iff, decide_eq_false_iff_not]; simp only [Int.ofNat_eq_natCast] at h63 hl; omega
        rw [List.all_cons, hb, Bool.false_and] at k2
        exact k2 rfl _
      · have hb : okDigit c = false := by simp only [okDigit, within, Bool.or_eq_false_iff, Bool.and_eq_false_iff, decide_eq_false_iff_not]; simp only [Int.ofNat_eq_natCast] at h63 hl; omega
        rw [List.all_cons, hb, Bool.false_and] at k2
        exact k2 rfl _
      · have hb : okDigit c = true := by simp only [okDigit, within, Bool.or_eq_true, Bool.and_eq_true, decide_eq_true_eq]; simp only [Int.ofNat_eq_natCast] at *; omega
        rw [List.all_cons, hb, Bool.true_and] at k1 k2
        exact ih (i + 1) (by omega) (by omega) k1 k2
    · repeat' ((first | refine Q0 hB rfl ?_ | refine Q1 hB (by decide) ?_ | refine Q2 hB (by decide) ?_ | refine Q3 hB (by decide) ?_ | refine Q4 hB (by decide) ?_ | refine Q5 hB (by decide) ?_ | refine Q6 hB (by decide) ?_ | refine Q7 hB (by omega) (by omega) ?_ | refine Q8 hB ?_ | refine Q9 hB ?_ | refine Qa hB ?_ | refine Qb hB (fun _ => ?_) (fun _ => ?_) | refine Qc hB ?_ | refine Qd hB ?_ | refine Qe hB ?_ | refine Qf hB ?_ | refine Qg hB ?_ | refine Qh hB ?_ | refine Qi hB ?_ | refine Qj hB rfl ?_ | refine Qk hB rfl ?_ | refine Ql hB (by first | omega | decide) ?_ | refine Qm hB rfl ?_ | refine Qn hB ?_ | refine Qo hB rfl ?_ | refine Qo hB (Qp rfl) ?_ | refine Qq hB rfl ?_ | refine Qr hB ?_ | refine Qs hB ?_ | refine Qt hB ?_ | refine Qu hB ?_ | refine Qv hB rfl ?_) <;> conv => lhs; whnf)
      have hi : i = m.length := by omega
      refine k1 ?_ _
      rw [hi]; simp

theorem isSealR_ev {n : Nat} (m : List UInt8) (hl : m.length ≤ 1000000000000000) (hn : m.length + 2 ≤ n) : (evKR Bk Gx fsT n).1 0 61 [.str m] [] ansK = some (.bool (okSeal m), []) := by
  refine call_open (show fsT.find 61 = some a61 from rfl) (by omega) fun n B cl rd hn' hB hcl hrd => ?_
  have e0 : okSeal m = ((m.isEmpty || m.length == 4) && m.all okDigit) := rfl
  conv => lhs; whnf
  repeat' ((first | refine eq_split hB (fun h1 => ?_) (fun h1 => ?_) | refine a61_L1_step hB m (by omega) _ _ _ _ _ 0 (by omega) (by omega) (fun ha e => ?_) (fun ha e => ?_) | refine Q0 hB rfl ?_ | refine Q1 hB (by decide) ?_ | refine Q2 hB (by decide) ?_ | refine Q3 hB (by decide) ?_ | refine Q4 hB (by decide) ?_ | refine Q5 hB (by decide) ?_ | refine Q6 hB (by decide) ?_ | refine Q7 hB (by omega) (by omega) ?_ | refine Q8 hB ?_ | refine Q9 hB ?_ | refine Qa hB ?_ | refine Qb hB (fun _ => ?_) (fun _ => ?_) | refine Qc hB ?_ | refine Qd hB ?_ | refine Qe hB ?_ | refine Qf hB ?_ | refine Qg hB ?_ | refine Qh hB ?_ | refine Qi hB ?_ | refine Qj hB rfl ?_ | refine Qk hB rfl ?_ | refine Ql hB (by first | omega | decide) ?_ | refine Qm hB rfl ?_ | refine Qn hB ?_ | refine Qo hB rfl ?_ | refine Qo hB (Qp rfl) ?_ | refine Qq hB rfl ?_ | refine Qr hB ?_ | refine Qs hB ?_ | refine Qt hB ?_ | refine Qu hB ?_ | refine Qv hB rfl ?_) <;> conv => lhs; whnf)
  all_goals
    try rw [List.drop_zero] at ha
    rw [e0]
    refine congrArg some (congrArg (·, []) (congrArg AV.bool ?_))
    try simp only [Int.ofNat_eq_natCast] at *
    cases m with
    | nil => simp_all
    | cons a m => simp_all <;> omega

def LoopEnd (v : AV) (ok : Bool) : Env → Prop := fun e => ∃ i : Int, e = [(1, v), (3, .bool ok), (4, .int .i64 i)] ∨ e = [(1, v), (3, .bool ok), (6, .int .i64 i)]
theorem a16_L1_step {B : Bnd} (hB : B = Bk) {cl : CallK} {rd : RoundK} (H38 : ∀ a b c : Int, cl 0 38 [.int .i64 a, .int .i64 b, .int .i64 c] [] ansK = some (.bool (within a b c), [])) (d : Desk) (hd : d.ok) (n : Nat) (k : Ex → Env → St → Ans) (r : Ans) :
    ∀ (j i : Nat) (ok : Bool), d.ps.length < i + j → i ≤ d.ps.length →
    (∀ x : Int, k (.exit 0) [(1, .ptr 0 0 0), (3, .bool (ok && (d.ps.drop i).all okParcel)), (4, .int .i64 x)] [⟨[.cells d.c], []⟩] = r) →
    B.loop (evCK B a16_L1) [1, 3, 4] n j cl rd Gx 0 1 [(1, .ptr 0 0 0), (3, .bool ok), (4, .int .i64 (.ofNat i))] [⟨[.cells d.c], []⟩] k = r := by
  intro j
  induction j with
  | zero => intro i ok h1 h2; omega
  | succ j ih =>
    intro i ok h1 h2 k1
    have hps := hd.ps
    refine loop_succ hB ?_
    cases ok
    · conv => lhs; whnf
      repeat' ((first | refine Q0 hB rfl ?_ | refine Q1 hB (by decide) ?_ | refine Q2 hB (by decide) ?_ | refine Q3 hB (by decide) ?_ | refine Q4 hB (by decide) ?_ | refine Q5 hB (by decide) ?_ | refine Q6 hB (by decide) ?_ | refine Q7 hB (by omega) (by omega) ?_ | refine Q8 hB ?_ | refine Q9 hB ?_ | refine Qa hB ?_ | refine Qb hB (fun _ => ?_) (fun _ => ?_) | refine Qc hB ?_ | refine Qd hB ?_ | refine Qe hB ?_ | refine Qf hB ?_ | refine Qg hB ?_ | refine Qh hB ?_ | refine Qi hB ?_ | refine Qj hB rfl ?_ | refine Qk hB rfl ?_ | refine Ql hB (by first | omega | decide) ?_ | refine Qm hB rfl ?_ | refine Qn hB ?_ | refine Qo hB rfl ?_ | refine Qo hB (Qp rfl) ?_ | refine Qq hB rfl ?_ | refine Qr hB ?_ | refine Qs hB ?_ | refine Qt hB ?_ | refine Qu hB ?_ | refine Qv hB rfl ?_) <;> conv => lhs; whnf)
      exact k1 _
    · conv => lhs; whnf
      (repeat' ((first | refine Qn hB ?_ | refine Qr hB ?_ | refine Qj hB rfl ?_ | refine Qf hB ?_) <;> conv => lhs; whnf))
      refine lt_nat hB (fun h => ?_) (fun h => ?_) <;> conv => lhs; whnf
      · have hx : (d.ps.map Parcel.c)[i]? = some (Parcel.c d.ps[i]) := by simp [h]
        have hdr : d.ps.drop i = d.ps[i] :: d.ps.drop (i + 1) := List.drop_eq_getElem_cons h
        rw [hdr] at k1
        generalize d.ps[i] = p at hx k1
        repeat' ((first | refine Qw hB ?_ | refine QC hB (m := i) rfl ?_ | refine QB hB hx ?_ | refine Qy hB (H38 _ _ _) (fun _ => ?_) (fun _ => ?_) | refine Q0 hB rfl ?_ | refine Q1 hB (by decide) ?_ | refine Q2 hB (by decide) ?_ | refine Q3 hB (by decide) ?_ | refine Q4 hB (by decide) ?_ | refine Q5 hB (by decide) ?_ | refine Q6 hB (by decide) ?_ | refine Q7 hB (by omega) (by omega) ?_ | refine Q8 hB ?_ | refine Q9 hB ?_ | refine Qa hB ?_ | refine Qb hB (fun _ => ?_) (fun _ => ?_) | refine Qc hB ?_ | refine Qd hB ?_ | refine Qe hB ?_ | refine Qf hB ?_ | refine Qg hB ?_ | refine Qh hB ?_ | refine Qi hB ?_ | refine Qj hB rfl ?_ | refine Qk hB rfl ?_ | refine Ql hB (by first | omega | decide) ?_ | refine Qm hB rfl ?_ | refine Qn hB ?_ | refine Qo hB rfl ?_ | refine Qo hB (Qp rfl) ?_ | refine Qq hB rfl ?_ | refine Qr hB ?_ | refine Qs hB ?_ | refine Qt hB ?_ | refine Qu hB ?_ | refine Qv hB rfl ?_) <;> conv => lhs; whnf)
        all_goals
          refine ih (i + 1) _ (by omega) (by omega) fun x => ?_
          have k1 := k1 x
          simp_all [okParcel]
      · repeat' ((first | refine Q0 hB rfl ?_ | refine Q1 hB (by decide) ?_ | refine Q2 hB (by decide) ?_ | refine Q3 hB (by decide) ?_ | refine Q4 hB (by decide) ?_ | refine Q5 hB (by decide) ?_ | refine Q6 hB (by decide) ?_ | refine Q7 hB (by omega) (by omega) ?_ | refine Q8 hB ?_ | refine Q9 hB ?_ | refine Qa hB ?_ | refine Qb hB (fun _ => ?_) (fun _ => ?_) | refine Qc hB ?_ | refine Qd hB ?_ | refine Qe hB ?_ | refine Qf hB ?_ | refine Qg hB ?_ | refine Qh hB ?_ | refine Qi hB ?_ | refine Qj hB rfl ?_ | refine Qk hB rfl ?_ | refine Ql hB (by first | omega | decide) ?_ | refine Qm hB rfl ?_ | refine Qn hB ?_ | refine Qo hB rfl ?_ | refine Qo hB (Qp rfl) ?_ | refine Qq hB rfl ?_ | refine Qr hB ?_ | refine Qs hB ?_ | refine Qt hB ?_ | refine Qu hB ?_ | refine Qv hB rfl ?_) <;> conv => lhs; whnf)
        have hi : i = d.ps.length := by omega
        subst hi
        rw [List.drop_length] at k1
        exact k1 _
theorem a16_L2_step {B : Bnd} (hB : B = Bk) {cl : CallK} {rd : RoundK} (H38 : ∀ a b c : Int, cl 0 38 [.int .i64 a, .int .i64 b, .int .i64 c] [] ansK = some (.bool (within a b c), []))
    (H60 : ∀ a b c d : Int, cl 0 60 [.agg [.int .i64 a, .int .i64 b], .int .i64 c, .int .i64 d] [] ansK = some (.bool (isSpan a b c d), [])) (d : Desk) (hd : d.ok)
    (H61 : ∀ b ∈ d.bs, cl 0 61 [.str b.mark] [] ansK = some (.bool (okSeal b.mark), [])) (n : Nat) (k : Ex → Env → St → Ans) (r : Ans) :
    ∀ (j i : Nat) (ok : Bool), d.bs.length < i + j → i ≤ d.bs.length →
    (∀ x : Int, k (.exit 2) [(1, .ptr 0 0 0), (3, .bool (ok && (d.bs.drop i).all okBox)), (6, .int .i64 x)] [⟨[.cells d.c], []⟩] = r) →
    B.loop (evCK B a16_L2) [1, 3, 6] n j cl rd Gx 0 1 [(1, .ptr 0 0 0), (3, .bool ok), (6, .int .i64 (.ofNat i))] [⟨[.cells d.c], []⟩] k = r := by
  intro j
  induction j with
  | zero => intro i ok h1 h2; omega
  | succ j ih =>
    intro i ok h1 h2 k1
    have hbs := hd.bs
    refine loop_succ hB ?_
    cases ok
    · conv => lhs; whnf
      repeat' ((first | refine Q0 hB rfl ?_ | refine Q1 hB (by decide) ?_ | refine Q2 hB (by decide) ?_ | refine Q3 hB (by decide) ?_ | refine Q4 hB (by decide) ?_ | refine Q5 hB (by decide) ?_ | refine Q6 hB (by decide) ?_ | refine Q7 hB (by omega) (by omega) ?_ | refine Q8 hB ?_ | refine Q9 hB ?_ | refine Qa hB ?_ | refine Qb hB (fun _ => ?_) (fun _ => ?_) | refine Qc hB ?_ | refine Qd hB ?_ | refine Qe hB ?_ | refine Qf hB ?_ | refine Qg hB ?_ | refine Qh hB ?_ | refine Qi hB ?_ | refine Qj hB rfl ?_ | refine Qk hB rfl ?_ | refine Ql hB (by first | omega | decide) ?_ | refine Qm hB rfl ?_ | refine Qn hB ?_ | refine Qo hB rfl ?_ | refine Qo hB (Qp rfl) ?_ | refine Qq hB rfl ?_ | refine Qr hB ?_ | refine Qs hB ?_ | refine Qt hB ?_ | refine Qu hB ?_ | refine Qv hB rfl ?_) <;> conv => lhs; whnf)
      exact k1 _
    · conv => lhs; whnf
      (repeat' ((first | refine Qn hB ?_ | refine Qr hB ?_ | refine Qj hB rfl ?_ | refine Qf hB ?_) <;> conv => lhs; whnf))
      refine lt_nat hB (fun h => ?_) (fun h => ?_) <;> conv => lhs; whnf
      · have hx : (d.bs.map Box.c)[i]? = some (Box.c d.bs[i]) := by simp [h]
        have hdr : d.bs.drop i = d.bs[i] :: d.bs.drop (i + 1) := List.drop_eq_getElem_cons h
        have hm := H61 d.bs[i] (List.getElem_mem h)
        rw [hdr] at k1
        generalize d.bs[i] = p at hx k1 hm
        repeat' ((first | refine Qw hB ?_ | refine QC hB (m := i) rfl ?_ | refine QB hB hx ?_ | refine Qy hB (H38 _ _ _) (fun _ => ?_) (fun _ => ?_) | refine Qy hB (H60 _ _ _ _) (fun _ => ?_) (fun _ => ?_) | refine Qy hB hm (fun _ => ?_) (fun _ => ?_) | refine Q0 hB rfl ?_ | refine Q1 hB (by decide) ?_ | refine Q2 hB (by decide) ?_ | refine Q3 hB (by decide) ?_ | refine Q4 hB (by decide) ?_ | refine Q5 hB (by decide) ?_ | refine Q6 hB (by decide) ?_ | refine Q7 hB (by omega) (by omega) ?_ | refine Q8 hB ?_ | refine Q9 hB ?_ | refine Qa hB ?_ | refine Qb hB (fun _ => ?_) (fun _ => ?_) | refine Qc hB ?_ | refine Qd hB ?_ | refine Qe hB ?_ | refine Qf hB ?_ | refine Qg hB ?_ | refine Qh hB ?_ | refine Qi hB ?_ | refine Qj hB rfl ?_ | refine Qk hB rfl ?_ | refine Ql hB (by first | omega | decide) ?_ | refine Qm hB rfl ?_ | refine Qn hB ?_ | refine Qo hB rfl ?_ | refine Qo hB (Qp rfl) ?_ | refine Qq hB rfl ?_ | refine Qr hB ?_ | refine Qs hB ?_ | refine Qt hB ?_ | refine Qu hB ?_ | refine Qv hB rfl ?_) <;> conv => lhs; whnf)
        all_goals
          refine ih (i + 1) _ (by omega) (by omega) fun x => ?_
          have k1 := k1 x
          simp_all [okBox]
      · repeat' ((first | refine Q0 hB rfl ?_ | refine Q1 hB (by decide) ?_ | refine Q2 hB (by decide) ?_ | refine Q3 hB (by decide) ?_ | refine Q4 hB (by decide) ?_ | refine Q5 hB (by decide) ?_ | refine Q6 hB (by decide) ?_ | refine Q7 hB (by omega) (by omega) ?_ | refine Q8 hB ?_ | refine Q9 hB ?_ | refine Qa hB ?_ | refine Qb hB (fun _ => ?_) (fun _ => ?_) | refine Qc hB ?_ | refine Qd hB ?_ | refine Qe hB ?_ | refine Qf hB ?_ | refine Qg hB ?_ | refine Qh hB ?_ | refine Qi hB ?_ | refine Qj hB rfl ?_ | refine Qk hB rfl ?_ | refine Ql hB (by first | omega | decide) ?_ | refine Qm hB rfl ?_ | refine Qn hB ?_ | refine Qo hB rfl ?_ | refine Qo hB (Qp rfl) ?_ | refine Qq hB rfl ?_ | refine Qr hB ?_ | refine Qs hB ?_ | refine Qt hB ?_ | refine Qu hB ?_ | refine Qv hB rfl ?_) <;> conv => lhs; whnf)
        have hi : i = d.bs.length := by omega
        subst hi
        rw [List.drop_length] at k1
        exact k1 _
theorem a16_L1_two {B : Bnd} (hB : B = Bk) {cl : CallK} {rd : RoundK} (H38 : ∀ a b c : Int, cl 0 38 [.int .i64 a, .int .i64 b, .int .i64 c] [] ansK = some (.bool (within a b c), [])) (d : Desk) (hd : d.ok) {pb : Bool} (hpb : d.ps.all okParcel = pb) (n : Nat) (k : Ex → Env → St → Ans) (r : Ans) (j : Nat) (hj : d.ps.length < j)
    (k1 : ∀ x : Int, k (.exit 0) [(1, .ptr 0 0 0), (3, .bool pb), (4, .int .i64 x)] [⟨[.cells d.c], []⟩] = r) :
    B.loop (evCK B a16_L1) [1, 3, 4] n j cl rd Gx 0 1 [(1, .ptr 0 0 0), (3, .bool true), (4, .int .i64 0)] [⟨[.cells d.c], []⟩] k = r :=
  a16_L1_step hB H38 d hd n k r j 0 true (by omega) (by omega) fun x => by
    rw [List.drop_zero, hpb, Bool.true_and]; exact k1 x
theorem a16_L2_two {B : Bnd} (hB : B = Bk) {cl : CallK} {rd : RoundK} (H38 : ∀ a b c : Int, cl 0 38 [.int .i64 a, .int .i64 b, .int .i64 c] [] ansK = some (.bool (within a b c), []))
    (H60 : ∀ a b c d : Int, cl 0 60 [.agg [.int .i64 a, .int .i64 b], .int .i64 c, .int .i64 d] [] ansK = some (.bool (isSpan a b c d), [])) (d : Desk) (hd : d.ok)
    (H61 : ∀ b ∈ d.bs, cl 0 61 [.str b.mark] [] ansK = some (.bool (okSeal b.mark), [])) {bb : Bool} (hbb : d.bs.all okBox = bb) (n : Nat) (k : Ex → Env → St → Ans) (r : Ans) (j : Nat) (hj : d.bs.length < j)
    (k1 : ∀ x : Int, k (.exit 2) [(1, .ptr 0 0 0), (3, .bool bb), (6, .int .i64 x)] [⟨[.cells d.c], []⟩] = r) :
    B.loop (evCK B a16_L2) [1, 3, 6] n j cl rd Gx 0 1 [(1, .ptr 0 0 0), (3, .bool true), (6, .int .i64 0)] [⟨[.cells d.c], []⟩] k = r :=
  a16_L2_step hB H38 H60 d hd H61 n k r j 0 true (by omega) (by omega) fun x => by
    rw [List.drop_zero, hbb, Bool.true_and]; exact k1 x
theorem CheckR_ev {n : Nat} (d : Desk) (hd : d.ok) (hn : 1000000000000010 ≤ n) : (evKR Bk Gx fsT n).1 0 16 [d.v] [] ansK = some (.int .i64 (if d.check = true then 0 else 90), []) := by
  refine call_open (show fsT.find 16 = some a16 from rfl) (by omega) fun n B cl rd hn' hB hcl hrd => ?_
  have H38 := fun a b c => Tween_ev (G := Gx) (n := n) (by omega) a b c
  have H60 := fun a b c d => Proper_ev (G := Gx) (n := n) (by omega) a b c d
  have H61 : ∀ b ∈ d.bs, (evKR Bk Gx fsT n).1 0 61 [.str b.mark] [] ansK = some (.bool (okSeal b.mark), []) := fun b hb => isSealR_ev b.mark (hd.str b hb) (by have := hd.str b hb; omega)
  rw [← hcl] at H38 H60 H61
  have hps := hd.ps
  have hbs := hd.bs
  have hck : d.check = (isSpan d.lo d.hi 0 400 && within d.wear 0 5000 && within d.strange 0 6 && decide (d.ps.length ≤ 8) && decide (d.bs.length ≤ 6) && d.ps.all okParcel && d.bs.all okBox) := rfl
  cases hpb : d.ps.all okParcel <;> cases hbb : d.bs.all okBox
  all_goals
    rw [hpb, hbb] at hck
    conv => lhs; whnf
    repeat' ((first | refine Qw hB ?_ | refine Qy hB (H38 _ _ _) (fun _ => ?_) (fun _ => ?_) | refine Qy hB (H60 _ _ _ _) (fun _ => ?_) (fun _ => ?_) | refine a16_L1_two hB H38 d hd hpb _ _ _ _ (by omega) (fun x => ?_) | refine a16_L2_two hB H38 H60 d hd H61 hbb _ _ _ _ (by omega) (fun x => ?_) | refine a16_L1_step hB H38 d hd _ _ _ _ 0 false (by omega) (by omega) (fun x => ?_) | refine a16_L2_step hB H38 H60 d hd H61 _ _ _ _ 0 false (by omega) (by omega) (fun x => ?_) | refine le_split hB (fun _ => ?_) (fun _ => ?_) | refine Q0 hB rfl ?_ | refine Q1 hB (by decide) ?_ | refine Q2 hB (by decide) ?_ | refine Q3 hB (by decide) ?_ | refine Q4 hB (by decide) ?_ | refine Q5 hB (by decide) ?_ | refine Q6 hB (by decide) ?_ | refine Q7 hB (by omega) (by omega) ?_ | refine Q8 hB ?_ | refine Q9 hB ?_ | refine Qa hB ?_ | refine Qb hB (fun _ => ?_) (fun _ => ?_) | refine Qc hB ?_ | refine Qd hB ?_ | refine Qe hB ?_ | refine Qf hB ?_ | refine Qg hB ?_ | refine Qh hB ?_ | refine Qi hB ?_ | refine Qj hB rfl ?_ | refine Qk hB rfl ?_ | refine Ql hB (by first | omega | decide) ?_ | refine Qm hB rfl ?_ | refine Qn hB ?_ | refine Qo hB rfl ?_ | refine Qo hB (Qp rfl) ?_ | refine Qq hB rfl ?_ | refine Qr hB ?_ | refine Qs hB ?_ | refine Qt hB ?_ | refine Qu hB ?_ | refine Qv hB rfl ?_) <;> conv => lhs; whnf)
  all_goals
    clear H38 H60 H61
    refine congrArg some (congrArg (·, []) (congrArg (AV.int .i64) ?_))
    try simp only [Int.ofNat_eq_natCast] at *

    simp_all
  all_goals omega

theorem Has_ev {n : Nat} (hn : 3 ≤ n) (a b z : Int) : (evKR Bk Gx fsT n).1 0 41 [.agg [.int .i64 a, .int .i64 b], .int .i64 z] [] ansK = some (.bool (within z a b), []) := by
  refine call_open (show fsT.find 41 = some a41 from rfl) (by omega) fun n B cl rd hn' hB hcl hrd => ?_
  have H38 := Tween_ev (G := Gx) (n := n) (by omega) z a b
  rw [← hcl] at H38
  conv => lhs; whnf
  repeat' ((first | refine Qw hB ?_ | refine Qx hB H38 ?_ | refine Q0 hB rfl ?_ | refine Q1 hB (by decide) ?_ | refine Q2 hB (by decide) ?_ | refine Q3 hB (by decide) ?_ | refine Q4 hB (by decide) ?_ | refine Q5 hB (by decide) ?_ | refine Q6 hB (by decide) ?_ | refine Q7 hB (by omega) (by omega) ?_ | refine Q8 hB ?_ | refine Q9 hB ?_ | refine Qa hB ?_ | refine Qb hB (fun _ => ?_) (fun _ => ?_) | refine Qc hB ?_ | refine Qd hB ?_ | refine Qe hB ?_ | refine Qf hB ?_ | refine Qg hB ?_ | refine Qh hB ?_ | refine Qi hB ?_ | refine Qj hB rfl ?_ | refine Qk hB rfl ?_ | refine Ql hB (by first | omega | decide) ?_ | refine Qm hB rfl ?_ | refine Qn hB ?_ | refine Qo hB rfl ?_ | refine Qo hB (Qp rfl) ?_ | refine Qq hB rfl ?_ | refine Qr hB ?_ | refine Qs hB ?_ | refine Qt hB ?_ | refine Qu hB ?_ | refine Qv hB rfl ?_) <;> conv => lhs; whnf)
  all_goals rfl
theorem Common_ev {n : Nat} (hn : 3 ≤ n) (a b c d : Int) : (evKR Bk Gx fsT n).1 0 83 [.agg [.int .i64 a, .int .i64 b], .agg [.int .i64 c, .int .i64 d]] [] ansK = some (.agg [.int .i64 (hiI a c), .int .i64 (loI b d)], []) := by
  refine call_open (show fsT.find 83 = some a83 from rfl) (by omega) fun n B cl rd hn' hB hcl hrd => ?_
  have HTo := To_ev (n := n) (by omega) (hiI a c) (loI b d)
  rw [← hcl] at HTo
  conv => lhs; whnf
  repeat' ((first | refine Qw hB ?_ | refine Qx hB HTo ?_ | refine Qq hB (mx_ok rfl rfl) ?_ | refine Qq hB (mn_ok rfl rfl) ?_ | refine Q0 hB rfl ?_ | refine Q1 hB (by decide) ?_ | refine Q2 hB (by decide) ?_ | refine Q3 hB (by decide) ?_ | refine Q4 hB (by decide) ?_ | refine Q5 hB (by decide) ?_ | refine Q6 hB (by decide) ?_ | refine Q7 hB (by omega) (by omega) ?_ | refine Q8 hB ?_ | refine Q9 hB ?_ | refine Qa hB ?_ | refine Qb hB (fun _ => ?_) (fun _ => ?_) | refine Qc hB ?_ | refine Qd hB ?_ | refine Qe hB ?_ | refine Qf hB ?_ | refine Qg hB ?_ | refine Qh hB ?_ | refine Qi hB ?_ | refine Qj hB rfl ?_ | refine Qk hB rfl ?_ | refine Ql hB (by first | omega | decide) ?_ | refine Qm hB rfl ?_ | refine Qn hB ?_ | refine Qo hB rfl ?_ | refine Qo hB (Qp rfl) ?_ | refine Qq hB rfl ?_ | refine Qr hB ?_ | refine Qs hB ?_ | refine Qt hB ?_ | refine Qu hB ?_ | refine Qv hB rfl ?_) <;> conv => lhs; whnf)
  all_goals rfl

theorem a56_L1_step {B : Bnd} (hB : B = Bk) {cl : CallK} {rd : RoundK} (b : Box) (hl : b.mark.length ≤ 1000000000000000) (hs : b.mark.all okDigit = true) (c0 c2 c3 : AObj) (n : Nat) (k : Ex → Env → St → Ans) (r : Ans) :
    ∀ (j i : Nat) (m z : Int), Small m → z = (i : Int) - 1 → i < j → i ≤ b.mark.length →
    (sealGo (b.mark.take i).reverse m = true → ∀ e, k (.exit 0) e [⟨[c0, .cells b.c, c2, c3], []⟩] = r) →
    (sealGo (b.mark.take i).reverse m = false → ∀ e, k .ret ((6, .bool false) :: e) [⟨[c0, .cells b.c, c2, c3], []⟩] = r) →
    B.loop (evCK B a56_L1) [6, 7, 10, 11] n j cl rd Gx 0 1 [(6, .bool false), (7, .ptr 0 1 0), (10, .int .i64 m), (11, .int .i64 z)] [⟨[c0, .cells b.c, c2, c3], []⟩] k = r := by
  intro j
  induction j with
  | zero => intro i m z hm hz h1 h2; omega
  | succ j ih =>
    intro i m z hm hz h1 h2 k1 k2
    refine loop_succ hB ?_
    cases i with
    | zero =>
      conv => lhs; whnf
      repeat' ((first | refine Q4 hB (by omega) ?_ | refine Q0 hB rfl ?_ | refine Q1 hB (by decide) ?_ | refine Q2 hB (by decide) ?_ | refine Q3 hB (by decide) ?_ | refine Q4 hB (by decide) ?_ | refine Q5 hB (by decide) ?_ | refine Q6 hB (by decide) ?_ | refine Q7 hB (by omega) (by omega) ?_ | refine Q8 hB ?_ | refine Q9 hB ?_ | refine Qa hB ?_ | refine Qb hB (fun _ => ?_) (fun _ => ?_) | refine Qc hB ?_ | refine Qd hB ?_ | refine Qe hB ?_ | refine Qf hB ?_ | refine Qg hB ?_ | refine Qh hB ?_ | refine Qi hB ?_ | refine Qj hB rfl ?_ | refine Qk hB rfl ?_ | refine Ql hB (by first | omega | decide) ?_ | refine Qm hB rfl ?_ | refine Qn hB ?_ | refine Qo hB rfl ?_ | refine Qo hB (Qp rfl) ?_ | refine Qq hB rfl ?_ | refine Qr hB ?_ | refine Qs hB ?_ | refine Qt hB ?_ | refine Qu hB ?_ | refine Qv hB rfl ?_) <;> conv => lhs; whnf)
      exact k1 rfl _
    | succ i =>
      have hx : b.mark[i]? = some b.mark[i] := by simp
      have hd : (b.mark.take (i + 1)).reverse = b.mark[i] :: (b.mark.take i).reverse := by
        rw [List.take_add_one, List.getElem?_eq_getElem (by omega)]
        simp
      have hc : okDigit b.mark[i] = true := List.all_eq_true.1 hs _ (List.getElem_mem _)
      rw [hd] at k1 k2
      generalize b.mark[i] = c at hx hc k1 k2
      have hcl := c.toNat_lt
      have hw := small_tdiv hm
      conv => lhs; whnf
      repeat' ((first | refine Qw hB ?_ | refine Q3 hB (by omega) ?_ | refine QC hB (m := i) (by omega) ?_ | refine nthb_step hB hx ?_ | refine Qi hB ?_ | refine sub_u8 hB (by simp_all [okDigit, within]; omega) (by omega) ?_ | refine eq_split hB (fun _ => ?_) (fun _ => ?_) | refine Qm hB (rem_i64 (by decide)) ?_ | refine Qm hB (quo_i64 (by decide) (by unfold Small at hw; omega) (by unfold Small at hw; omega)) ?_ | refine sub_step hB (by omega) (by omega) ?_ | refine Q0 hB rfl ?_ | refine Q1 hB (by decide) ?_ | refine Q2 hB (by decide) ?_ | refine Q3 hB (by decide) ?_ | refine Q4 hB (by decide) ?_ | refine Q5 hB (by decide) ?_ | refine Q6 hB (by decide) ?_ | refine Q7 hB (by omega) (by omega) ?_ | refine Q8 hB ?_ | refine Q9 hB ?_ | refine Qa hB ?_ | refine Qb hB (fun _ => ?_) (fun _ => ?_) | refine Qc hB ?_ | refine Qd hB ?_ | refine Qe hB ?_ | refine Qf hB ?_ | refine Qg hB ?_ | refine Qh hB ?_ | refine Qi hB ?_ | refine Qj hB rfl ?_ | refine Qk hB rfl ?_ | refine Ql hB (by first | omega | decide) ?_ | refine Qm hB rfl ?_ | refine Qn hB ?_ | refine Qo hB rfl ?_ | refine Qo hB (Qp rfl) ?_ | refine Qq hB rfl ?_ | refine Qr hB ?_ | refine Qs hB ?_ | refine Qt hB ?_ | refine Qu hB ?_ | refine Qv hB rfl ?_) <;> conv => lhs; whnf)
      · have hb : sealGo (c :: (b.mark.take i).reverse) m = sealGo (b.mark.take i).reverse (m.tdiv 10) := by clear ih k1 k2; simp_all [sealGo]
        rw [hb] at k1 k2
        exact ih i _ _ hw (by omega) (by omega) (by omega) k1 k2
      · have hb : sealGo (c :: (b.mark.take i).reverse) m = sealGo (b.mark.take i).reverse (m.tdiv 10) := by clear ih k1 k2; simp_all [sealGo]
        rw [hb] at k1 k2
        exact ih i _ _ hw (by omega) (by omega) (by omega) k1 k2
      · have hb : sealGo (c :: (b.mark.take i).reverse) m = false := by clear ih k1 k2; simp_all [sealGo]
        exact k2 hb _
theorem couldF_ev {n : Nat} (d : Desk) (hd : d.ok) (hck : d.check = true) (i k : Nat) {zi zk : Int} (hzi : zi = (i : Int)) (hzk : zk = (k : Int)) (b : Box) (p : Parcel) (hb : d.bs[i]? = some b) (hp : d.ps[k]? = some p) (hn : 1000000000000010 ≤ n) :
    (evKR Bk Gx fsT n).1 0 56 [d.v, .int .i64 zi, .int .i64 zk] [] ansK = some (.bool (couldB d b p), []) := by
  refine call_open (show fsT.find 56 = some a56 from rfl) (by omega) fun n B cl rd hn' hB hcl hrd => ?_
  have hf := check_fine hck
  have fb := hf.b b (List.mem_of_getElem? hb)
  have fp := hf.p p (List.mem_of_getElem? hp)
  have hl := hd.str b (List.mem_of_getElem? hb)
  have hxb : (d.bs.map Box.c)[i]? = some b.c := by simp [hb]
  have hxp : (d.ps.map Parcel.c)[k]? = some p.c := by simp [hp]
  have hck2 := hck
  simp only [Desk.check, Bool.and_eq_true, List.all_eq_true, isSpan, within, decide_eq_true_eq] at hck2
  obtain ⟨⟨⟨⟨⟨⟨c1, c2⟩, c3⟩, c4⟩, c5⟩, c6⟩, c7⟩ := hck2
  have cb := c7 b (List.mem_of_getElem? hb)
  simp only [okBox, isSpan, within, Bool.and_eq_true, decide_eq_true_eq] at cb
  have HTo := To_ev (n := n) (by omega) (p.weight - d.wear) p.weight
  have HCo := Common_ev (n := n) (by omega) b.low b.high (p.weight - d.wear) p.weight
  have HHa := Has_ev (n := n) (by omega) d.lo d.hi (b.day - p.day)
  rw [← hcl] at HTo HCo HHa
  obtain ⟨s1, s2, s3, s4, s5⟩ := fb
  obtain ⟨t1, t2, t3, t4⟩ := fp
  have w3 := hf.wear
  have hseal : sealB b p = sealGo (b.mark.take b.mark.length).reverse p.mark := by rw [List.take_length]; rfl
  unfold Small at *
  conv => lhs; whnf
  repeat' ((first | refine Qw hB ?_ | refine QC hB hzi ?_ | refine QC hB hzk ?_ | refine QB hB hxb ?_ | refine QB hB hxp ?_ | refine sub_step hB (by first | omega | (simp only [Int.ofNat_eq_natCast]; omega)) (by first | omega | (simp only [Int.ofNat_eq_natCast]; omega)) ?_ | refine Qx hB HTo ?_ | refine Qx hB HCo ?_ | refine Qy hB HHa (fun hh => ?_) (fun hh => ?_) | refine lt_split hB (fun hlt => ?_) (fun hlt => ?_) | refine a56_L1_step hB b hl s5 _ _ _ _ _ _ _ b.mark.length p.mark _ t3 (by simp only [Int.ofNat_eq_natCast]) (by omega) (by omega) (fun hsl e => ?_) (fun hsl e => ?_) | refine Q0 hB rfl ?_ | refine Q1 hB (by decide) ?_ | refine Q2 hB (by decide) ?_ | refine Q3 hB (by decide) ?_ | refine Q4 hB (by decide) ?_ | refine Q5 hB (by decide) ?_ | refine Q6 hB (by decide) ?_ | refine Q7 hB (by omega) (by omega) ?_ | refine Q8 hB ?_ | refine Q9 hB ?_ | refine Qa hB ?_ | refine Qb hB (fun _ => ?_) (fun _ => ?_) | refine Qc hB ?_ | refine Qd hB ?_ | refine Qe hB ?_ | refine Qf hB ?_ | refine Qg hB ?_ | refine Qh hB ?_ | refine Qi hB ?_ | refine Qj hB rfl ?_ | refine Qk hB rfl ?_ | refine Ql hB (by first | omega | decide) ?_ | refine Qm hB rfl ?_ | refine Qn hB ?_ | refine Qo hB rfl ?_ | refine Qo hB (Qp rfl) ?_ | refine Qq hB rfl ?_ | refine Qr hB ?_ | refine Qs hB ?_ | refine Qt hB ?_ | refine Qu hB ?_ | refine Qv hB rfl ?_) <;> conv => lhs; whnf)
  all_goals
    refine congrArg some (congrArg (·, []) (congrArg AV.bool ?_))
    have hday : dayB d b p = within (b.day - p.day) d.lo d.hi := rfl
    have hwt : weightB d b p = decide (¬ loI b.high p.weight < hiI b.low (p.weight - d.wear)) := by
      unfold weightB loI hiI
      rw [Bool.eq_iff_iff]
      simp only [Bool.and_eq_true, decide_eq_true_eq]
      split <;> split <;> omega
    unfold couldB
    rw [hday, hh]
  · rw [hwt]; simp [hlt]
  · rw [hwt, hseal, hsl]; simp [hlt]
  · rw [hseal, hsl]; simp
  · simp
end Go.Ab.Cl
