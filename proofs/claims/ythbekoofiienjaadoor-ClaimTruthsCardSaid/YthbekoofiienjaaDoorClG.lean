/-
  The claims: lists of cells that a call owns; seals against digits.
-/
import Derived.Test.YthbekoofiienjaaDoorClF
namespace Go.Ab
/-- Cells cut into rows. -/
theorem rowsOf_flat {e : Nat} : ∀ (rows : List (List AV)), (∀ r ∈ rows, r.length = e) → rowsOf e rows.length rows.flatten = rows
  | [], _ => rfl
  | r :: rows, h => by
    have hr := h r (by simp)
    simp only [List.length_cons, rowsOf, List.flatten_cons]
    rw [List.take_append_of_le_length (by omega), ← hr, List.take_length, List.drop_append_of_le_length (by omega), List.drop_length, List.nil_append]
    rw [hr, rowsOf_flat rows fun q hq => h q (by simp [hq])]
theorem flat_len5 {e : Nat} : ∀ (rows : List (List AV)), (∀ r ∈ rows, r.length = e) → rows.flatten.length = rows.length * e
  | [], _ => by simp
  | r :: rows, h => by
    have hr := h r (by simp)
    have := flat_len5 rows fun q hq => h q (by simp [hq])
    simp only [List.flatten_cons, List.length_append, List.length_cons, this, hr, Nat.succ_mul]
    omega
theorem purs_flatten : ∀ (rows : List (List AV)), (∀ r ∈ rows, purs r = true) → purs rows.flatten = true := fun rows h =>
  pures_of fun v hv => by
    obtain ⟨r, hr, hv⟩ := List.mem_flatten.1 hv
    exact pures_mem (h r hr) v hv
theorem hand_os_ok {s : St} {l i e n : Nat} {rows : List (List AV)} (hn : n = rows.length) (hg : getObj s l i = some (.cells rows.flatten)) (he : 0 < e) (hr : ∀ r ∈ rows, r.length = e ∧ purs r = true) :
    hand s (.os l i 0 n e) = some (.sl rows .any) := by
  subst hn
  have h1 := flat_len5 rows (fun r (h : r ∈ rows) => (hr r h).1)
  have h2 := purs_flatten rows (fun r (h : r ∈ rows) => (hr r h).2)
  simp only [hand, hg, List.drop_zero, Nat.zero_add]
  rw [← h1, List.take_length, h2, rowsOf_flat rows (fun r (h : r ∈ rows) => (hr r h).1)]
  simp [he]
theorem appo_ok {s : St} {f : Fr} {rows : List (List AV)} {t : Tok} {e bytes : Nat} (hne : rows ≠ []) (hr : ∀ r ∈ rows, r.length = e) (he : 0 < e) (hb : rows.length * bytes ≤ 140737488355328) :
    appoAt (f :: s) e bytes (.sl [] .full) (.sl rows t) = some (.os s.length f.objs.length 0 rows.length e, ⟨f.objs ++ [.cells rows.flatten], f.toks⟩ :: s) := by
  obtain ⟨os, tk⟩ := f
  have hh : headFit e rows = true := by
    cases rows with
    | nil => rfl
    | cons r rows => simp [headFit, hr r (by simp)]
  simp [appoAt, rowsAt, he, hb, newObj, show headFit e [] = true from rfl, hne, hh]
theorem put_flat {e : Nat} {o : Nat} (ho : o < e) (v : AV) : ∀ (rows : List (List AV)) (i : Nat) (row : List AV), (∀ r ∈ rows, r.length = e) → rows[i]? = some row → putAt rows.flatten (i * e + o) [v] = (rows.set i (row.set o v)).flatten
  | [], i, row, _, h => by simp at h
  | r :: rows, 0, row, hr, h => by
    simp at h
    subst h
    have h1 := hr r (by simp)
    simp only [Nat.zero_mul, Nat.zero_add, List.flatten_cons, List.set_cons_zero, putAt, List.length_singleton]
    rw [List.take_append_of_le_length (by omega), List.drop_append_of_le_length (by omega), List.set_eq_take_append_cons_drop, if_pos (by omega)]
    simp
  | r :: rows, i + 1, row, hr, h => by
    have h1 := hr r (by simp)
    have ih := put_flat ho v rows i row (fun q hq => hr q (by simp [hq])) (by simpa using h)
    simp only [putAt, List.length_singleton, List.flatten_cons, List.set_cons_succ] at *
    rw [← ih]
    have e1 : (i + 1) * e + o = r.length + (i * e + o) := by rw [h1, Nat.succ_mul]; omega
    rw [e1, List.take_append, List.take_of_length_le (by omega), show r.length + (i * e + o) - r.length = i * e + o by omega, show r.length + (i * e + o) + 1 = r.length + (i * e + o + 1) by omega, List.drop_append, List.drop_of_length_le (by omega), show r.length + (i * e + o + 1) - r.length = i * e + o + 1 by omega]
    simp
end Go.Ab
namespace Go.Ab.Cl
open Go.Ab

def agree : List UInt8 → List UInt8 → Bool
  | [], _ => true
  | _ :: _, [] => false
  | c :: r, o :: q => (decide ((c.toNat : Int) = 63) || decide ((c.toNat : Int) = o.toNat)) && agree r q

theorem d4_get {m : Nat} : ((d4 m)[0]!.toNat : Int) = 48 + (m / 1000 % 10 : Nat) ∧ ((d4 m)[1]!.toNat : Int) = 48 + (m / 100 % 10 : Nat) ∧ ((d4 m)[2]!.toNat : Int) = 48 + (m / 10 % 10 : Nat) ∧ ((d4 m)[3]!.toNat : Int) = 48 + (m % 10 : Nat) := by
  have hn : ∀ x : Nat, x < 10 → (((48 + x).toUInt8).toNat : Int) = 48 + (x : Int) := by
    intro x hx
    simp [Nat.toUInt8, UInt8.toNat_ofNat']
    omega
  exact ⟨hn _ (by omega), hn _ (by omega), hn _ (by omega), hn _ (by omega)⟩

/-- What the program reads of a seal is what the digits say. -/
theorem sealB_agree {b : Box} {p : Parcel} {m : Nat} (hs : okSeal b.mark = true) (hm : p.mark = (m : Int)) : sealB b p = agree b.mark (d4 m) := by
  have hl : b.mark = [] ∨ b.mark.length = 4 := by
    simp only [okSeal, Bool.and_eq_true, Bool.or_eq_true, beq_iff_eq, List.isEmpty_iff] at hs
    exact hs.1
  rcases hl with h | h
  · simp [sealB, h, sealGo, agree]
  · match hmk : b.mark, h with
    | [c0, c1, c2, c3], _ =>
      have t1 : (m : Int).tdiv 10 = ((m / 10 : Nat) : Int) := rfl
      have t2 : ((m / 10 : Nat) : Int).tdiv 10 = ((m / 100 : Nat) : Int) := by show ((m / 10 / 10 : Nat) : Int) = _; rw [Nat.div_div_eq_div_mul]
      have t3 : ((m / 100 : Nat) : Int).tdiv 10 = ((m / 1000 : Nat) : Int) := by show ((m / 100 / 10 : Nat) : Int) = _; rw [Nat.div_div_eq_div_mul]
      have r0 : (m : Int).tmod 10 = ((m % 10 : Nat) : Int) := rfl
      have r1 : ((m / 10 : Nat) : Int).tmod 10 = ((m / 10 % 10 : Nat) : Int) := rfl
      have r2 : ((m / 100 : Nat) : Int).tmod 10 = ((m / 100 % 10 : Nat) : Int) := rfl
      have r3 : ((m / 1000 : Nat) : Int).tmod 10 = ((m / 1000 % 10 : Nat) : Int) := rfl
      obtain ⟨g0, g1, g2, g3⟩ := d4_get (m := m)
      have e0 : (d4 m)[0]! = (48 + m / 1000 % 10).toUInt8 := rfl
      have e1 : (d4 m)[1]! = (48 + m / 100 % 10).toUInt8 := rfl
      have e2 : (d4 m)[2]! = (48 + m / 10 % 10).toUInt8 := rfl
      have e3 : (d4 m)[3]! = (48 + m % 10).toUInt8 := rfl
      rw [e0] at g0
      rw [e1] at g1
      rw [e2] at g2
      rw [e3] at g3
      unfold sealB
      rw [hmk, hm]
      simp only [List.reverse_cons, List.reverse_nil, List.nil_append, List.cons_append, sealGo, agree, d4, t1, t2, t3, r0, r1, r2, r3, g0, g1, g2, g3, Bool.and_true]
      have k : ∀ (x y : Int), decide (x - 48 = y) = decide (x = 48 + y) := fun x y => by
        rw [decide_eq_decide]; omega
      simp only [k]
      generalize (decide ((c0.toNat : Int) = 63) || decide ((c0.toNat : Int) = 48 + ((m / 1000 % 10 : Nat) : Int))) = x0
      generalize (decide ((c1.toNat : Int) = 63) || decide ((c1.toNat : Int) = 48 + ((m / 100 % 10 : Nat) : Int))) = x1
      generalize (decide ((c2.toNat : Int) = 63) || decide ((c2.toNat : Int) = 48 + ((m / 10 % 10 : Nat) : Int))) = x2
      generalize (decide ((c3.toNat : Int) = 63) || decide ((c3.toNat : Int) = 48 + ((m % 10 : Nat) : Int))) = x3
      cases x0 <;> cases x1 <;> cases x2 <;> cases x3 <;> rfl

theorem box_len {bs : List Box} : ∀ r ∈ bs.map Box.c, r.length = 5 := by
  intro r hr
  obtain ⟨b, _, rfl⟩ := List.mem_map.1 hr
  rfl
theorem box_pur {bs : List Box} : ∀ r ∈ bs.map Box.c, r.length = 5 ∧ purs r = true := by
  intro r hr
  obtain ⟨b, _, rfl⟩ := List.mem_map.1 hr
  exact ⟨rfl, rfl⟩
theorem box_put {bs : List Box} {i : Nat} {b : Box} (hb : bs[i]? = some b) (m : List UInt8) : putAt (bs.map Box.c).flatten (i * 5 + 3) [.str m] = ((bs.set i { b with mark := m }).map Box.c).flatten := by
  rw [put_flat (by omega) _ _ i b.c box_len (by simp [hb])]
  congr 1
  rw [List.map_set]
  rfl
theorem slstr_hi {s : List UInt8} {m : Nat} {z : Int} (hz : z = (m : Int)) (h : m ≤ s.length) : slstrAV (.str s) none (some (.int .i64 z)) = some (.str (s.take m)) := by
  subst hz
  simp [slstrAV, optBound, bound, h]
theorem slstr_lo {s : List UInt8} {m : Nat} {z : Int} (hz : z = (m : Int)) (h : m ≤ s.length) : slstrAV (.str s) (some (.int .i64 z)) none = some (.str (s.drop m)) := by
  subst hz
  simp [slstrAV, optBound, bound, h]

/-- A digit less. -/
theorem agree_less : ∀ (s o : List UInt8) (m : Nat), m < s.length → agree s o = true → agree (s.take m ++ 63 :: s.drop (m + 1)) o = true
  | [], _, _, h, _ => by simp at h
  | c :: r, [], _, _, h => by simp [agree] at h
  | c :: r, o :: q, 0, _, h => by
    simp only [agree, Bool.and_eq_true] at h
    simp [agree, h.2]
  | c :: r, o :: q, m + 1, hm, h => by
    simp only [agree, Bool.and_eq_true] at h
    have := agree_less r q m (by simpa using hm) h.2
    simp only [List.take_succ_cons, List.drop_succ_cons, List.cons_append, agree, Bool.and_eq_true]
    exact ⟨h.1, this⟩
theorem okSeal_less {s : List UInt8} {m : Nat} (hm : m < s.length) (h : okSeal s = true) : okSeal (s.take m ++ 63 :: s.drop (m + 1)) = true := by
  have h4 : s.length = 4 := by
    simp only [okSeal, Bool.and_eq_true, Bool.or_eq_true, beq_iff_eq, List.isEmpty_iff] at h
    rcases h.1 with h | h
    · subst h; simp at hm
    · exact h
  simp only [okSeal, Bool.and_eq_true] at h ⊢
  refine ⟨by simp; omega, ?_⟩
  rw [List.all_eq_true] at *
  intro x hx
  rcases List.mem_append.1 hx with hx | hx
  · exact h.2 x (List.mem_of_mem_take hx)
  · rcases List.mem_cons.1 hx with rfl | hx
    · rfl
    · exact h.2 x (List.mem_of_mem_drop hx)

/-- A desk with another seal on a box. -/
def Desk.put (d : Desk) (i : Nat) (b : Box) (m : List UInt8) : Desk := { d with bs := d.bs.set i { b with mark := m }, tb := .any }
theorem put_check {d : Desk} {i : Nat} {b : Box} {m : List UInt8} (hc : d.check = true) (hb : d.bs[i]? = some b) (hm : okSeal m = true) : (d.put i b m).check = true := by
  have e : (d.put i b m).check = (isSpan d.lo d.hi 0 400 && within d.wear 0 5000 && within d.strange 0 6 && decide (d.ps.length ≤ 8) && decide ((d.bs.set i { b with mark := m }).length ≤ 6) && d.ps.all okParcel && (d.bs.set i { b with mark := m }).all okBox) := rfl
  rw [e]
  simp only [Desk.check, Bool.and_eq_true, decide_eq_true_eq, List.length_set, List.all_eq_true] at *
  refine ⟨hc.1, fun x hx => ?_⟩
  rcases List.mem_or_eq_of_mem_set hx with hx | rfl
  · exact hc.2 x hx
  · have := hc.2 b (List.mem_of_getElem? hb)
    simp only [okBox, Bool.and_eq_true] at *
    exact ⟨this.1, hm⟩
theorem put_ok {d : Desk} {i : Nat} {b : Box} {m : List UInt8} (hd : d.ok) (hm : m.length ≤ 4) : (d.put i b m).ok where
  tp := hd.tp
  tb := rfl
  ps := hd.ps
  bs := by simpa [Desk.put] using hd.bs
  str x hx := by
    rcases List.mem_or_eq_of_mem_set hx with hx | rfl
    · exact hd.str x hx
    · show m.length ≤ _; omega
theorem couldR_in {d : Desk} {i k : Nat} {b : Box} {p : Parcel} {zi zk : Int} (hc : d.check = true) (hb : d.bs[i]? = some b) (hp : d.ps[k]? = some p) (hzi : zi = (i : Int)) (hzk : zk = (k : Int)) : couldR d zi zk = (couldB d b p, 0) := by
  have hi : i < d.bs.length := by
    rcases Nat.lt_or_ge i d.bs.length with h | h
    · exact h
    · rw [List.getElem?_eq_none h] at hb; cases hb
  have hk : k < d.ps.length := by
    rcases Nat.lt_or_ge k d.ps.length with h | h
    · exact h
    · rw [List.getElem?_eq_none h] at hp; cases hp
  unfold couldR
  rw [if_pos hc, if_pos ⟨by simp [within]; omega, by simp [within]; omega⟩, hzi, hzk]
  simp [hb, hp]
end Go.Ab.Cl
