/-
  The claims: lists of cells that a call owns; seals against digits.
-/
import Derived.Test.YthbekoofiienjaaDoorClF
namespace Go.Ab
/-- Cells cut into rows. -/
theorem rowsOf_flat {e : Nat} : ∀ (rows : List (List AV)), (∀ r ∈ rows, r.length = e) → rowsOf e rows.length rows.flatten = rows
  | [], _ => rfl
  | r :: rows, h => by
    have hr := h r (by simp)
    simp only [List.length_cons, rowsOf, List.flatten_cons]
    rw [List.take_append_of_le_length (by omega), ← hr, List.take_length, List.drop_append_of_le_length (by omega), List.drop_length, List.nil_append]
    rw [hr, rowsOf_flat rows fun q hq => h q (by simp [hq])]
theorem flat_len5 {e : Nat} : ∀ (rows : List (List AV)), (∀ r ∈ rows, r.length = e) → rows.flatten.length = rows.length * e
  | [], _ => by simp
  | r :: rows, h => by
    have hr := h r (by simp)
    have := flat_len5 rows fun q hq => h q (by simp [hq])
    simp only [List.flatten_cons, List.length_append, List.length_cons, this, hr, Nat.succ_mul]
    omega
theorem purs_flatten : ∀ (rows : List (List AV)), (∀ r ∈ rows, purs r = true) → purs rows.flatten = true := fun rows h =>
  pures_of fun v hv => by
    obtain ⟨r, hr, hv⟩ := List.mem_flatten.1 hv
    exact pures_mem (h r hr) v hv
theorem hand_os_ok {s : St} {l i e n : Nat} {rows : List (List AV)} (hn : n = rows.length) (hg : getObj s l i = some (.cells rows.flatten)) (he : 0 < e) (hr : ∀ r ∈ rows, r.length = e ∧ purs r = true) :
    hand s (.os l i 0 n e) = some (.sl rows .any) := by
  subst hn
  have h1 := flat_len5 rows (fun r (h : r ∈ rows) => (hr r h).1)
  have h2 := purs_flatten rows (fun r (h : r ∈ rows) => (hr r h).2)
  simp only [hand, hg, List.drop_zero, Nat.zero_add]
  rw [← h1, List.take_length, h2, rowsOf_flat rows (fun r (h : r ∈ rows) => (hr r h).1)]
  simp [he]
theorem appo_ok {s : St} {f : Fr} {rows : List (List AV)} {t : Tok} {e bytes : Nat} (hne : rows ≠ []) (hr : ∀ r ∈ rows, r.length = e) (he : 0 < e) (hb : rows.length * bytes ≤ 140737488355328) :
    appoAt (f :: s) e bytes (.sl [] .full) (.sl rows t) = some (.os s.length f.objs.length 0 rows.length e, ⟨f.objs ++ [.cells rows.flatten], f.toks⟩ :: s) := by
  obtain ⟨os, tk⟩ := f
  have hh : headFit e rows = true := by
    cases rows with
    | nil => rfl
    | cons r rows => simp [headFit, hr r (by simp)]
  simp [appoAt, rowsAt, he, hb, newObj, show headFit e [] = true from rfl, hne, hh]
theorem put_flat {e : Nat} {o : Nat} (ho : o < e) (v : AV) : ∀ (rows : List (List AV)) (i : Nat) (row : List AV), (∀ r ∈ rows, r.length = e) → rows[i]? = some row → putAt rows.flatten (i * e + o) [v] = (rows.set i (row.set o v)).flatten
  | [], i, row, _, h => by simp at h
  | r :: rows, 0, row, hr, h => by
    simp at h
    subst h
    have h1 := hr r (by simp)
    simp only [Nat.zero_mul, Nat.zero_add, List.flatten_cons, List.set_cons_zero, putAt, List.length_singleton]
    rw [List.take_append_of_le_length (by omega), List.drop_append_of_le_length (by omega), List.set_eq_take_append_cons_drop, if_pos (by omega)]
    simp
  | r :: rows, i + 1, row, hr, h => by
    have h1 := hr r (by simp)
    have ih := put_flat ho v rows i row (fun q hq => hr q (by simp [hq])) (by simpa using h)
    simp only [putAt, List.length_singleton, List.flatten_cons, List.set_cons_succ] at *
    rw [← ih]
    have e1 : (i + 1) * e + o = r.length + (i * e + o) := by rw [h1, Nat.succ_mul]; omega
    rw [e1, List.take_append, List.take_of_length_le (by omega), show r.length + (i * e + o) - r.length = i * e + o by omega, show r.length + (i * e + o) + 1 = r.length + (i * e + o + 1) by omega, List.drop_append, List.drop_of_length_le (by omega), show r.length + (i * e + o + 1) - r.length = i * e + o + 1 by omega]
    simp
end Go.Ab
namespace Go.Ab.Cl
open Go.Ab

def agree : List UInt8 → List UInt8 → Bool
  | [], _ => true
  | _ :: _, [] => false
  | c :: r, o :: q => (decide ((c.toNat : Int) = 63) || decide ((c.toNat : Int) = o.toNat)) && agree r q

theorem d4_get {m : Nat} : ((d4 m)[0]!.toNat : Int) = 48 + (m / 1000 % 10 : Nat) ∧ ((d4 m)[1]!.toNat : Int) = 48 + (m / 100 % 10 : Nat) ∧ ((d4 m)[2]!.toNat : Int) = 48 + (m / 10 % 10 : Nat) ∧ ((d4 m)[3]!.toNat : Int) = 48 + (m % 10 : Nat) := by
  have hn : ∀ x : Nat, x < 10 → (((48 + x).toUInt8).toNat : Int) = 48 + (x : Int) := by
    intro x hx
    simp [Nat.toUInt8, UInt8.toNat_ofNat']
    omega
  exact ⟨hn _ (by omega), hn _ (by omega), hn _ (by omega), hn _ (by omega)⟩

/-- What the program reads of a seal is what the digits say. -/
theorem sealB_agree {b : Box} {p : Parcel} {m : Nat} (hs : okSeal b.mark = true) (hm : p.mark = (m : Int)) : sealB b p = agree b.mark (d4 m) := by
  have hl : b.mark = [] ∨ b.mark.length = 4 := by
    simp only [okSeal, Bool.and_eq_true, Bool.or_eq_true, beq_iff_eq, List.isEmpty_iff] at hs
    exact hs.1
  rcases hl with h | h
  · simp [sealB, h, sealGo, agree]
  · match hmk : b.mark, h with
    | [c0, c1, c2, c3], _ =>
      have t1 : (m : Int).tdiv 10 = ((m / 10 : Nat) : Int) := rfl
      have t2 : ((m / 10 : Nat) : Int).tdiv 10 = ((m / 100 : Nat) : Int) := by show ((m / 10 / 10 : Nat) : Int) = _; rw [Nat.div_div_eq_div_mul]
      have t3 : ((m / 100 : Nat) : Int).tdiv 10 = ((m / 1000 : Nat) : Int) := by show ((m / 100 / 10 : Nat) : Int) = _; rw [Nat.div_div_eq_div_mul]
      have r0 : (m : Int).tmod 10 = ((m % 10 : Nat) : Int) := rfl
      have r1 : ((m / 10 : Nat) : Int).tmod 10 = ((m / 10 % 10 : Nat) : Int) := rfl
      have r2 : ((m / 100 : Nat) : Int).tmod 10 = ((m / 100 % 10 : Nat) : Int) := rfl
      have r3 : ((m / 1000 : Nat) : Int).tmod 10 = ((m / 1000 % 10 : Nat) : Int) := rfl
      obtain ⟨g0, g1, g2, g3⟩ := d4_get (m := m)
      have e0 : (d4 m)[0]! = (48 + m / 1000 % 10).toUInt8 := rfl
      have e1 : (d4 m)[1]! = (48 + m / 100 % 10).toUInt8 := rfl
      have e2 : (d4 m)[2]! = (48 + m / 10 % 10).toUInt8 := rfl
      have e3 : (d4 m)[3]! = (48 + m % 10).toUInt8 := rfl
      rw [e0] at g0
      rw [e1] at g1
      rw [e2] at g2
      rw [e3] at g3
      unfold sealB
      rw [hmk, hm]
      simp only [List.reverse_cons, List.reverse_nil, List.nil_append, List.cons_append, sealGo, agree, d4, t1, t2, t3, r0, r1, r2, r3, g0, g1, g2, g3, Bool.and_true]
      have k : ∀ (x y : Int), decide (x - 48 = y) = decide (x = 48 + y) := fun x y => by
        rw [decide_eq_decide]; omega
      simp only [k]
      generalize (decide ((c0.toNat : Int) = 63) || decide ((c0.toNat : Int) = 48 + ((m / 1000 % 10 : Nat) : Int))) = x0
      generalize (decide ((c1.toNat : Int) = 63) || decide ((c1.toNat : Int) = 48 + ((m / 100 % 10 : Nat) : Int))) = x1
      generalize (decide ((c2.toNat : Int) = 63) || decide ((c2.toNat : Int) = 48 + ((m / 10 % 10 : Nat) : Int))) = x2
      generalize (decide ((c3.toNat : Int) = 63) || decide ((c3.toNat : Int) = 48 + ((m % 10 : Nat) : Int))) = x3
      cases x0 <;> cases x1 <;> cases x2 <;> cases x3 <;> rfl

theorem box_len {bs : List Box} : ∀ r ∈ bs.map Box.c, r.length = 5 := by
  intro r hr
  obtain ⟨b, _, rfl⟩ := List.mem_map.1 hr
  rfl
theorem box_pur {bs : List Box} : ∀ r ∈ bs.map Box.c, r.length = 5 ∧ purs r = true := by
  intro r hr
  obtain ⟨b, _, rfl⟩ := List.mem_map.1 hr
  exact ⟨rfl, rfl⟩
theorem box_put {bs : List Box} {i : Nat} {b : Box} (hb : bs[i]? = some b) (m : List UInt8) : putAt (bs.map Box.c).flatten (i * 5 + 3) [.str m] = ((bs.set i { b with mark := m }).map Box.c).flatten := by
  rw [put_flat (by omega) _ _ i b.c box_len (by simp [hb])]
  congr 1
  rw [List.map_set]
  rfl
theorem slstr_hi {s : List UInt8} {m : Nat} {z : Int} (hz : z = (m : Int)) (h : m ≤ s.length) : slstrAV (.str s) none (some (.int .i64 z)) = some (.str (s.take m)) := by
  subst hz
  simp [slstrAV, optBound, bound, h]
theorem slstr_lo {s : List UInt8} {m : Nat} {z : Int} (hz : z = (m : Int)) (h : m ≤ s.length) : slstrAV (.str s) (some (.int .i64 z)) none = some (.str (s.drop m)) := by
  subst hz
  simp [slstrAV, optBound, bound, h]

/-- A digit less. -/
theorem agree_less : ∀ (s o : List UInt8) (m : Nat), m < s.length → agree s o = true → agree (s.take m ++ 63 :: s.drop (m + 1)) o = true
  | [], _, _, h, _ => by simp at h
  | c :: r, [], _, _, h => by simp [agree] at h
  | c :: r, o :: q, 0, _, h => by
    simp only [agree, Bool.and_eq_true] at h
    simp [agree, h.2]
  | c :: r, o :: q, m + 1, hm, h => by
    simp only [agree, Bool.and_eq_true] at h
    have := agree_less r q m (by simpa using hm) h.2
    simp only [List.take_succ_cons, List.drop_succ_cons, List.cons_append, agree, Bool.and_eq_true]
    exact ⟨h.1, this⟩
theorem okSeal_less {s : List UInt8} {m : Nat} (hm : m < s.length) (h : okSeal s = true) : okSeal (s.take m ++ 63 :: s.drop (m + 1)) = true := by
  have h4 : s.length = 4 := by
    simp only [okSeal, Bool.and_eq_true, Bool.or_eq_true, beq_iff_eq, List.isEmpty_iff] at h
    rcases h.1 with h | h
    · subst h; simp at hm
    · exact h
  simp only [okSeal, Bool.and_eq_true] at h ⊢
  refine ⟨by simp; omega, ?_⟩
  rw [List.all_eq_true] at *
  intro x hx
  rcases List.mem_append.1 hx with hx | hx
  · exact h.2 x (List.mem_of_mem_take hx)
  · rcases List.mem_cons.1 hx with rfl | hx
    · rfl
    · exact h.2 x (List.mem_of_mem_drop hx)

/-- A desk with another seal on a box. -/
def Desk.put (d : Desk) (i : Nat) (b : Box) (m : List UInt8) : Desk := { d with bs := d.bs.set i { b with mark := m }, tb := .any }
theorem put_check {d : Desk} {i : Nat} {b : Box} {m : List UInt8} (hc : d.check = true) (hb : d.bs[i]? = some b) (hm : okSeal m = true) : (d.put i b m).check = true := by
  have e : (d.put i b m).check = (isSpan d.lo d.hi 0 400 && within d.wear 0 5000 && within d.strange 0 6 && decide (d.ps.length ≤ 8) && decide ((d.bs.set i { b with mark := m }).length ≤ 6) && d.ps.all okParcel && (d.bs.set i { b with mark := m }).all okBox) := rfl
  rw [e]
  simp only [Desk.check, Bool.and_eq_true, decide_eq_true_eq, List.length_set, List.all_eq_true] at *
  refine ⟨hc.1, fun x hx => ?_⟩
  rcases List.mem_or_eq_of_mem_set hx with hx | rfl
  · exact hc.2 x hx
  · have := hc.2 b (List.mem_of_getElem? hb)
    simp only [okBox, Bool.and_eq_true] at *
    exact ⟨this.1, hm⟩
theorem put_ok {d : Desk} {i : Nat} {b : Box} {m : List UInt8} (hd : d.ok) (hm : m.length ≤ 4) : (d.put i b m).ok where
  tp := hd.tp
  tb := rfl
  ps := hd.ps
  bs := by simpa [Desk.put] using hd.bs
  str x hx := by
    rcases List.mem_or_eq_of_mem_set hx with hx | rfl
    · exact hd.str x hx
    · show m.length ≤ _; omega
theorem couldR_in {d : Desk} {i k : Nat} {b : Box} {p : Parcel} {zi zk : Int} (hc : d.check = true) (hb : d.bs[i]? = some b) (hp : d.ps[k]? = some p) (hzi : zi = (i : Int)) (hzk : zk = (k : Int)) : couldR d zi zk = (couldB d b p, 0) := by
  have hi : i < d.bs.length := by
    rcases Nat.lt_or_ge i d.bs.length with h | h
    · exact h
    · rw [List.getElem?_eq_none h] at hb; cases hb
  have hk : k < d.ps.length := by
    rcases Nat.lt_or_ge k d.ps.length with h | h
    · exact h
    · rw [List.getElem?_eq_none h] at hp; cases hp
  unfold couldR
  rw [if_pos hc, if_pos ⟨by simp [within]; omega, by simp [within]; omega⟩, hzi, hzk]
  simp [hb, hp]
end Go.Ab.Cl

namespace Go.Ab.Cl
open Go.Ab

theorem To_ev {n : Nat} (hn : 2 ≤ n) (a b : Int) : (evKR Bk Gx fsT n).1 0 43 [.int .i64 a, .int .i64 b] [] ansK = some (.agg [.int .i64 a, .int .i64 b], []) := by
  refine call_open (show fsT.find 43 = some a43 from rfl) (by omega) fun n' B cl rd hn' hB hcl hrd => ?_
  conv => lhs; whnf
  repeat' ((first | refine fnat_pred hB ?_ | refine purs_step hB rfl ?_ | refine lt_tt hB (by decide) ?_ | refine lt_ff hB (by decide) ?_ | refine le_tt hB (by decide) ?_ | refine le_ff hB (by decide) ?_ | refine eq_tt hB (by decide) ?_ | refine eq_ff hB (by decide) ?_ | refine fint_wrp hB (by omega) (by omega) ?_ | refine fint_step hB ?_ | refine fbool_tt hB ?_ | refine fbool_ff hB ?_ | refine fbool_split hB (fun _ => ?_) (fun _ => ?_) | refine ftok_step hB ?_ | refine frows_step hB ?_ | refine fstr_step hB ?_ | refine len_map hB ?_ | refine len_step hB ?_ | refine lens_step hB ?_ | refine byte_step hB ?_ | refine drop_step hB rfl ?_ | refine fl_step hB rfl ?_ | refine add_one hB (by first | omega | decide) ?_ | refine opt_step hB rfl ?_ | refine fnat_step hB ?_ | refine ifk_step hB rfl ?_ | refine ifk_step hB (flat_or rfl) ?_ | refine opt2_step hB rfl ?_ | refine obj_raw hB ?_ | refine sob_raw hB ?_ | refine fst_raw hB ?_ | refine optl_raw hB ?_ | refine tok_step hB rfl ?_) <;> conv => lhs; whnf)
  all_goals rfl
def innerB (a b c d : Int) : Bool := decide (c ≤ a) && decide (b ≤ d)
theorem Inner_ev {n : Nat} (hn : 2 ≤ n) (a b c d : Int) : (evKR Bk Gx fsT n).1 0 49 [.agg [.int .i64 a, .int .i64 b], .agg [.int .i64 c, .int .i64 d]] [] ansK = some (.bool (innerB a b c d), []) := by
  refine call_open (show fsT.find 49 = some a49 from rfl) (by omega) fun n' B cl rd hn' hB hcl hrd => ?_
  conv => lhs; whnf
  repeat' ((first | refine fnat_pred hB ?_ | refine le_split hB (fun h1 => ?_) (fun h1 => ?_) | refine purs_step hB rfl ?_ | refine lt_tt hB (by decide) ?_ | refine lt_ff hB (by decide) ?_ | refine le_tt hB (by decide) ?_ | refine le_ff hB (by decide) ?_ | refine eq_tt hB (by decide) ?_ | refine eq_ff hB (by decide) ?_ | refine fint_wrp hB (by omega) (by omega) ?_ | refine fint_step hB ?_ | refine fbool_tt hB ?_ | refine fbool_ff hB ?_ | refine fbool_split hB (fun _ => ?_) (fun _ => ?_) | refine ftok_step hB ?_ | refine frows_step hB ?_ | refine fstr_step hB ?_ | refine len_map hB ?_ | refine len_step hB ?_ | refine lens_step hB ?_ | refine byte_step hB ?_ | refine drop_step hB rfl ?_ | refine fl_step hB rfl ?_ | refine add_one hB (by first | omega | decide) ?_ | refine opt_step hB rfl ?_ | refine fnat_step hB ?_ | refine ifk_step hB rfl ?_ | refine ifk_step hB (flat_or rfl) ?_ | refine opt2_step hB rfl ?_ | refine obj_raw hB ?_ | refine sob_raw hB ?_ | refine fst_raw hB ?_ | refine optl_raw hB ?_ | refine tok_step hB rfl ?_) <;> conv => lhs; whnf)
  all_goals
    refine congrArg some (congrArg (·, []) (congrArg AV.bool ?_))
    simp_all [innerB] <;> omega
def placeI : List Int → Int → Int → Int
  | [], _, _ => -1
  | k :: l, n, i => if k = n then i else placeI l n (i + 1)
theorem a39_L1_step {B : Bnd} (hB : B = Bk) {cl : CallK} {rd : RoundK} (l : List Int) (hl : l.length ≤ 1000000000000000) (z : Int) (n : Nat) (s : St) (k : Ex → Env → St → Ans) (r : Ans) :
    ∀ (j i0 : Nat) (t : Tok), purTok t = true → l.length < i0 + j → i0 ≤ l.length →
    (placeI (l.drop i0) z (i0 : Int) = -1 → ∀ e, k (.exit 0) ((0, .sl (rowsI l) t) :: e) s = r) →
    (∀ e, k .ret ((0, .sl (rowsI l) t) :: (1, .int .i64 z) :: (4, .int .i64 (placeI (l.drop i0) z (i0 : Int))) :: e) s = r) →
    B.loop (evCK B a39_L1) [0, 1, 4, 5] n j cl rd Gx 0 1 [(0, .sl (rowsI l) t), (1, .int .i64 z), (4, .int .i64 0), (5, .int .i64 (.ofNat i0))] s k = r := by
  intro j
  induction j with
  | zero => intro i0 t ht h1 h2; omega
  | succ j ih =>
    intro i0 t ht h1 h2 k1 k2
    refine loop_succ hB ?_
    conv => lhs; whnf
    refine len_map hB ?_
    conv => lhs; whnf
    refine lt_nat hB (fun h => ?_) (fun h => ?_) <;> conv => lhs; whnf
    · have hx : (rowsI l)[i0]? = some [.int .i64 l[i0]] := by simp [rowsI, h]
      have hdr : l.drop i0 = l[i0] :: l.drop (i0 + 1) := List.drop_eq_getElem_cons h
      rw [hdr] at k1 k2
      generalize l[i0] = y at hx hdr k1 k2
      repeat' ((first | refine natOf_step hB (m := i0) rfl ?_ | refine nth_step hB hx ?_ | refine eq_split hB (fun hy => ?_) (fun hy => ?_) | refine purs_step hB rfl ?_ | refine lt_tt hB (by decide) ?_ | refine lt_ff hB (by decide) ?_ | refine le_tt hB (by decide) ?_ | refine le_ff hB (by decide) ?_ | refine eq_tt hB (by decide) ?_ | refine eq_ff hB (by decide) ?_ | refine fint_wrp hB (by omega) (by omega) ?_ | refine fint_step hB ?_ | refine fbool_tt hB ?_ | refine fbool_ff hB ?_ | refine fbool_split hB (fun _ => ?_) (fun _ => ?_) | refine ftok_step hB ?_ | refine frows_step hB ?_ | refine fstr_step hB ?_ | refine len_map hB ?_ | refine len_step hB ?_ | refine lens_step hB ?_ | refine byte_step hB ?_ | refine drop_step hB rfl ?_ | refine fl_step hB rfl ?_ | refine add_one hB (by first | omega | decide) ?_ | refine opt_step hB rfl ?_ | refine fnat_step hB ?_ | refine ifk_step hB rfl ?_ | refine ifk_step hB (flat_or rfl) ?_ | refine opt2_step hB rfl ?_ | refine obj_raw hB ?_ | refine sob_raw hB ?_ | refine fst_raw hB ?_ | refine optl_raw hB ?_ | refine tok_step hB rfl ?_) <;> conv => lhs; whnf)
      · have hp : placeI (y :: l.drop (i0 + 1)) z (i0 : Int) = (i0 : Int) := by simp [placeI, hy]
        rw [hp] at k2
        rw [clampTok_pur ht]
        exact k2 _
      · have hp : placeI (y :: l.drop (i0 + 1)) z (i0 : Int) = placeI (l.drop (i0 + 1)) z ((i0 + 1 : Nat) : Int) := by simp [placeI, hy]
        rw [hp] at k1 k2
        rw [clampTok_pur ht]
        exact ih (i0 + 1) t ht (by omega) (by omega) k1 k2
    · repeat' ((first | refine purs_step hB rfl ?_ | refine lt_tt hB (by decide) ?_ | refine lt_ff hB (by decide) ?_ | refine le_tt hB (by decide) ?_ | refine le_ff hB (by decide) ?_ | refine eq_tt hB (by decide) ?_ | refine eq_ff hB (by decide) ?_ | refine fint_wrp hB (by omega) (by omega) ?_ | refine fint_step hB ?_ | refine fbool_tt hB ?_ | refine fbool_ff hB ?_ | refine fbool_split hB (fun _ => ?_) (fun _ => ?_) | refine ftok_step hB ?_ | refine frows_step hB ?_ | refine fstr_step hB ?_ | refine len_map hB ?_ | refine len_step hB ?_ | refine lens_step hB ?_ | refine byte_step hB ?_ | refine drop_step hB rfl ?_ | refine fl_step hB rfl ?_ | refine add_one hB (by first | omega | decide) ?_ | refine opt_step hB rfl ?_ | refine fnat_step hB ?_ | refine ifk_step hB rfl ?_ | refine ifk_step hB (flat_or rfl) ?_ | refine opt2_step hB rfl ?_ | refine obj_raw hB ?_ | refine sob_raw hB ?_ | refine fst_raw hB ?_ | refine optl_raw hB ?_ | refine tok_step hB rfl ?_) <;> conv => lhs; whnf)
      have hi : i0 = l.length := by omega
      subst hi
      rw [clampTok_pur ht]
      exact k1 (by simp [placeI]) _
theorem Place_ev {n : Nat} (hn : 1000000000000002 ≤ n) (l : List Int) (hl : l.length ≤ 1000000000000000) {t : Tok} (ht : purTok t = true) (z : Int) : (evKR Bk Gx fsT n).1 0 39 [.sl (rowsI l) t, .int .i64 z] [] ansK = some (.int .i64 (placeI l z 0), []) := by
  refine call_open (show fsT.find 39 = some a39 from rfl) (by omega) fun n' B cl rd hn' hB hcl hrd => ?_
  conv => lhs; whnf
  repeat' ((first | refine fnat_pred hB ?_ | refine a39_L1_step hB l hl z _ _ _ _ _ 0 _ (purTok_clamp ht) (by omega) (by omega) (fun hp e => ?_) (fun e => ?_) | refine purs_step hB rfl ?_ | refine lt_tt hB (by decide) ?_ | refine lt_ff hB (by decide) ?_ | refine le_tt hB (by decide) ?_ | refine le_ff hB (by decide) ?_ | refine eq_tt hB (by decide) ?_ | refine eq_ff hB (by decide) ?_ | refine fint_wrp hB (by omega) (by omega) ?_ | refine fint_step hB ?_ | refine fbool_tt hB ?_ | refine fbool_ff hB ?_ | refine fbool_split hB (fun _ => ?_) (fun _ => ?_) | refine ftok_step hB ?_ | refine frows_step hB ?_ | refine fstr_step hB ?_ | refine len_map hB ?_ | refine len_step hB ?_ | refine lens_step hB ?_ | refine byte_step hB ?_ | refine drop_step hB rfl ?_ | refine fl_step hB rfl ?_ | refine add_one hB (by first | omega | decide) ?_ | refine opt_step hB rfl ?_ | refine fnat_step hB ?_ | refine ifk_step hB rfl ?_ | refine ifk_step hB (flat_or rfl) ?_ | refine opt2_step hB rfl ?_ | refine obj_raw hB ?_ | refine sob_raw hB ?_ | refine fst_raw hB ?_ | refine optl_raw hB ?_ | refine tok_step hB rfl ?_) <;> conv => lhs; whnf)
  · have hp : placeI l z 0 = -1 := hp
    rw [hp]
  · rfl
theorem place_lt {l : List Int} {z : Int} : ∀ {i : Int}, 0 ≤ i → (placeI l z i < 0 ↔ z ∉ l) := by
  induction l with
  | nil => intro i hi; simp [placeI]
  | cons k l ih =>
    intro i hi
    unfold placeI
    by_cases h : k = z
    · simp [h]; omega
    · rw [if_neg h, ih (by omega)]
      simp [Ne.symm h]
end Go.Ab.Cl

namespace Go.Ab.Cl
open Go.Ab

theorem a61_L1_step {B : Bnd} (hB : B = Bk) {cl : CallK} {rd : RoundK} (m : List UInt8) (hlen : m.length ≤ 9223372036854775806) (n : Nat) (s : St) (k : Ex → Env → St → Ans) (r : Ans) :
    ∀ (j i : Nat), m.length < i + j → i ≤ m.length →
    ((m.drop i).all okDigit = true → ∀ e, k (.exit 0) e s = r) → ((m.drop i).all okDigit = false → ∀ e, k .ret ((0, .str m) :: (2, .bool false) :: e) s = r) →
    B.loop (evCK B a61_L1) [0, 2, 3] n j cl rd Gx 0 1 [(0, .str m), (2, .bool false), (3, .int .i64 (.ofNat i))] s k = r := by
  intro j
  induction j with
  | zero => intro i h1 h2; omega
  | succ j ih =>
    intro i h1 h2 k1 k2
    refine loop_succ hB ?_
    conv => lhs; whnf
    refine lens_step hB ?_
    conv => lhs; whnf
    refine lt_nat hB (fun h => ?_) (fun h => ?_) <;> conv => lhs; whnf
    · have hx : m[i]? = some m[i] := by simp [h]
      have hd : m.drop i = m[i] :: m.drop (i + 1) := List.drop_eq_getElem_cons h
      rw [hd] at k1 k2
      generalize m[i] = c at hx k1 k2
      have hcl := c.toNat_lt
      repeat' ((first | refine natOf_step hB (m := i) rfl ?_ | refine nthb_step hB hx ?_ | refine byte_step hB ?_ | refine eq_split hB (fun h63 => ?_) (fun h63 => ?_) | refine lt_split hB (fun hl => ?_) (fun hl => ?_) | refine purs_step hB rfl ?_ | refine lt_tt hB (by decide) ?_ | refine lt_ff hB (by decide) ?_ | refine le_tt hB (by decide) ?_ | refine le_ff hB (by decide) ?_ | refine eq_tt hB (by decide) ?_ | refine eq_ff hB (by decide) ?_ | refine fint_wrp hB (by omega) (by omega) ?_ | refine fint_step hB ?_ | refine fbool_tt hB ?_ | refine fbool_ff hB ?_ | refine fbool_split hB (fun _ => ?_) (fun _ => ?_) | refine ftok_step hB ?_ | refine frows_step hB ?_ | refine fstr_step hB ?_ | refine len_map hB ?_ | refine len_step hB ?_ | refine lens_step hB ?_ | refine byte_step hB ?_ | refine drop_step hB rfl ?_ | refine fl_step hB rfl ?_ | refine add_one hB (by first | omega | decide) ?_ | refine opt_step hB rfl ?_ | refine fnat_step hB ?_ | refine ifk_step hB rfl ?_ | refine ifk_step hB (flat_or rfl) ?_ | refine opt2_step hB rfl ?_ | refine obj_raw hB ?_ | refine sob_raw hB ?_ | refine fst_raw hB ?_ | refine optl_raw hB ?_ | refine tok_step hB rfl ?_) <;> conv => lhs; whnf)
      · have hb : okDigit c = true := by simp only [okDigit, within, Bool.or_eq_true, Bool.and_eq_true, decide_eq_true_eq]; simp only [Int.ofNat_eq_natCast] at h63; omega
        rw [List.all_cons, hb, Bool.true_and] at k1 k2
        exact ih (i + 1) (by omega) (by omega) k1 k2
      · have hb : okDigit c = false := by simp only [okDigit, within, Bool.or_eq_false_iff, Bool.and_eq_false_iff, decide_eq_false_iff_not]; simp only [Int.ofNat_eq_natCast] at h63 hl; omega
        rw [List.all_cons, hb, Bool.false_and] at k2
        exact k2 rfl _
      · have hb : okDigit c = false := by simp only [okDigit, within, Bool.or_eq_false_iff, Bool.and_eq_false_iff, decide_eq_false_iff_not]; simp only [Int.ofNat_eq_natCast] at h63 hl; omega
        rw [List.all_cons, hb, Bool.false_and] at k2
        exact k2 rfl _
      · have hb : okDigit c = true := by simp only [okDigit, within, Bool.or_eq_true, Bool.and_eq_true, decide_eq_true_eq]; simp only [Int.ofNat_eq_natCast] at *; omega
        rw [List.all_cons, hb, Bool.true_and] at k1 k2
        exact ih (i + 1) (by omega) (by omega) k1 k2
    · repeat' ((first | refine purs_step hB rfl ?_ | refine lt_tt hB (by decide) ?_ | refine lt_ff hB (by decide) ?_ | refine le_tt hB (by decide) ?_ | refine le_ff hB (by decide) ?_ | refine eq_tt hB (by decide) ?_ | refine eq_ff hB (by decide) ?_ | refine fint_wrp hB (by omega) (by omega) ?_ | refine fint_step hB ?_ | refine fbool_tt hB ?_ | refine fbool_ff hB ?_ | refine fbool_split hB (fun _ => ?_) (fun _ => ?_) | refine ftok_step hB ?_ | refine frows_step hB ?_ | refine fstr_step hB ?_ | refine len_map hB ?_ | refine len_step hB ?_ | refine lens_step hB ?_ | refine byte_step hB ?_ | refine drop_step hB rfl ?_ | refine fl_step hB rfl ?_ | refine add_one hB (by first | omega | decide) ?_ | refine opt_step hB rfl ?_ | refine fnat_step hB ?_ | refine ifk_step hB rfl ?_ | refine ifk_step hB (flat_or rfl) ?_ | refine opt2_step hB rfl ?_ | refine obj_raw hB ?_ | refine sob_raw hB ?_ | refine fst_raw hB ?_ | refine optl_raw hB ?_ | refine tok_step hB rfl ?_) <;> conv => lhs; whnf)
      have hi : i = m.length := by omega
      refine k1 ?_ _
      rw [hi]; simp

theorem isSealR_ev {n : Nat} (m : List UInt8) (hl : m.length ≤ 1000000000000000) (hn : m.length + 2 ≤ n) : (evKR Bk Gx fsT n).1 0 61 [.str m] [] ansK = some (.bool (okSeal m), []) := by
  refine call_open (show fsT.find 61 = some a61 from rfl) (by omega) fun n B cl rd hn' hB hcl hrd => ?_
  have e0 : okSeal m = ((m.isEmpty || m.length == 4) && m.all okDigit) := rfl
  conv => lhs; whnf
  repeat' ((first | refine eq_split hB (fun h1 => ?_) (fun h1 => ?_) | refine a61_L1_step hB m (by omega) _ _ _ _ _ 0 (by omega) (by omega) (fun ha e => ?_) (fun ha e => ?_) | refine purs_step hB rfl ?_ | refine lt_tt hB (by decide) ?_ | refine lt_ff hB (by decide) ?_ | refine le_tt hB (by decide) ?_ | refine le_ff hB (by decide) ?_ | refine eq_tt hB (by decide) ?_ | refine eq_ff hB (by decide) ?_ | refine fint_wrp hB (by omega) (by omega) ?_ | refine fint_step hB ?_ | refine fbool_tt hB ?_ | refine fbool_ff hB ?_ | refine fbool_split hB (fun _ => ?_) (fun _ => ?_) | refine ftok_step hB ?_ | refine frows_step hB ?_ | refine fstr_step hB ?_ | refine len_map hB ?_ | refine len_step hB ?_ | refine lens_step hB ?_ | refine byte_step hB ?_ | refine drop_step hB rfl ?_ | refine fl_step hB rfl ?_ | refine add_one hB (by first | omega | decide) ?_ | refine opt_step hB rfl ?_ | refine fnat_step hB ?_ | refine ifk_step hB rfl ?_ | refine ifk_step hB (flat_or rfl) ?_ | refine opt2_step hB rfl ?_ | refine obj_raw hB ?_ | refine sob_raw hB ?_ | refine fst_raw hB ?_ | refine optl_raw hB ?_ | refine tok_step hB rfl ?_) <;> conv => lhs; whnf)
  all_goals
    try rw [List.drop_zero] at ha
    rw [e0]
    refine congrArg some (congrArg (·, []) (congrArg AV.bool ?_))
    try simp only [Int.ofNat_eq_natCast] at *
    cases m with
    | nil => simp_all
    | cons a m => simp_all <;> omega

def LoopEnd (v : AV) (ok : Bool) : Env → Prop := fun e => ∃ i : Int, e = [(1, v), (3, .bool ok), (4, .int .i64 i)] ∨ e = [(1, v), (3, .bool ok), (6, .int .i64 i)]
theorem a16_L1_step {B : Bnd} (hB : B = Bk) {cl : CallK} {rd : RoundK} (H38 : ∀ a b c : Int, cl 0 38 [.int .i64 a, .int .i64 b, .int .i64 c] [] ansK = some (.bool (within a b c), [])) (d : Desk) (hd : d.ok) (n : Nat) (k : Ex → Env → St → Ans) (r : Ans) :
    ∀ (j i : Nat) (ok : Bool), d.ps.length < i + j → i ≤ d.ps.length →
    (∀ x : Int, k (.exit 0) [(1, .ptr 0 0 0), (3, .bool (ok && (d.ps.drop i).all okParcel)), (4, .int .i64 x)] [⟨[.cells d.c], []⟩] = r) →
    B.loop (evCK B a16_L1) [1, 3, 4] n j cl rd Gx 0 1 [(1, .ptr 0 0 0), (3, .bool ok), (4, .int .i64 (.ofNat i))] [⟨[.cells d.c], []⟩] k = r := by
  intro j
  induction j with
  | zero => intro i ok h1 h2; omega
  | succ j ih =>
    intro i ok h1 h2 k1
    have hps := hd.ps
    refine loop_succ hB ?_
    cases ok
    · conv => lhs; whnf
      repeat' ((first | refine purs_step hB rfl ?_ | refine lt_tt hB (by decide) ?_ | refine lt_ff hB (by decide) ?_ | refine le_tt hB (by decide) ?_ | refine le_ff hB (by decide) ?_ | refine eq_tt hB (by decide) ?_ | refine eq_ff hB (by decide) ?_ | refine fint_wrp hB (by omega) (by omega) ?_ | refine fint_step hB ?_ | refine fbool_tt hB ?_ | refine fbool_ff hB ?_ | refine fbool_split hB (fun _ => ?_) (fun _ => ?_) | refine ftok_step hB ?_ | refine frows_step hB ?_ | refine fstr_step hB ?_ | refine len_map hB ?_ | refine len_step hB ?_ | refine lens_step hB ?_ | refine byte_step hB ?_ | refine drop_step hB rfl ?_ | refine fl_step hB rfl ?_ | refine add_one hB (by first | omega | decide) ?_ | refine opt_step hB rfl ?_ | refine fnat_step hB ?_ | refine ifk_step hB rfl ?_ | refine ifk_step hB (flat_or rfl) ?_ | refine opt2_step hB rfl ?_ | refine obj_raw hB ?_ | refine sob_raw hB ?_ | refine fst_raw hB ?_ | refine optl_raw hB ?_ | refine tok_step hB rfl ?_) <;> conv => lhs; whnf)
      exact k1 _
    · conv => lhs; whnf
      (repeat' ((first | refine fnat_step hB ?_ | refine obj_raw hB ?_ | refine drop_step hB rfl ?_ | refine len_map hB ?_) <;> conv => lhs; whnf))
      refine lt_nat hB (fun h => ?_) (fun h => ?_) <;> conv => lhs; whnf
      · have hx : (d.ps.map Parcel.c)[i]? = some (Parcel.c d.ps[i]) := by simp [h]
        have hdr : d.ps.drop i = d.ps[i] :: d.ps.drop (i + 1) := List.drop_eq_getElem_cons h
        rw [hdr] at k1
        generalize d.ps[i] = p at hx k1
        repeat' ((first | refine fnat_pred hB ?_ | refine natOf_step hB (m := i) rfl ?_ | refine nth_step hB hx ?_ | refine pans_bool hB (H38 _ _ _) (fun _ => ?_) (fun _ => ?_) | refine purs_step hB rfl ?_ | refine lt_tt hB (by decide) ?_ | refine lt_ff hB (by decide) ?_ | refine le_tt hB (by decide) ?_ | refine le_ff hB (by decide) ?_ | refine eq_tt hB (by decide) ?_ | refine eq_ff hB (by decide) ?_ | refine fint_wrp hB (by omega) (by omega) ?_ | refine fint_step hB ?_ | refine fbool_tt hB ?_ | refine fbool_ff hB ?_ | refine fbool_split hB (fun _ => ?_) (fun _ => ?_) | refine ftok_step hB ?_ | refine frows_step hB ?_ | refine fstr_step hB ?_ | refine len_map hB ?_ | refine len_step hB ?_ | refine lens_step hB ?_ | refine byte_step hB ?_ | refine drop_step hB rfl ?_ | refine fl_step hB rfl ?_ | refine add_one hB (by first | omega | decide) ?_ | refine opt_step hB rfl ?_ | refine fnat_step hB ?_ | refine ifk_step hB rfl ?_ | refine ifk_step hB (flat_or rfl) ?_ | refine opt2_step hB rfl ?_ | refine obj_raw hB ?_ | refine sob_raw hB ?_ | refine fst_raw hB ?_ | refine optl_raw hB ?_ | refine tok_step hB rfl ?_) <;> conv => lhs; whnf)
        all_goals
          refine ih (i + 1) _ (by omega) (by omega) fun x => ?_
          have k1 := k1 x
          simp_all [okParcel]
      · repeat' ((first | refine purs_step hB rfl ?_ | refine lt_tt hB (by decide) ?_ | refine lt_ff hB (by decide) ?_ | refine le_tt hB (by decide) ?_ | refine le_ff hB (by decide) ?_ | refine eq_tt hB (by decide) ?_ | refine eq_ff hB (by decide) ?_ | refine fint_wrp hB (by omega) (by omega) ?_ | refine fint_step hB ?_ | refine fbool_tt hB ?_ | refine fbool_ff hB ?_ | refine fbool_split hB (fun _ => ?_) (fun _ => ?_) | refine ftok_step hB ?_ | refine frows_step hB ?_ | refine fstr_step hB ?_ | refine len_map hB ?_ | refine len_step hB ?_ | refine lens_step hB ?_ | refine byte_step hB ?_ | refine drop_step hB rfl ?_ | refine fl_step hB rfl ?_ | refine add_one hB (by first | omega | decide) ?_ | refine opt_step hB rfl ?_ | refine fnat_step hB ?_ | refine ifk_step hB rfl ?_ | refine ifk_step hB (flat_or rfl) ?_ | refine opt2_step hB rfl ?_ | refine obj_raw hB ?_ | refine sob_raw hB ?_ | refine fst_raw hB ?_ | refine optl_raw hB ?_ | refine tok_step hB rfl ?_) <;> conv => lhs; whnf)
        have hi : i = d.ps.length := by omega
        subst hi
        rw [List.drop_length] at k1
        exact k1 _
theorem a16_L2_step {B : Bnd} (hB : B = Bk) {cl : CallK} {rd : RoundK} (H38 : ∀ a b c : Int, cl 0 38 [.int .i64 a, .int .i64 b, .int .i64 c] [] ansK = some (.bool (within a b c), []))
    (H60 : ∀ a b c d : Int, cl 0 60 [.agg [.int .i64 a, .int .i64 b], .int .i64 c, .int .i64 d] [] ansK = some (.bool (isSpan a b c d), [])) (d : Desk) (hd : d.ok)
    (H61 : ∀ b ∈ d.bs, cl 0 61 [.str b.mark] [] ansK = some (.bool (okSeal b.mark), [])) (n : Nat) (k : Ex → Env → St → Ans) (r : Ans) :
    ∀ (j i : Nat) (ok : Bool), d.bs.length < i + j → i ≤ d.bs.length →
    (∀ x : Int, k (.exit 2) [(1, .ptr 0 0 0), (3, .bool (ok && (d.bs.drop i).all okBox)), (6, .int .i64 x)] [⟨[.cells d.c], []⟩] = r) →
    B.loop (evCK B a16_L2) [1, 3, 6] n j cl rd Gx 0 1 [(1, .ptr 0 0 0), (3, .bool ok), (6, .int .i64 (.ofNat i))] [⟨[.cells d.c], []⟩] k = r := by
  intro j
  induction j with
  | zero => intro i ok h1 h2; omega
  | succ j ih =>
    intro i ok h1 h2 k1
    have hbs := hd.bs
    refine loop_succ hB ?_
    cases ok
    · conv => lhs; whnf
      repeat' ((first | refine purs_step hB rfl ?_ | refine lt_tt hB (by decide) ?_ | refine lt_ff hB (by decide) ?_ | refine le_tt hB (by decide) ?_ | refine le_ff hB (by decide) ?_ | refine eq_tt hB (by decide) ?_ | refine eq_ff hB (by decide) ?_ | refine fint_wrp hB (by omega) (by omega) ?_ | refine fint_step hB ?_ | refine fbool_tt hB ?_ | refine fbool_ff hB ?_ | refine fbool_split hB (fun _ => ?_) (fun _ => ?_) | refine ftok_step hB ?_ | refine frows_step hB ?_ | refine fstr_step hB ?_ | refine len_map hB ?_ | refine len_step hB ?_ | refine lens_step hB ?_ | refine byte_step hB ?_ | refine drop_step hB rfl ?_ | refine fl_step hB rfl ?_ | refine add_one hB (by first | omega | decide) ?_ | refine opt_step hB rfl ?_ | refine fnat_step hB ?_ | refine ifk_step hB rfl ?_ | refine ifk_step hB (flat_or rfl) ?_ | refine opt2_step hB rfl ?_ | refine obj_raw hB ?_ | refine sob_raw hB ?_ | refine fst_raw hB ?_ | refine optl_raw hB ?_ | refine tok_step hB rfl ?_) <;> conv => lhs; whnf)
      exact k1 _
    · conv => lhs; whnf
      (repeat' ((first | refine fnat_step hB ?_ | refine obj_raw hB ?_ | refine drop_step hB rfl ?_ | refine len_map hB ?_) <;> conv => lhs; whnf))
      refine lt_nat hB (fun h => ?_) (fun h => ?_) <;> conv => lhs; whnf
      · have hx : (d.bs.map Box.c)[i]? = some (Box.c d.bs[i]) := by simp [h]
        have hdr : d.bs.drop i = d.bs[i] :: d.bs.drop (i + 1) := List.drop_eq_getElem_cons h
        have hm := H61 d.bs[i] (List.getElem_mem h)
        rw [hdr] at k1
        generalize d.bs[i] = p at hx k1 hm
        repeat' ((first | refine fnat_pred hB ?_ | refine natOf_step hB (m := i) rfl ?_ | refine nth_step hB hx ?_ | refine pans_bool hB (H38 _ _ _) (fun _ => ?_) (fun _ => ?_) | refine pans_bool hB (H60 _ _ _ _) (fun _ => ?_) (fun _ => ?_) | refine pans_bool hB hm (fun _ => ?_) (fun _ => ?_) | refine purs_step hB rfl ?_ | refine lt_tt hB (by decide) ?_ | refine lt_ff hB (by decide) ?_ | refine le_tt hB (by decide) ?_ | refine le_ff hB (by decide) ?_ | refine eq_tt hB (by decide) ?_ | refine eq_ff hB (by decide) ?_ | refine fint_wrp hB (by omega) (by omega) ?_ | refine fint_step hB ?_ | refine fbool_tt hB ?_ | refine fbool_ff hB ?_ | refine fbool_split hB (fun _ => ?_) (fun _ => ?_) | refine ftok_step hB ?_ | refine frows_step hB ?_ | refine fstr_step hB ?_ | refine len_map hB ?_ | refine len_step hB ?_ | refine lens_step hB ?_ | refine byte_step hB ?_ | refine drop_step hB rfl ?_ | refine fl_step hB rfl ?_ | refine add_one hB (by first | omega | decide) ?_ | refine opt_step hB rfl ?_ | refine fnat_step hB ?_ | refine ifk_step hB rfl ?_ | refine ifk_step hB (flat_or rfl) ?_ | refine opt2_step hB rfl ?_ | refine obj_raw hB ?_ | refine sob_raw hB ?_ | refine fst_raw hB ?_ | refine optl_raw hB ?_ | refine tok_step hB rfl ?_) <;> conv => lhs; whnf)
        all_goals
          refine ih (i + 1) _ (by omega) (by omega) fun x => ?_
          have k1 := k1 x
          simp_all [okBox]
      · repeat' ((first | refine purs_step hB rfl ?_ | refine lt_tt hB (by decide) ?_ | refine lt_ff hB (by decide) ?_ | refine le_tt hB (by decide) ?_ | refine le_ff hB (by decide) ?_ | refine eq_tt hB (by decide) ?_ | refine eq_ff hB (by decide) ?_ | refine fint_wrp hB (by omega) (by omega) ?_ | refine fint_step hB ?_ | refine fbool_tt hB ?_ | refine fbool_ff hB ?_ | refine fbool_split hB (fun _ => ?_) (fun _ => ?_) | refine ftok_step hB ?_ | refine frows_step hB ?_ | refine fstr_step hB ?_ | refine len_map hB ?_ | refine len_step hB ?_ | refine lens_step hB ?_ | refine byte_step hB ?_ | refine drop_step hB rfl ?_ | refine fl_step hB rfl ?_ | refine add_one hB (by first | omega | decide) ?_ | refine opt_step hB rfl ?_ | refine fnat_step hB ?_ | refine ifk_step hB rfl ?_ | refine ifk_step hB (flat_or rfl) ?_ | refine opt2_step hB rfl ?_ | refine obj_raw hB ?_ | refine sob_raw hB ?_ | refine fst_raw hB ?_ | refine optl_raw hB ?_ | refine tok_step hB rfl ?_) <;> conv => lhs; whnf)
        have hi : i = d.bs.length := by omega
        subst hi
        rw [List.drop_length] at k1
        exact k1 _
theorem a16_L1_two {B : Bnd} (hB : B = Bk) {cl : CallK} {rd : RoundK} (H38 : ∀ a b c : Int, cl 0 38 [.int .i64 a, .int .i64 b, .int .i64 c] [] ansK = some (.bool (within a b c), [])) (d : Desk) (hd : d.ok) {pb : Bool} (hpb : d.ps.all okParcel = pb) (n : Nat) (k : Ex → Env → St → Ans) (r : Ans) (j : Nat) (hj : d.ps.length < j)
    (k1 : ∀ x : Int, k (.exit 0) [(1, .ptr 0 0 0), (3, .bool pb), (4, .int .i64 x)] [⟨[.cells d.c], []⟩] = r) :
    B.loop (evCK B a16_L1) [1, 3, 4] n j cl rd Gx 0 1 [(1, .ptr 0 0 0), (3, .bool true), (4, .int .i64 0)] [⟨[.cells d.c], []⟩] k = r :=
  a16_L1_step hB H38 d hd n k r j 0 true (by omega) (by omega) fun x => by
    rw [List.drop_zero, hpb, Bool.true_and]; exact k1 x
theorem a16_L2_two {B : Bnd} (hB : B = Bk) {cl : CallK} {rd : RoundK} (H38 : ∀ a b c : Int, cl 0 38 [.int .i64 a, .int .i64 b, .int .i64 c] [] ansK = some (.bool (within a b c), []))
    (H60 : ∀ a b c d : Int, cl 0 60 [.agg [.int .i64 a, .int .i64 b], .int .i64 c, .int .i64 d] [] ansK = some (.bool (isSpan a b c d), [])) (d : Desk) (hd : d.ok)
    (H61 : ∀ b ∈ d.bs, cl 0 61 [.str b.mark] [] ansK = some (.bool (okSeal b.mark), [])) {bb : Bool} (hbb : d.bs.all okBox = bb) (n : Nat) (k : Ex → Env → St → Ans) (r : Ans) (j : Nat) (hj : d.bs.length < j)
    (k1 : ∀ x : Int, k (.exit 2) [(1, .ptr 0 0 0), (3, .bool bb), (6, .int .i64 x)] [⟨[.cells d.c], []⟩] = r) :
    B.loop (evCK B a16_L2) [1, 3, 6] n j cl rd Gx 0 1 [(1, .ptr 0 0 0), (3, .bool true), (6, .int .i64 0)] [⟨[.cells d.c], []⟩] k = r :=
  a16_L2_step hB H38 H60 d hd H61 n k r j 0 true (by omega) (by omega) fun x => by
    rw [List.drop_zero, hbb, Bool.true_and]; exact k1 x
theorem CheckR_ev {n : Nat} (d : Desk) (hd : d.ok) (hn : 1000000000000010 ≤ n) : (evKR Bk Gx fsT n).1 0 16 [d.v] [] ansK = some (.int .i64 (if d.check = true then 0 else 90), []) := by
  refine call_open (show fsT.find 16 = some a16 from rfl) (by omega) fun n B cl rd hn' hB hcl hrd => ?_
  have H38 := fun a b c => Tween_ev (G := Gx) (n := n) (by omega) a b c
  have H60 := fun a b c d => Proper_ev (G := Gx) (n := n) (by omega) a b c d
  have H61 : ∀ b ∈ d.bs, (evKR Bk Gx fsT n).1 0 61 [.str b.mark] [] ansK = some (.bool (okSeal b.mark), []) := fun b hb => isSealR_ev b.mark (hd.str b hb) (by have := hd.str b hb; omega)
  rw [← hcl] at H38 H60 H61
  have hps := hd.ps
  have hbs := hd.bs
  have hck : d.check = (isSpan d.lo d.hi 0 400 && within d.wear 0 5000 && within d.strange 0 6 && decide (d.ps.length ≤ 8) && decide (d.bs.length ≤ 6) && d.ps.all okParcel && d.bs.all okBox) := rfl
  cases hpb : d.ps.all okParcel <;> cases hbb : d.bs.all okBox
  all_goals
    rw [hpb, hbb] at hck
    conv => lhs; whnf
    repeat' ((first | refine fnat_pred hB ?_ | refine pans_bool hB (H38 _ _ _) (fun _ => ?_) (fun _ => ?_) | refine pans_bool hB (H60 _ _ _ _) (fun _ => ?_) (fun _ => ?_) | refine a16_L1_two hB H38 d hd hpb _ _ _ _ (by omega) (fun x => ?_) | refine a16_L2_two hB H38 H60 d hd H61 hbb _ _ _ _ (by omega) (fun x => ?_) | refine a16_L1_step hB H38 d hd _ _ _ _ 0 false (by omega) (by omega) (fun x => ?_) | refine a16_L2_step hB H38 H60 d hd H61 _ _ _ _ 0 false (by omega) (by omega) (fun x => ?_) | refine le_split hB (fun _ => ?_) (fun _ => ?_) | refine purs_step hB rfl ?_ | refine lt_tt hB (by decide) ?_ | refine lt_ff hB (by decide) ?_ | refine le_tt hB (by decide) ?_ | refine le_ff hB (by decide) ?_ | refine eq_tt hB (by decide) ?_ | refine eq_ff hB (by decide) ?_ | refine fint_wrp hB (by omega) (by omega) ?_ | refine fint_step hB ?_ | refine fbool_tt hB ?_ | refine fbool_ff hB ?_ | refine fbool_split hB (fun _ => ?_) (fun _ => ?_) | refine ftok_step hB ?_ | refine frows_step hB ?_ | refine fstr_step hB ?_ | refine len_map hB ?_ | refine len_step hB ?_ | refine lens_step hB ?_ | refine byte_step hB ?_ | refine drop_step hB rfl ?_ | refine fl_step hB rfl ?_ | refine add_one hB (by first | omega | decide) ?_ | refine opt_step hB rfl ?_ | refine fnat_step hB ?_ | refine ifk_step hB rfl ?_ | refine ifk_step hB (flat_or rfl) ?_ | refine opt2_step hB rfl ?_ | refine obj_raw hB ?_ | refine sob_raw hB ?_ | refine fst_raw hB ?_ | refine optl_raw hB ?_ | refine tok_step hB rfl ?_) <;> conv => lhs; whnf)
  all_goals
    clear H38 H60 H61
    refine congrArg some (congrArg (·, []) (congrArg (AV.int .i64) ?_))
    try simp only [Int.ofNat_eq_natCast] at *

    simp_all
  all_goals omega

theorem Has_ev {n : Nat} (hn : 3 ≤ n) (a b z : Int) : (evKR Bk Gx fsT n).1 0 41 [.agg [.int .i64 a, .int .i64 b], .int .i64 z] [] ansK = some (.bool (within z a b), []) := by
  refine call_open (show fsT.find 41 = some a41 from rfl) (by omega) fun n B cl rd hn' hB hcl hrd => ?_
  have H38 := Tween_ev (G := Gx) (n := n) (by omega) z a b
  rw [← hcl] at H38
  conv => lhs; whnf
  repeat' ((first | refine fnat_pred hB ?_ | refine pans_step hB H38 ?_ | refine purs_step hB rfl ?_ | refine lt_tt hB (by decide) ?_ | refine lt_ff hB (by decide) ?_ | refine le_tt hB (by decide) ?_ | refine le_ff hB (by decide) ?_ | refine eq_tt hB (by decide) ?_ | refine eq_ff hB (by decide) ?_ | refine fint_wrp hB (by omega) (by omega) ?_ | refine fint_step hB ?_ | refine fbool_tt hB ?_ | refine fbool_ff hB ?_ | refine fbool_split hB (fun _ => ?_) (fun _ => ?_) | refine ftok_step hB ?_ | refine frows_step hB ?_ | refine fstr_step hB ?_ | refine len_map hB ?_ | refine len_step hB ?_ | refine lens_step hB ?_ | refine byte_step hB ?_ | refine drop_step hB rfl ?_ | refine fl_step hB rfl ?_ | refine add_one hB (by first | omega | decide) ?_ | refine opt_step hB rfl ?_ | refine fnat_step hB ?_ | refine ifk_step hB rfl ?_ | refine ifk_step hB (flat_or rfl) ?_ | refine opt2_step hB rfl ?_ | refine obj_raw hB ?_ | refine sob_raw hB ?_ | refine fst_raw hB ?_ | refine optl_raw hB ?_ | refine tok_step hB rfl ?_) <;> conv => lhs; whnf)
  all_goals rfl
theorem Common_ev {n : Nat} (hn : 3 ≤ n) (a b c d : Int) : (evKR Bk Gx fsT n).1 0 83 [.agg [.int .i64 a, .int .i64 b], .agg [.int .i64 c, .int .i64 d]] [] ansK = some (.agg [.int .i64 (hiI a c), .int .i64 (loI b d)], []) := by
  refine call_open (show fsT.find 83 = some a83 from rfl) (by omega) fun n B cl rd hn' hB hcl hrd => ?_
  have HTo := To_ev (n := n) (by omega) (hiI a c) (loI b d)
  rw [← hcl] at HTo
  conv => lhs; whnf
  repeat' ((first | refine fnat_pred hB ?_ | refine pans_step hB HTo ?_ | refine opt2_step hB (mx_ok rfl rfl) ?_ | refine opt2_step hB (mn_ok rfl rfl) ?_ | refine purs_step hB rfl ?_ | refine lt_tt hB (by decide) ?_ | refine lt_ff hB (by decide) ?_ | refine le_tt hB (by decide) ?_ | refine le_ff hB (by decide) ?_ | refine eq_tt hB (by decide) ?_ | refine eq_ff hB (by decide) ?_ | refine fint_wrp hB (by omega) (by omega) ?_ | refine fint_step hB ?_ | refine fbool_tt hB ?_ | refine fbool_ff hB ?_ | refine fbool_split hB (fun _ => ?_) (fun _ => ?_) | refine ftok_step hB ?_ | refine frows_step hB ?_ | refine fstr_step hB ?_ | refine len_map hB ?_ | refine len_step hB ?_ | refine lens_step hB ?_ | refine byte_step hB ?_ | refine drop_step hB rfl ?_ | refine fl_step hB rfl ?_ | refine add_one hB (by first | omega | decide) ?_ | refine opt_step hB rfl ?_ | refine fnat_step hB ?_ | refine ifk_step hB rfl ?_ | refine ifk_step hB (flat_or rfl) ?_ | refine opt2_step hB rfl ?_ | refine obj_raw hB ?_ | refine sob_raw hB ?_ | refine fst_raw hB ?_ | refine optl_raw hB ?_ | refine tok_step hB rfl ?_) <;> conv => lhs; whnf)
  all_goals rfl

theorem a56_L1_step {B : Bnd} (hB : B = Bk) {cl : CallK} {rd : RoundK} (b : Box) (hl : b.mark.length ≤ 1000000000000000) (hs : b.mark.all okDigit = true) (c0 c2 c3 : AObj) (n : Nat) (k : Ex → Env → St → Ans) (r : Ans) :
    ∀ (j i : Nat) (m z : Int), Small m → z = (i : Int) - 1 → i < j → i ≤ b.mark.length →
    (sealGo (b.mark.take i).reverse m = true → ∀ e, k (.exit 0) e [⟨[c0, .cells b.c, c2, c3], []⟩] = r) →
    (sealGo (b.mark.take i).reverse m = false → ∀ e, k .ret ((6, .bool false) :: e) [⟨[c0, .cells b.c, c2, c3], []⟩] = r) →
    B.loop (evCK B a56_L1) [6, 7, 10, 11] n j cl rd Gx 0 1 [(6, .bool false), (7, .ptr 0 1 0), (10, .int .i64 m), (11, .int .i64 z)] [⟨[c0, .cells b.c, c2, c3], []⟩] k = r := by
  intro j
  induction j with
  | zero => intro i m z hm hz h1 h2; omega
  | succ j ih =>
    intro i m z hm hz h1 h2 k1 k2
    refine loop_succ hB ?_
    cases i with
    | zero =>
      conv => lhs; whnf
      repeat' ((first | refine le_ff hB (by omega) ?_ | refine purs_step hB rfl ?_ | refine lt_tt hB (by decide) ?_ | refine lt_ff hB (by decide) ?_ | refine le_tt hB (by decide) ?_ | refine le_ff hB (by decide) ?_ | refine eq_tt hB (by decide) ?_ | refine eq_ff hB (by decide) ?_ | refine fint_wrp hB (by omega) (by omega) ?_ | refine fint_step hB ?_ | refine fbool_tt hB ?_ | refine fbool_ff hB ?_ | refine fbool_split hB (fun _ => ?_) (fun _ => ?_) | refine ftok_step hB ?_ | refine frows_step hB ?_ | refine fstr_step hB ?_ | refine len_map hB ?_ | refine len_step hB ?_ | refine lens_step hB ?_ | refine byte_step hB ?_ | refine drop_step hB rfl ?_ | refine fl_step hB rfl ?_ | refine add_one hB (by first | omega | decide) ?_ | refine opt_step hB rfl ?_ | refine fnat_step hB ?_ | refine ifk_step hB rfl ?_ | refine ifk_step hB (flat_or rfl) ?_ | refine opt2_step hB rfl ?_ | refine obj_raw hB ?_ | refine sob_raw hB ?_ | refine fst_raw hB ?_ | refine optl_raw hB ?_ | refine tok_step hB rfl ?_) <;> conv => lhs; whnf)
      exact k1 rfl _
    | succ i =>
      have hx : b.mark[i]? = some b.mark[i] := by simp
      have hd : (b.mark.take (i + 1)).reverse = b.mark[i] :: (b.mark.take i).reverse := by
        rw [List.take_add_one, List.getElem?_eq_getElem (by omega)]
        simp
      have hc : okDigit b.mark[i] = true := List.all_eq_true.1 hs _ (List.getElem_mem _)
      rw [hd] at k1 k2
      generalize b.mark[i] = c at hx hc k1 k2
      have hcl := c.toNat_lt
      have hw := small_tdiv hm
      conv => lhs; whnf
      repeat' ((first | refine fnat_pred hB ?_ | refine le_tt hB (by omega) ?_ | refine natOf_step hB (m := i) (by omega) ?_ | refine nthb_step hB hx ?_ | refine byte_step hB ?_ | refine sub_u8 hB (by simp_all [okDigit, within]; omega) (by omega) ?_ | refine eq_split hB (fun _ => ?_) (fun _ => ?_) | refine opt_step hB (rem_i64 (by decide)) ?_ | refine opt_step hB (quo_i64 (by decide) (by unfold Small at hw; omega) (by unfold Small at hw; omega)) ?_ | refine sub_step hB (by omega) (by omega) ?_ | refine purs_step hB rfl ?_ | refine lt_tt hB (by decide) ?_ | refine lt_ff hB (by decide) ?_ | refine le_tt hB (by decide) ?_ | refine le_ff hB (by decide) ?_ | refine eq_tt hB (by decide) ?_ | refine eq_ff hB (by decide) ?_ | refine fint_wrp hB (by omega) (by omega) ?_ | refine fint_step hB ?_ | refine fbool_tt hB ?_ | refine fbool_ff hB ?_ | refine fbool_split hB (fun _ => ?_) (fun _ => ?_) | refine ftok_step hB ?_ | refine frows_step hB ?_ | refine fstr_step hB ?_ | refine len_map hB ?_ | refine len_step hB ?_ | refine lens_step hB ?_ | refine byte_step hB ?_ | refine drop_step hB rfl ?_ | refine fl_step hB rfl ?_ | refine add_one hB (by first | omega | decide) ?_ | refine opt_step hB rfl ?_ | refine fnat_step hB ?_ | refine ifk_step hB rfl ?_ | refine ifk_step hB (flat_or rfl) ?_ | refine opt2_step hB rfl ?_ | refine obj_raw hB ?_ | refine sob_raw hB ?_ | refine fst_raw hB ?_ | refine optl_raw hB ?_ | refine tok_step hB rfl ?_) <;> conv => lhs; whnf)
      · have hb : sealGo (c :: (b.mark.take i).reverse) m = sealGo (b.mark.take i).reverse (m.tdiv 10) := by clear ih k1 k2; simp_all [sealGo]
        rw [hb] at k1 k2
        exact ih i _ _ hw (by omega) (by omega) (by omega) k1 k2
      · have hb : sealGo (c :: (b.mark.take i).reverse) m = sealGo (b.mark.take i).reverse (m.tdiv 10) := by clear ih k1 k2; simp_all [sealGo]
        rw [hb] at k1 k2
        exact ih i _ _ hw (by omega) (by omega) (by omega) k1 k2
      · have hb : sealGo (c :: (b.mark.take i).reverse) m = false := by clear ih k1 k2; simp_all [sealGo]
        exact k2 hb _
theorem couldF_ev {n : Nat} (d : Desk) (hd : d.ok) (hck : d.check = true) (i k : Nat) {zi zk : Int} (hzi : zi = (i : Int)) (hzk : zk = (k : Int)) (b : Box) (p : Parcel) (hb : d.bs[i]? = some b) (hp : d.ps[k]? = some p) (hn : 1000000000000010 ≤ n) :
    (evKR Bk Gx fsT n).1 0 56 [d.v, .int .i64 zi, .int .i64 zk] [] ansK = some (.bool (couldB d b p), []) := by
  refine call_open (show fsT.find 56 = some a56 from rfl) (by omega) fun n B cl rd hn' hB hcl hrd => ?_
  have hf := check_fine hck
  have fb := hf.b b (List.mem_of_getElem? hb)
  have fp := hf.p p (List.mem_of_getElem? hp)
  have hl := hd.str b (List.mem_of_getElem? hb)
  have hxb : (d.bs.map Box.c)[i]? = some b.c := by simp [hb]
  have hxp : (d.ps.map Parcel.c)[k]? = some p.c := by simp [hp]
  have hck2 := hck
  simp only [Desk.check, Bool.and_eq_true, List.all_eq_true, isSpan, within, decide_eq_true_eq] at hck2
  obtain ⟨⟨⟨⟨⟨⟨c1, c2⟩, c3⟩, c4⟩, c5⟩, c6⟩, c7⟩ := hck2
  have cb := c7 b (List.mem_of_getElem? hb)
  simp only [okBox, isSpan, within, Bool.and_eq_true, decide_eq_true_eq] at cb
  have HTo := To_ev (n := n) (by omega) (p.weight - d.wear) p.weight
  have HCo := Common_ev (n := n) (by omega) b.low b.high (p.weight - d.wear) p.weight
  have HHa := Has_ev (n := n) (by omega) d.lo d.hi (b.day - p.day)
  rw [← hcl] at HTo HCo HHa
  obtain ⟨s1, s2, s3, s4, s5⟩ := fb
  obtain ⟨t1, t2, t3, t4⟩ := fp
  have w3 := hf.wear
  have hseal : sealB b p = sealGo (b.mark.take b.mark.length).reverse p.mark := by rw [List.take_length]; rfl
  unfold Small at *
  conv => lhs; whnf
  repeat' ((first | refine fnat_pred hB ?_ | refine natOf_step hB hzi ?_ | refine natOf_step hB hzk ?_ | refine nth_step hB hxb ?_ | refine nth_step hB hxp ?_ | refine sub_step hB (by first | omega | (simp only [Int.ofNat_eq_natCast]; omega)) (by first | omega | (simp only [Int.ofNat_eq_natCast]; omega)) ?_ | refine pans_step hB HTo ?_ | refine pans_step hB HCo ?_ | refine pans_bool hB HHa (fun hh => ?_) (fun hh => ?_) | refine lt_split hB (fun hlt => ?_) (fun hlt => ?_) | refine a56_L1_step hB b hl s5 _ _ _ _ _ _ _ b.mark.length p.mark _ t3 (by simp only [Int.ofNat_eq_natCast]) (by omega) (by omega) (fun hsl e => ?_) (fun hsl e => ?_) | refine purs_step hB rfl ?_ | refine lt_tt hB (by decide) ?_ | refine lt_ff hB (by decide) ?_ | refine le_tt hB (by decide) ?_ | refine le_ff hB (by decide) ?_ | refine eq_tt hB (by decide) ?_ | refine eq_ff hB (by decide) ?_ | refine fint_wrp hB (by omega) (by omega) ?_ | refine fint_step hB ?_ | refine fbool_tt hB ?_ | refine fbool_ff hB ?_ | refine fbool_split hB (fun _ => ?_) (fun _ => ?_) | refine ftok_step hB ?_ | refine frows_step hB ?_ | refine fstr_step hB ?_ | refine len_map hB ?_ | refine len_step hB ?_ | refine lens_step hB ?_ | refine byte_step hB ?_ | refine drop_step hB rfl ?_ | refine fl_step hB rfl ?_ | refine add_one hB (by first | omega | decide) ?_ | refine opt_step hB rfl ?_ | refine fnat_step hB ?_ | refine ifk_step hB rfl ?_ | refine ifk_step hB (flat_or rfl) ?_ | refine opt2_step hB rfl ?_ | refine obj_raw hB ?_ | refine sob_raw hB ?_ | refine fst_raw hB ?_ | refine optl_raw hB ?_ | refine tok_step hB rfl ?_) <;> conv => lhs; whnf)
  all_goals
    refine congrArg some (congrArg (·, []) (congrArg AV.bool ?_))
    have hday : dayB d b p = within (b.day - p.day) d.lo d.hi := rfl
    have hwt : weightB d b p = decide (¬ loI b.high p.weight < hiI b.low (p.weight - d.wear)) := by
      unfold weightB loI hiI
      rw [Bool.eq_iff_iff]
      simp only [Bool.and_eq_true, decide_eq_true_eq]
      split <;> split <;> omega
    unfold couldB
    rw [hday, hh]
  · rw [hwt]; simp [hlt]
  · rw [hwt, hseal, hsl]; simp [hlt]
  · rw [hseal, hsl]; simp
  · simp
end Go.Ab.Cl
