/-
  The claims: Wrong: the choices, one after the other.
-/
import Derived.Test.YthbekoofiienjaaDoorClF
import Derived.Test.YthbekoofiienjaaDoorClTa
import Derived.Test.YthbekoofiienjaaDoorClFa
import Derived.Test.YthbekoofiienjaaDoorClZ
namespace Go.Ab.Cl
open Go.Ab

def wtk : List Nat → Tok
  | [] => .nil
  | _ :: _ => .any
theorem wtk_pur (l : List Nat) : purTok (wtk l) = true := by cases l <;> rfl
def ftok : Tok → Tok
  | .nil => .nil
  | _ => .full
theorem ftok_or (t : Tok) : ftok t = .nil ∨ ftok t = .full := by cases t <;> simp [ftok]
theorem slice_pur {t : Tok} (l : List Int) : sliceAV 1 (.sl (rowsI l) t) none (some (.int .i64 (.ofNat l.length))) (some (.int .i64 (.ofNat l.length))) = some (.sl (rowsI l) (ftok t)) := by
  have h1 : headFit 1 (rowsI l) = true := by cases l <;> rfl
  have h : (0 : Int) ≤ (l.length : Int) := by omega
  have h3 : (rowsI l).length = l.length := by simp [rowsI]
  have h4 : List.take l.length (rowsI l) = rowsI l := List.take_of_length_le (by omega)
  cases t <;> simp [sliceAV, h1, bound, optBound, h, h3, h4, ftok]
theorem app_up {F : Fr} {os : List AObj} {T : List (Nat × Nat × Nat)} {s : St} {D p : Nat} (hD : D = s.length) {l : List Int} {t : Tok} (ht : t = .nil ∨ t = .full) (z : Int) (hl : l.length ≤ 1000) :
    appAt D (F :: ⟨os, T⟩ :: s) p 1 8 (.sl (rowsI l) t) (.sl [[.int .i64 z]] .full) = some (.sl (rowsI (l ++ [z])) (.site D p ((tokGet T p).1 + 1)), F :: ⟨os, tokSet T p ((tokGet T p).1 + 1, l.length + 1)⟩ :: s) := by
  have h1 : headFit 1 (rowsI l) = true := by cases l <;> rfl
  have h2 : (rowsI l).length = l.length := by simp [rowsI]
  have h3 : (l.length + 1) * 8 ≤ 140737488355328 := by omega
  have h4 : getTok (F :: ⟨os, T⟩ :: s) D p = tokGet T p := by
    rw [getTok_sub (by simp [hD])]
    simp [getTok, getFr, hD]
  have h5 : ∀ x, setTok (F :: ⟨os, T⟩ :: s) D p x = F :: ⟨os, tokSet T p x⟩ :: s := fun x => by
    rw [setTok_sub (by simp [hD])]
    simp [setTok, modFr, hD]
  have h6 : rowsI (l ++ [z]) = rowsI l ++ [[.int .i64 z]] := by simp [rowsI]
  have h7 : headFit 1 [[AV.int .i64 z]] = true := rfl
  rcases ht with rfl | rfl <;> simp [appAt, rowsAt, h1, h2, h3, h4, h5, h6, h7, purs, pur]

/-! ### boxes, of a frame below or none -/
def bflat (bs : List Box) : List AV := (bs.map Box.c).flatten
theorem bflat_len (bs : List Box) : (bflat bs).length = bs.length * 5 := by
  unfold bflat
  rw [flat_len5 (e := 5) _ box_len, List.length_map]
def IsBx (s : St) (v : AV) (bs : List Box) : Prop := (∃ t, purTok t = true ∧ v = .sl (bs.map Box.c) t) ∨ ∃ l i, v = .os l i 0 bs.length 5 ∧ l < s.length ∧ getObj s l i = some (.cells (bflat bs))
theorem IsBx.up {s : St} {v : AV} {bs : List Box} (h : IsBx s v bs) (f : Fr) : IsBx (f :: s) v bs := by
  rcases h with h | ⟨l, i, h1, h2, h3⟩
  · exact .inl h
  · exact .inr ⟨l, i, h1, by simp; omega, (getObj_sub h2).trans h3⟩
theorem rowsAt_bx {s : St} {v : AV} {bs : List Box} (hv : IsBx s v bs) : rowsAt s 5 v = some (bs.map Box.c) := by
  rcases hv with ⟨t, ht, rfl⟩ | ⟨l, i, rfl, h1, h2⟩
  · rfl
  · have h3 : bs.length * 5 ≤ (bflat bs).length := by rw [bflat_len]; exact Nat.le_refl _
    have h4 : purs ((bflat bs).take (bs.length * 5)) = true := by
      rw [List.take_of_length_le (by rw [bflat_len]; omega)]
      exact purs_flatten _ fun r hr => (box_pur r hr).2
    have h5 : rowsOf 5 bs.length (bflat bs) = bs.map Box.c := by
      have := rowsOf_flat (e := 5) (bs.map Box.c) box_len
      rwa [List.length_map] at this
    simp [rowsAt, h2, h3, h4, h5]
theorem appo_bx {s : St} {D : Nat} (hD : D = s.length) {f : Fr} {v : AV} {bs : List Box} (hv : IsBx (f :: s) v bs) (hne : bs ≠ []) (hl : bs.length ≤ 1000) : appoAt (f :: s) 5 48 (.sl [] .nil) v = some (.os D f.objs.length 0 bs.length 5, ⟨f.objs ++ [.cells (bflat bs)], f.toks⟩ :: s) := by
  subst hD
  obtain ⟨os, tk⟩ := f
  have h2 : bs.length * 48 ≤ 140737488355328 := by omega
  have h1 : headFit 5 (bs.map Box.c) = true := by cases bs <;> rfl
  simp [appoAt, rowsAt_bx hv, newObj, h1, h2, hne, show headFit 5 [] = true from rfl, bflat]
theorem bflat_drop {bs : List Box} {k : Nat} {b : Box} (hb : bs[k]? = some b) : (bflat bs).drop (Nat.add (Nat.add 0 (Nat.mul k 5)) 4) = .bool b.stamp :: (bflat bs).drop (k * 5 + 5) := by
  have hk : k < bs.length := (List.getElem?_eq_some_iff.1 hb).1
  have key : ∀ (bs : List Box) (k : Nat) (b : Box), bs[k]? = some b → (bflat bs)[k * 5 + 4]? = some (.bool b.stamp) := by
    intro bs
    induction bs with
    | nil => intro k b h; simp at h
    | cons c bs ih =>
      intro k b h
      have e : bflat (c :: bs) = Box.c c ++ bflat bs := rfl
      cases k with
      | zero =>
        have h : c = b := by simpa using h
        subst h; rfl
      | succ k =>
        have := ih k b (by simpa using h)
        rw [e, List.getElem?_append_right (by show 5 ≤ _; omega), show (k + 1) * 5 + 4 - (Box.c c).length = k * 5 + 4 by show (k + 1) * 5 + 4 - 5 = _; omega]
        exact this
  have h4 := key bs k b hb
  have hlt : k * 5 + 4 < (bflat bs).length := by rw [bflat_len]; omega
  rw [List.getElem?_eq_getElem hlt] at h4
  have e : Nat.add (Nat.add 0 (Nat.mul k 5)) 4 = k * 5 + 4 := by show 0 + k * 5 + 4 = _; omega
  rw [e, List.drop_eq_getElem_cons hlt, Option.some.inj h4]
theorem bflat_put {bs : List Box} {k : Nat} {b : Box} (hb : bs[k]? = some b) (c : Bool) : putAt (bflat bs) (Nat.add (Nat.add 0 (Nat.mul k 5)) 4) [.bool c] = bflat (bs.set k { b with stamp := c }) := by
  have e : Nat.add (Nat.add 0 (Nat.mul k 5)) 4 = k * 5 + 4 := by show 0 + k * 5 + 4 = _; omega
  unfold bflat
  rw [e, put_flat (by omega) _ _ k b.c box_len (by simp [hb]), List.map_set]
  rfl
theorem bflat_room {bs : List Box} {k : Nat} (hk : k < bs.length) : Nat.ble (Nat.add (Nat.add (Nat.add 0 (Nat.mul k 5)) 4) 1) (lenK (bflat bs)) = true := by
  rw [lenK_eq, bflat_len]
  exact Nat.ble_eq_true_of_le (by show 0 + k * 5 + 4 + 1 ≤ _; omega)
theorem uns_set {bs : List Box} {l : List Nat} {k : Nat} {b : Box} (hb : (unsB bs (inL l))[k]? = some b) : (unsB bs (inL l)).set k { b with stamp := false } = unsB bs (inL (l ++ [k])) := by
  refine List.ext_getElem? fun i => ?_
  rw [List.getElem?_set, unsB_get, unsB_get]
  rw [unsB_get] at hb
  by_cases hk : k = i
  · subst hk
    rw [if_pos rfl]
    obtain ⟨b0, h1, rfl⟩ := Option.map_eq_some_iff.1 hb
    have hlt : k < (unsB bs (inL l)).length := by rw [unsB_len]; exact (List.getElem?_eq_some_iff.1 h1).1
    rw [if_pos hlt, h1]
    simp [Box.uns, inL]
  · rw [if_neg hk]
    have : inL (l ++ [k]) i = inL l i := by
      unfold inL
      rw [decide_eq_decide, List.mem_append, List.mem_singleton]
      exact ⟨fun h => h.elim id fun h => absurd h.symm hk, .inl⟩
    rw [this]

def dcB (d : Desk) (v : AV) : List AV := [.int .i64 d.lo, .int .i64 d.hi, .int .i64 d.wear, .int .i64 d.strange, .sl (d.ps.map Parcel.c) d.tp, v]
def chooseFrom (d : Desk) (m j : Nat) (l : List Nat) : Option (List Nat) := (List.range' j (d.bs.length - j)).findSome? fun k => if stampB d k = true then chooseV d m (k + 1) (l ++ [k]) else none
theorem cf_end {d : Desk} {m j : Nat} {l : List Nat} (h : d.bs.length ≤ j) : chooseFrom d m j l = none := by
  unfold chooseFrom
  rw [Nat.sub_eq_zero_of_le h]; rfl
theorem cf_skip {d : Desk} {m j : Nat} {l : List Nat} (h : j < d.bs.length) (hs : stampB d j = false) : chooseFrom d m j l = chooseFrom d m (j + 1) l := by
  unfold chooseFrom
  rw [show d.bs.length - j = (d.bs.length - (j + 1)) + 1 by omega, List.range'_succ, List.findSome?_cons]
  simp [hs]
theorem cf_none {d : Desk} {m j : Nat} {l : List Nat} (h : j < d.bs.length) (hs : stampB d j = true) (hn : chooseV d m (j + 1) (l ++ [j]) = none) : chooseFrom d m j l = chooseFrom d m (j + 1) l := by
  unfold chooseFrom
  rw [show d.bs.length - j = (d.bs.length - (j + 1)) + 1 by omega, List.range'_succ, List.findSome?_cons]
  simp [hs, hn]
theorem cf_some {d : Desk} {m j : Nat} {l x : List Nat} (h : j < d.bs.length) (hs : stampB d j = true) (hn : chooseV d m (j + 1) (l ++ [j]) = some x) : chooseFrom d m j l = some x := by
  unfold chooseFrom
  rw [show d.bs.length - j = (d.bs.length - (j + 1)) + 1 by omega, List.range'_succ, List.findSome?_cons]
  simp [hs, hn]

set_option maxHeartbeats 4000000 in
theorem a78_L1_step {B : Bnd} (hB : B = Bk) {cl : CallK} {rd : RoundK} (d : Desk) (hd : d.ok) (hc : d.check = true) (m : Nat) (l : List Nat) (hlm : l.length + m ≤ 100) {tk : Tok} (htk : purTok tk = true) {zm : Int} (s : St) {D : Nat} (hD : D = s.length) (h0 : 0 < s.length)
    (hS : getObj s 0 1 = some (.cells [.fn 78 [] [.ptr 0 1 0]])) {v : AV} (hv : IsBx s v (unsB d.bs (inL l)))
    (HC : ∀ (k : Nat) (f f' : Fr) (v : AV) (kont : AV → St → Ans) (r : Ans), k < d.bs.length → (∀ x ∈ l, x < k) → IsBx (f :: f' :: s) v (unsB d.bs (inL (l ++ [k]))) →
      (∀ x, chooseV d m (k + 1) (l ++ [k]) = some x → kont (.tup [.sl (rowsI (nats x)) (wtk x), .bool true]) (f :: f' :: s) = r) →
      (chooseV d m (k + 1) (l ++ [k]) = none → ∀ x t, purTok t = true → kont (.tup [.sl (rowsI x) t, .bool false]) (f :: f' :: s) = r) →
      cl (D + 1 + 1) 78 [.agg (dcB d v), .int .i64 ((k : Int) + 1), .int .i64 zm, .sl (rowsI (nats l ++ [(k : Int)])) .any, .ptr 0 1 0] (f :: f' :: s) kont = r)
    (n : Nat) (k : Ex → Env → St → Ans) (r : Ans) :
    ∀ (j i0 : Nat) (T : List (Nat × Nat × Nat)), d.bs.length < i0 + j → i0 ≤ d.bs.length → (∀ x ∈ l, x < i0) →
    (chooseFrom d m i0 l = none → ∀ x T', k (.exit 0) [(2, .int .i64 zm), (3, .sl (rowsI (nats l)) tk), (4, .ptr 0 1 0), (5, .ptr D 0 0), (9, .sl [] .nil), (10, .bool false), (11, .int .i64 x)] (⟨[.cells (dcB d v)], T'⟩ :: s) = r) →
    (∀ x, chooseFrom d m i0 l = some x → ∀ e T', k .ret ((2, .int .i64 zm) :: (3, .sl (rowsI (nats l)) tk) :: (4, .ptr 0 1 0) :: (5, .ptr D 0 0) :: (9, .sl (rowsI (nats x)) (wtk x)) :: (10, .bool true) :: e) (⟨[.cells (dcB d v)], T'⟩ :: s) = r) →
    B.loop (evCK B a78_L1) [2, 3, 4, 5, 9, 10, 11] n j cl rd Gx D (D + 1) [(2, .int .i64 zm), (3, .sl (rowsI (nats l)) tk), (4, .ptr 0 1 0), (5, .ptr D 0 0), (9, .sl [] .nil), (10, .bool false), (11, .int .i64 (.ofNat i0))] (⟨[.cells (dcB d v)], T⟩ :: s) k = r := by
  intro j
  induction j with
  | zero => intro i0 T h1 h2; omega
  | succ j ih =>
    intro i0 T h1 h2 hlt k1 k2
    have hnb := (check_fine hc).nb
    have hl2 : ∀ (g g' : Fr), D + 1 + 1 = (g :: g' :: s : St).length := fun _ _ => by simp [hD]
    have hl0 : ∀ (g : Fr), D < (g :: s : St).length := fun _ => by simp [hD]
    have hl1 : ∀ (g : Fr), D + 1 = (g :: s : St).length := fun _ => by simp [hD]
    refine loop_succ hB ?_
    have hne : unsB d.bs (inL l) ≠ [] ∨ d.bs.length ≤ i0 := by
      by_cases h : i0 < d.bs.length
      · exact .inl fun e => by have := congrArg List.length e; rw [unsB_len] at this; have this : d.bs.length = 0 := this; omega
      · exact .inr (by omega)
    have hbox : ∀ h : i0 < d.bs.length, ∃ b, (unsB d.bs (inL l))[i0]? = some b ∧ stampB d i0 = b.stamp := fun h => by
      refine ⟨d.bs[i0], ?_, ?_⟩
      · rw [unsB_get, List.getElem?_eq_getElem h]
        have : inL l i0 = false := by
          unfold inL
          rw [decide_eq_false_iff_not]
          intro hm
          have := hlt i0 hm
          omega
        rw [this]
        simp [uns_same]
      · unfold stampB
        rw [List.getElem?_eq_getElem h]
    have hub : (unsB d.bs (inL l)).length ≤ 1000 := by rw [unsB_len]; omega
    have hv0 := hv
    rcases hv with ⟨tv, htv, rfl⟩ | ⟨lv, iv, rfl, hlv, hgv⟩
    · conv => lhs; whnf
      repeat' ((first | refine fnat_pred hB ?_ | refine tok_step hB htk ?_ | refine tok_step hB hd.tp ?_ | refine tok_step hB htv ?_ | refine len_map hB ?_ | refine obj_step hB (hl2 _ _) ((getObj_sub (hl0 _)).trans ((getObj_top hD).trans rfl)) ?_ | refine obj_step hB (hl2 _ _) ((getObj_top (hl1 _)).trans rfl) ?_ | refine sob_step hB (hl2 _ _) (setTop0 (hl1 _)) ?_ | refine natOf_step hB (m := i0) rfl ?_ | refine fbool_same hB (by omega) ?_ | refine fbool_other hB (by omega) ?_ | refine ifk_step hB (Nat.ble_eq_true_of_le (by omega)) ?_ | refine purs_step hB rfl ?_ | refine lt_tt hB (by decide) ?_ | refine lt_ff hB (by decide) ?_ | refine le_tt hB (by decide) ?_ | refine le_ff hB (by decide) ?_ | refine eq_tt hB (by decide) ?_ | refine eq_ff hB (by decide) ?_ | refine fint_wrp hB (by omega) (by omega) ?_ | refine fint_step hB ?_ | refine fbool_tt hB ?_ | refine fbool_ff hB ?_ | refine fbool_split hB (fun _ => ?_) (fun _ => ?_) | refine ftok_step hB ?_ | refine frows_step hB ?_ | refine fstr_step hB ?_ | refine len_map hB ?_ | refine len_step hB ?_ | refine lens_step hB ?_ | refine byte_step hB ?_ | refine drop_step hB rfl ?_ | refine fl_step hB rfl ?_ | refine add_one hB (by first | omega | decide) ?_ | refine opt_step hB rfl ?_ | refine fnat_step hB ?_ | refine ifk_step hB rfl ?_ | refine ifk_step hB (flat_or rfl) ?_ | refine opt2_step hB rfl ?_ | refine obj_raw hB ?_ | refine sob_raw hB ?_ | refine fst_raw hB ?_ | refine optl_raw hB ?_ | refine tok_step hB rfl ?_) <;> conv => lhs; whnf)
      refine lt_nat hB (fun h => ?_) (fun h => ?_) <;> rw [unsB_len] at h <;> conv => lhs; whnf
      · obtain ⟨b, hb, hsb⟩ := hbox h
        have hxb : ((unsB d.bs (inL l)).map Box.c)[i0]? = some b.c := by simp [hb]
        have hne := hne.resolve_right (by omega)
        have hroom : i0 + 1 ≤ (unsB d.bs (inL l)).length := by rw [unsB_len]; exact h
        rcases b with ⟨b1, b2, b3, b4, b5⟩
        cases b5
        · repeat' ((first | refine fnat_pred hB ?_ | refine tok_step hB htk ?_ | refine tok_step hB hd.tp ?_ | refine tok_step hB htv ?_ | refine nth_step hB hxb ?_ | refine len_map hB ?_ | refine ifk_step hB (Nat.ble_eq_true_of_le hroom) ?_ | refine obj_step hB (hl2 _ _) ((getObj_sub (hl0 _)).trans ((getObj_top hD).trans rfl)) ?_ | refine obj_step hB (hl2 _ _) ((getObj_top (hl1 _)).trans rfl) ?_ | refine sob_step hB (hl2 _ _) (setTop0 (hl1 _)) ?_ | refine natOf_step hB (m := i0) rfl ?_ | refine fbool_same hB (by omega) ?_ | refine fbool_other hB (by omega) ?_ | refine ifk_step hB (Nat.ble_eq_true_of_le (by omega)) ?_ | refine purs_step hB rfl ?_ | refine lt_tt hB (by decide) ?_ | refine lt_ff hB (by decide) ?_ | refine le_tt hB (by decide) ?_ | refine le_ff hB (by decide) ?_ | refine eq_tt hB (by decide) ?_ | refine eq_ff hB (by decide) ?_ | refine fint_wrp hB (by omega) (by omega) ?_ | refine fint_step hB ?_ | refine fbool_tt hB ?_ | refine fbool_ff hB ?_ | refine fbool_split hB (fun _ => ?_) (fun _ => ?_) | refine ftok_step hB ?_ | refine frows_step hB ?_ | refine fstr_step hB ?_ | refine len_map hB ?_ | refine len_step hB ?_ | refine lens_step hB ?_ | refine byte_step hB ?_ | refine drop_step hB rfl ?_ | refine fl_step hB rfl ?_ | refine add_one hB (by first | omega | decide) ?_ | refine opt_step hB rfl ?_ | refine fnat_step hB ?_ | refine ifk_step hB rfl ?_ | refine ifk_step hB (flat_or rfl) ?_ | refine opt2_step hB rfl ?_ | refine obj_raw hB ?_ | refine sob_raw hB ?_ | refine fst_raw hB ?_ | refine optl_raw hB ?_ | refine tok_step hB rfl ?_) <;> conv => lhs; whnf)
          rw [cf_skip h hsb] at k1
          simp only [cf_skip h hsb] at k2
          rw [clampTok_pur htk]
          exact ih (i0 + 1) T (by omega) (by omega) (fun x hx => by have := hlt x hx; omega) k1 k2
        · have hz1 : ∀ {g : Fr}, 0 < (g :: s : St).length := fun {_} => by simp
          have hnl : (nats l).length ≤ 1000 := by unfold nats; rw [List.length_map]; omega
          have hlen : AV.os (D + 1) 1 0 (unsB d.bs (inL l)).length 5 = AV.os (D + 1) 1 0 (unsB d.bs (inL (l ++ [i0]))).length 5 := by rw [unsB_len, unsB_len]
          have hlt2 : ∀ (g g' : Fr), D + 1 < (g :: g' :: s : St).length := fun _ _ => by simp [hD]
          repeat' ((first | refine fnat_pred hB ?_ | refine tok_step hB htk ?_ | refine tok_step hB hd.tp ?_ | refine tok_step hB htv ?_ | refine nth_step hB hxb ?_ | refine len_map hB ?_ | refine ifk_step hB (Nat.ble_eq_true_of_le hroom) ?_ | refine obj_step hB (hl2 _ _) ((getObj_sub (hl0 _)).trans ((getObj_top hD).trans rfl)) ?_ | refine obj_step hB (hl2 _ _) ((getObj_top (hl1 _)).trans rfl) ?_ | refine sob_step hB (hl2 _ _) (setTop0 (hl1 _)) ?_ | refine natOf_step hB (m := i0) rfl ?_ | refine fbool_same hB (by omega) ?_ | refine fbool_other hB (by omega) ?_ | refine ifk_step hB (Nat.ble_eq_true_of_le (by omega)) ?_ | refine appo_step hB (appo_bx (hl1 _) ((hv0.up _).up _) hne hub) ?_ | refine ifk_step hB (bflat_room hroom) ?_ | refine fl_step hB ((bflat_put hb false).trans (congrArg bflat (uns_set hb))) ?_ | refine sob_step hB (hl2 _ _) (setTop1 (hl1 _)) ?_ | refine obj_step hB (hl2 _ _) ((getObj_sub hz1).trans ((getObj_sub h0).trans hS)) ?_ | refine add_step hB (by simp only [Int.ofNat_eq_natCast]; omega) (by simp only [Int.ofNat_eq_natCast]; omega) ?_ | refine opt_step hB (slice_pur (nats l)) ?_ | refine opt2_step hB (app_up hD (ftok_or tk) (i0 : Int) hnl) ?_ | refine fst_step hB rfl ?_ | refine tok_step hB (wtk_pur _) ?_ | refine tokE_step hB ?_ | refine HC i0 _ _ _ _ _ h hlt (.inr ⟨D + 1, 1, hlen, hlt2 _ _, (getObj_top (hl1 _)).trans rfl⟩) (fun x e => ?_) (fun e x t ht => ?_) | refine purs_step hB rfl ?_ | refine lt_tt hB (by decide) ?_ | refine lt_ff hB (by decide) ?_ | refine le_tt hB (by decide) ?_ | refine le_ff hB (by decide) ?_ | refine eq_tt hB (by decide) ?_ | refine eq_ff hB (by decide) ?_ | refine fint_wrp hB (by omega) (by omega) ?_ | refine fint_step hB ?_ | refine fbool_tt hB ?_ | refine fbool_ff hB ?_ | refine fbool_split hB (fun _ => ?_) (fun _ => ?_) | refine ftok_step hB ?_ | refine frows_step hB ?_ | refine fstr_step hB ?_ | refine len_map hB ?_ | refine len_step hB ?_ | refine lens_step hB ?_ | refine byte_step hB ?_ | refine drop_step hB rfl ?_ | refine fl_step hB rfl ?_ | refine add_one hB (by first | omega | decide) ?_ | refine opt_step hB rfl ?_ | refine fnat_step hB ?_ | refine ifk_step hB rfl ?_ | refine ifk_step hB (flat_or rfl) ?_ | refine opt2_step hB rfl ?_ | refine obj_raw hB ?_ | refine sob_raw hB ?_ | refine fst_raw hB ?_ | refine optl_raw hB ?_ | refine tok_step hB rfl ?_) <;> conv => lhs; whnf)
          · rw [clampTok_pur htk, clampTok_pur (wtk_pur x)]
            exact k2 x (cf_some h hsb e) _ _
          · rw [cf_none h hsb e] at k1
            simp only [cf_none h hsb e] at k2
            rw [clampTok_pur htk]
            exact ih (i0 + 1) _ (by omega) (by omega) (fun x hx => by have := hlt x hx; omega) k1 k2
      · repeat' ((first | refine fnat_pred hB ?_ | refine tok_step hB htk ?_ | refine tok_step hB hd.tp ?_ | refine tok_step hB htv ?_ | refine len_map hB ?_ | refine obj_step hB (hl2 _ _) ((getObj_sub (hl0 _)).trans ((getObj_top hD).trans rfl)) ?_ | refine obj_step hB (hl2 _ _) ((getObj_top (hl1 _)).trans rfl) ?_ | refine sob_step hB (hl2 _ _) (setTop0 (hl1 _)) ?_ | refine natOf_step hB (m := i0) rfl ?_ | refine fbool_same hB (by omega) ?_ | refine fbool_other hB (by omega) ?_ | refine ifk_step hB (Nat.ble_eq_true_of_le (by omega)) ?_ | refine purs_step hB rfl ?_ | refine lt_tt hB (by decide) ?_ | refine lt_ff hB (by decide) ?_ | refine le_tt hB (by decide) ?_ | refine le_ff hB (by decide) ?_ | refine eq_tt hB (by decide) ?_ | refine eq_ff hB (by decide) ?_ | refine fint_wrp hB (by omega) (by omega) ?_ | refine fint_step hB ?_ | refine fbool_tt hB ?_ | refine fbool_ff hB ?_ | refine fbool_split hB (fun _ => ?_) (fun _ => ?_) | refine ftok_step hB ?_ | refine frows_step hB ?_ | refine fstr_step hB ?_ | refine len_map hB ?_ | refine len_step hB ?_ | refine lens_step hB ?_ | refine byte_step hB ?_ | refine drop_step hB rfl ?_ | refine fl_step hB rfl ?_ | refine add_one hB (by first | omega | decide) ?_ | refine opt_step hB rfl ?_ | refine fnat_step hB ?_ | refine ifk_step hB rfl ?_ | refine ifk_step hB (flat_or rfl) ?_ | refine opt2_step hB rfl ?_ | refine obj_raw hB ?_ | refine sob_raw hB ?_ | refine fst_raw hB ?_ | refine optl_raw hB ?_ | refine tok_step hB rfl ?_) <;> conv => lhs; whnf)
        rw [clampTok_pur htk]
        exact k1 (cf_end (by omega)) _ _
    · have hlv1 : ∀ (g : Fr), lv < (g :: s : St).length := fun _ => by simp; omega
      conv => lhs; whnf
      repeat' ((first | refine fnat_pred hB ?_ | refine tok_step hB htk ?_ | refine tok_step hB hd.tp ?_ | refine fnat_step hB ?_ | refine obj_step hB (hl2 _ _) ((getObj_sub (hl0 _)).trans ((getObj_top hD).trans rfl)) ?_ | refine obj_step hB (hl2 _ _) ((getObj_top (hl1 _)).trans rfl) ?_ | refine sob_step hB (hl2 _ _) (setTop0 (hl1 _)) ?_ | refine natOf_step hB (m := i0) rfl ?_ | refine fbool_same hB (by omega) ?_ | refine fbool_other hB (by omega) ?_ | refine ifk_step hB (Nat.ble_eq_true_of_le (by omega)) ?_ | refine purs_step hB rfl ?_ | refine lt_tt hB (by decide) ?_ | refine lt_ff hB (by decide) ?_ | refine le_tt hB (by decide) ?_ | refine le_ff hB (by decide) ?_ | refine eq_tt hB (by decide) ?_ | refine eq_ff hB (by decide) ?_ | refine fint_wrp hB (by omega) (by omega) ?_ | refine fint_step hB ?_ | refine fbool_tt hB ?_ | refine fbool_ff hB ?_ | refine fbool_split hB (fun _ => ?_) (fun _ => ?_) | refine ftok_step hB ?_ | refine frows_step hB ?_ | refine fstr_step hB ?_ | refine len_map hB ?_ | refine len_step hB ?_ | refine lens_step hB ?_ | refine byte_step hB ?_ | refine drop_step hB rfl ?_ | refine fl_step hB rfl ?_ | refine add_one hB (by first | omega | decide) ?_ | refine opt_step hB rfl ?_ | refine fnat_step hB ?_ | refine ifk_step hB rfl ?_ | refine ifk_step hB (flat_or rfl) ?_ | refine opt2_step hB rfl ?_ | refine obj_raw hB ?_ | refine sob_raw hB ?_ | refine fst_raw hB ?_ | refine optl_raw hB ?_ | refine tok_step hB rfl ?_) <;> conv => lhs; whnf)
      refine lt_nat hB (fun h => ?_) (fun h => ?_) <;> rw [unsB_len] at h <;> conv => lhs; whnf
      · obtain ⟨b, hb, hsb⟩ := hbox h
        have hxb : ((unsB d.bs (inL l)).map Box.c)[i0]? = some b.c := by simp [hb]
        have hne := hne.resolve_right (by omega)
        have hroom : i0 + 1 ≤ (unsB d.bs (inL l)).length := by rw [unsB_len]; exact h
        rcases b with ⟨b1, b2, b3, b4, b5⟩
        cases b5
        · repeat' ((first | refine fnat_pred hB ?_ | refine tok_step hB htk ?_ | refine tok_step hB hd.tp ?_ | refine obj_step hB (hl2 _ _) ((getObj_sub (hlv1 _)).trans ((getObj_sub hlv).trans hgv)) ?_ | refine drop_step hB (bflat_drop hb) ?_ | refine ifk_step hB (Nat.ble_eq_true_of_le hroom) ?_ | refine obj_step hB (hl2 _ _) ((getObj_sub (hl0 _)).trans ((getObj_top hD).trans rfl)) ?_ | refine obj_step hB (hl2 _ _) ((getObj_top (hl1 _)).trans rfl) ?_ | refine sob_step hB (hl2 _ _) (setTop0 (hl1 _)) ?_ | refine natOf_step hB (m := i0) rfl ?_ | refine fbool_same hB (by omega) ?_ | refine fbool_other hB (by omega) ?_ | refine ifk_step hB (Nat.ble_eq_true_of_le (by omega)) ?_ | refine purs_step hB rfl ?_ | refine lt_tt hB (by decide) ?_ | refine lt_ff hB (by decide) ?_ | refine le_tt hB (by decide) ?_ | refine le_ff hB (by decide) ?_ | refine eq_tt hB (by decide) ?_ | refine eq_ff hB (by decide) ?_ | refine fint_wrp hB (by omega) (by omega) ?_ | refine fint_step hB ?_ | refine fbool_tt hB ?_ | refine fbool_ff hB ?_ | refine fbool_split hB (fun _ => ?_) (fun _ => ?_) | refine ftok_step hB ?_ | refine frows_step hB ?_ | refine fstr_step hB ?_ | refine len_map hB ?_ | refine len_step hB ?_ | refine lens_step hB ?_ | refine byte_step hB ?_ | refine drop_step hB rfl ?_ | refine fl_step hB rfl ?_ | refine add_one hB (by first | omega | decide) ?_ | refine opt_step hB rfl ?_ | refine fnat_step hB ?_ | refine ifk_step hB rfl ?_ | refine ifk_step hB (flat_or rfl) ?_ | refine opt2_step hB rfl ?_ | refine obj_raw hB ?_ | refine sob_raw hB ?_ | refine fst_raw hB ?_ | refine optl_raw hB ?_ | refine tok_step hB rfl ?_) <;> conv => lhs; whnf)
          rw [cf_skip h hsb] at k1
          simp only [cf_skip h hsb] at k2
          rw [clampTok_pur htk]
          exact ih (i0 + 1) T (by omega) (by omega) (fun x hx => by have := hlt x hx; omega) k1 k2
        · have hz1 : ∀ {g : Fr}, 0 < (g :: s : St).length := fun {_} => by simp
          have hnl : (nats l).length ≤ 1000 := by unfold nats; rw [List.length_map]; omega
          have hlen : AV.os (D + 1) 1 0 (unsB d.bs (inL l)).length 5 = AV.os (D + 1) 1 0 (unsB d.bs (inL (l ++ [i0]))).length 5 := by rw [unsB_len, unsB_len]
          have hlt2 : ∀ (g g' : Fr), D + 1 < (g :: g' :: s : St).length := fun _ _ => by simp [hD]
          repeat' ((first | refine fnat_pred hB ?_ | refine tok_step hB htk ?_ | refine tok_step hB hd.tp ?_ | refine obj_step hB (hl2 _ _) ((getObj_sub (hlv1 _)).trans ((getObj_sub hlv).trans hgv)) ?_ | refine drop_step hB (bflat_drop hb) ?_ | refine ifk_step hB (Nat.ble_eq_true_of_le hroom) ?_ | refine obj_step hB (hl2 _ _) ((getObj_sub (hl0 _)).trans ((getObj_top hD).trans rfl)) ?_ | refine obj_step hB (hl2 _ _) ((getObj_top (hl1 _)).trans rfl) ?_ | refine sob_step hB (hl2 _ _) (setTop0 (hl1 _)) ?_ | refine natOf_step hB (m := i0) rfl ?_ | refine fbool_same hB (by omega) ?_ | refine fbool_other hB (by omega) ?_ | refine ifk_step hB (Nat.ble_eq_true_of_le (by omega)) ?_ | refine appo_step hB (appo_bx (hl1 _) ((hv0.up _).up _) hne hub) ?_ | refine ifk_step hB (bflat_room hroom) ?_ | refine fl_step hB ((bflat_put hb false).trans (congrArg bflat (uns_set hb))) ?_ | refine sob_step hB (hl2 _ _) (setTop1 (hl1 _)) ?_ | refine obj_step hB (hl2 _ _) ((getObj_sub hz1).trans ((getObj_sub h0).trans hS)) ?_ | refine add_step hB (by simp only [Int.ofNat_eq_natCast]; omega) (by simp only [Int.ofNat_eq_natCast]; omega) ?_ | refine opt_step hB (slice_pur (nats l)) ?_ | refine opt2_step hB (app_up hD (ftok_or tk) (i0 : Int) hnl) ?_ | refine fst_step hB rfl ?_ | refine tok_step hB (wtk_pur _) ?_ | refine tokE_step hB ?_ | refine HC i0 _ _ _ _ _ h hlt (.inr ⟨D + 1, 1, hlen, hlt2 _ _, (getObj_top (hl1 _)).trans rfl⟩) (fun x e => ?_) (fun e x t ht => ?_) | refine purs_step hB rfl ?_ | refine lt_tt hB (by decide) ?_ | refine lt_ff hB (by decide) ?_ | refine le_tt hB (by decide) ?_ | refine le_ff hB (by decide) ?_ | refine eq_tt hB (by decide) ?_ | refine eq_ff hB (by decide) ?_ | refine fint_wrp hB (by omega) (by omega) ?_ | refine fint_step hB ?_ | refine fbool_tt hB ?_ | refine fbool_ff hB ?_ | refine fbool_split hB (fun _ => ?_) (fun _ => ?_) | refine ftok_step hB ?_ | refine frows_step hB ?_ | refine fstr_step hB ?_ | refine len_map hB ?_ | refine len_step hB ?_ | refine lens_step hB ?_ | refine byte_step hB ?_ | refine drop_step hB rfl ?_ | refine fl_step hB rfl ?_ | refine add_one hB (by first | omega | decide) ?_ | refine opt_step hB rfl ?_ | refine fnat_step hB ?_ | refine ifk_step hB rfl ?_ | refine ifk_step hB (flat_or rfl) ?_ | refine opt2_step hB rfl ?_ | refine obj_raw hB ?_ | refine sob_raw hB ?_ | refine fst_raw hB ?_ | refine optl_raw hB ?_ | refine tok_step hB rfl ?_) <;> conv => lhs; whnf)
          · rw [clampTok_pur htk, clampTok_pur (wtk_pur x)]
            exact k2 x (cf_some h hsb e) _ _
          · rw [cf_none h hsb e] at k1
            simp only [cf_none h hsb e] at k2
            rw [clampTok_pur htk]
            exact ih (i0 + 1) _ (by omega) (by omega) (fun x hx => by have := hlt x hx; omega) k1 k2
      · repeat' ((first | refine fnat_pred hB ?_ | refine tok_step hB htk ?_ | refine tok_step hB hd.tp ?_ | refine fnat_step hB ?_ | refine obj_step hB (hl2 _ _) ((getObj_sub (hl0 _)).trans ((getObj_top hD).trans rfl)) ?_ | refine obj_step hB (hl2 _ _) ((getObj_top (hl1 _)).trans rfl) ?_ | refine sob_step hB (hl2 _ _) (setTop0 (hl1 _)) ?_ | refine natOf_step hB (m := i0) rfl ?_ | refine fbool_same hB (by omega) ?_ | refine fbool_other hB (by omega) ?_ | refine ifk_step hB (Nat.ble_eq_true_of_le (by omega)) ?_ | refine purs_step hB rfl ?_ | refine lt_tt hB (by decide) ?_ | refine lt_ff hB (by decide) ?_ | refine le_tt hB (by decide) ?_ | refine le_ff hB (by decide) ?_ | refine eq_tt hB (by decide) ?_ | refine eq_ff hB (by decide) ?_ | refine fint_wrp hB (by omega) (by omega) ?_ | refine fint_step hB ?_ | refine fbool_tt hB ?_ | refine fbool_ff hB ?_ | refine fbool_split hB (fun _ => ?_) (fun _ => ?_) | refine ftok_step hB ?_ | refine frows_step hB ?_ | refine fstr_step hB ?_ | refine len_map hB ?_ | refine len_step hB ?_ | refine lens_step hB ?_ | refine byte_step hB ?_ | refine drop_step hB rfl ?_ | refine fl_step hB rfl ?_ | refine add_one hB (by first | omega | decide) ?_ | refine opt_step hB rfl ?_ | refine fnat_step hB ?_ | refine ifk_step hB rfl ?_ | refine ifk_step hB (flat_or rfl) ?_ | refine opt2_step hB rfl ?_ | refine obj_raw hB ?_ | refine sob_raw hB ?_ | refine fst_raw hB ?_ | refine optl_raw hB ?_ | refine tok_step hB rfl ?_) <;> conv => lhs; whnf)
        rw [clampTok_pur htk]
        exact k1 (cf_end (by omega)) _ _
end Go.Ab.Cl

namespace Go.Ab.Cl
open Go.Ab

set_option maxHeartbeats 4000000 in
theorem choose_ev {d : Desk} (hd : d.ok) (hc : d.check = true) : ∀ (m : Nat) {n : Nat}, 1000000000000400 + 4 * m ≤ n → ∀ (j : Nat) (l : List Nat), (∀ x ∈ l, x < j) → l.length + m ≤ 100 → j ≤ d.bs.length →
    ∀ (s : St) {D : Nat} (_ : D = s.length) (_ : 0 < s.length) (_ : getObj s 0 1 = some (.cells [.fn 78 [] [.ptr 0 1 0]])) {v : AV} (_ : IsBx s v (unsB d.bs (inL l))) {tk : Tok} (_ : tk = wtk l) {zj zm : Int} (_ : zj = (j : Int)) (_ : zm = ((l.length + m : Nat) : Int)) (kont : AV → St → Ans) (r : Ans)
    (_ : ∀ x, chooseV d m j l = some x → kont (.tup [.sl (rowsI (nats x)) (wtk x), .bool true]) s = r)
    (_ : chooseV d m j l = none → ∀ x t, purTok t = true → kont (.tup [.sl (rowsI x) t, .bool false]) s = r),
    (evKR Bk Gx fsT n).1 D 78 [.agg (dcB d v), .int .i64 zj, .int .i64 zm, .sl (rowsI (nats l)) tk, .ptr 0 1 0] s kont = r := by
  intro m
  induction m with
  | zero =>
    intro n hn j l hlj hl100 hj s D hD h0 hS v hv tk htk0 zj zm hzj hzm kont r K K0
    have htk : purTok tk = true := by rw [htk0]; exact wtk_pur l
    refine call_open (show fsT.find 78 = some a78 from rfl) (by omega) fun n' B cl rd hn' hB hcl hrd => ?_
    have hl1 : ∀ (g : Fr), D + 1 = (g :: s : St).length := fun _ => by simp [hD]
    have H75 : ∀ tb, purTok tb = true → (evKR Bk Gx fsT n').1 0 75 [(unS d (inL l) tb).v] [] ansK = some (.bool (tW d (inL l)), []) := fun tb htb => by
      rw [← tW_tok hc (inL l) tb]
      exact true_ev (n := n') (by omega) (unS d (inL l) tb) (unS_ok hd htb) (by rw [unS_check]; exact hc)
    rw [← hcl] at H75
    have heq : (Int.ofNat (nats l).length) = zm := by
      rw [hzm]; unfold nats; rw [List.length_map]; rfl
    have e0 : chooseV d 0 j l = if tW d (inL l) = true then some l else none := rfl
    rw [e0] at K K0
    have hv0 := hv
    have hbl : (unsB d.bs (inL l)).length = ((unsB d.bs (inL l)).map Box.c).length := by simp
    rcases hv with ⟨tv, htv, rfl⟩ | ⟨lv, iv, rfl, hlv, hgv⟩
    · conv => lhs; whnf
      repeat' ((first | refine fnat_pred hB ?_ | refine tok_step hB htk ?_ | refine tok_step hB hd.tp ?_ | refine tok_step hB htv ?_ | refine obj_step hB (hl1 _) ((getObj_top hD).trans rfl) ?_ | refine len_map hB ?_ | refine eq_tt hB heq ?_ | refine purs_step hB (by simp [purs, pur, hd.tp, htv]) ?_ | refine pans_step hB (H75 tv htv) ?_ | refine purs_step hB rfl ?_ | refine lt_tt hB (by decide) ?_ | refine lt_ff hB (by decide) ?_ | refine le_tt hB (by decide) ?_ | refine le_ff hB (by decide) ?_ | refine eq_tt hB (by decide) ?_ | refine eq_ff hB (by decide) ?_ | refine fint_wrp hB (by omega) (by omega) ?_ | refine fint_step hB ?_ | refine fbool_tt hB ?_ | refine fbool_ff hB ?_ | refine fbool_split hB (fun _ => ?_) (fun _ => ?_) | refine ftok_step hB ?_ | refine frows_step hB ?_ | refine fstr_step hB ?_ | refine len_map hB ?_ | refine len_step hB ?_ | refine lens_step hB ?_ | refine byte_step hB ?_ | refine drop_step hB rfl ?_ | refine fl_step hB rfl ?_ | refine add_one hB (by first | omega | decide) ?_ | refine opt_step hB rfl ?_ | refine fnat_step hB ?_ | refine ifk_step hB rfl ?_ | refine ifk_step hB (flat_or rfl) ?_ | refine opt2_step hB rfl ?_ | refine obj_raw hB ?_ | refine sob_raw hB ?_ | refine fst_raw hB ?_ | refine optl_raw hB ?_ | refine tok_step hB rfl ?_) <;> conv => lhs; whnf)
      all_goals
        cases ht : tW d (inL l)
        · rw [ht, if_neg (by decide)] at K0
          exact K0 rfl (nats l) tk htk
        · rw [ht, if_pos rfl] at K
          rw [htk0]
          exact K l rfl
    · conv => lhs; whnf
      repeat' ((first | refine fnat_pred hB ?_ | refine tok_step hB htk ?_ | refine tok_step hB hd.tp ?_ | refine osh_step hB (hand_os_ok (rows := (unsB d.bs (inL l)).map Box.c) hbl ((getObj_sub hlv).trans hgv) (by omega) box_pur) ?_ | refine obj_step hB (hl1 _) ((getObj_top hD).trans rfl) ?_ | refine len_map hB ?_ | refine eq_tt hB heq ?_ | refine purs_step hB (by simp [purs, pur, hd.tp, show purTok .any = true from rfl]) ?_ | refine pans_step hB (H75 .any rfl) ?_ | refine purs_step hB rfl ?_ | refine lt_tt hB (by decide) ?_ | refine lt_ff hB (by decide) ?_ | refine le_tt hB (by decide) ?_ | refine le_ff hB (by decide) ?_ | refine eq_tt hB (by decide) ?_ | refine eq_ff hB (by decide) ?_ | refine fint_wrp hB (by omega) (by omega) ?_ | refine fint_step hB ?_ | refine fbool_tt hB ?_ | refine fbool_ff hB ?_ | refine fbool_split hB (fun _ => ?_) (fun _ => ?_) | refine ftok_step hB ?_ | refine frows_step hB ?_ | refine fstr_step hB ?_ | refine len_map hB ?_ | refine len_step hB ?_ | refine lens_step hB ?_ | refine byte_step hB ?_ | refine drop_step hB rfl ?_ | refine fl_step hB rfl ?_ | refine add_one hB (by first | omega | decide) ?_ | refine opt_step hB rfl ?_ | refine fnat_step hB ?_ | refine ifk_step hB rfl ?_ | refine ifk_step hB (flat_or rfl) ?_ | refine opt2_step hB rfl ?_ | refine obj_raw hB ?_ | refine sob_raw hB ?_ | refine fst_raw hB ?_ | refine optl_raw hB ?_ | refine tok_step hB rfl ?_) <;> conv => lhs; whnf)
      all_goals
        cases ht : tW d (inL l)
        · rw [ht, if_neg (by decide)] at K0
          exact K0 rfl (nats l) tk htk
        · rw [ht, if_pos rfl] at K
          rw [htk0]
          exact K l rfl
  | succ m ih =>
    intro n hn j l hlj hl100 hj s D hD h0 hS v hv tk htk0 zj zm hzj hzm kont r K K0
    have htk : purTok tk = true := by rw [htk0]; exact wtk_pur l
    refine call_open (show fsT.find 78 = some a78 from rfl) (by omega) fun n' B cl rd hn' hB hcl hrd => ?_
    have hl1 : ∀ (g : Fr), D + 1 = (g :: s : St).length := fun _ => by simp [hD]
    have hnb := (check_fine hc).nb
    have hne : ¬ (Int.ofNat (nats l).length) = zm := by
      rw [hzm]; unfold nats; rw [List.length_map]
      simp only [Int.ofNat_eq_natCast]; omega
    have HC : ∀ (k : Nat) (f f' : Fr) (v : AV) (kont : AV → St → Ans) (r : Ans), k < d.bs.length → (∀ x ∈ l, x < k) → IsBx (f :: f' :: s) v (unsB d.bs (inL (l ++ [k]))) →
        (∀ x, chooseV d m (k + 1) (l ++ [k]) = some x → kont (.tup [.sl (rowsI (nats x)) (wtk x), .bool true]) (f :: f' :: s) = r) →
        (chooseV d m (k + 1) (l ++ [k]) = none → ∀ x t, purTok t = true → kont (.tup [.sl (rowsI x) t, .bool false]) (f :: f' :: s) = r) →
        (evKR Bk Gx fsT n').1 (D + 1 + 1) 78 [.agg (dcB d v), .int .i64 ((k : Int) + 1), .int .i64 zm, .sl (rowsI (nats l ++ [(k : Int)])) .any, .ptr 0 1 0] (f :: f' :: s) kont = r := by
      intro k f f' v kont r hk hlk hv K K0
      have e : nats l ++ [(k : Int)] = nats (l ++ [k]) := by simp [nats]
      rw [e]
      refine ih (by omega) (k + 1) (l ++ [k]) (fun x hx => ?_) (by simp; omega) (by omega) (f :: f' :: s) (by simp [hD]) (by simp) ((getObj_sub (by simp)).trans ((getObj_sub h0).trans hS)) hv (tk := .any) (by cases l <;> rfl) (by simp) (by rw [hzm]; simp; omega) kont r K K0
      rcases List.mem_append.1 hx with hx | hx
      · have := hlk x hx; omega
      · simp at hx; omega
    rw [← hcl] at HC
    have e0 : chooseV d (m + 1) j l = chooseFrom d m j l := rfl
    rw [e0] at K K0
    subst hzj
    have hv0 := hv
    rcases hv with ⟨tv, htv, rfl⟩ | ⟨lv, iv, rfl, hlv, hgv⟩
    · conv => lhs; whnf
      repeat' ((first | refine fnat_pred hB ?_ | refine tok_step hB htk ?_ | refine tok_step hB hd.tp ?_ | refine tok_step hB htv ?_ | refine obj_step hB (hl1 _) ((getObj_top hD).trans rfl) ?_ | refine len_map hB ?_ | refine eq_ff hB hne ?_ | refine ifk_step hB (Nat.ble_eq_true_of_le (Nat.le_refl _)) ?_ | refine a78_L1_step hB d hd hc m l (by omega) (purTok_clamp htk) s hD h0 hS hv0 HC _ _ _ _ j _ (by omega) hj hlj (fun e x T => ?_) (fun x e en T => ?_) | refine purs_step hB rfl ?_ | refine lt_tt hB (by decide) ?_ | refine lt_ff hB (by decide) ?_ | refine le_tt hB (by decide) ?_ | refine le_ff hB (by decide) ?_ | refine eq_tt hB (by decide) ?_ | refine eq_ff hB (by decide) ?_ | refine fint_wrp hB (by omega) (by omega) ?_ | refine fint_step hB ?_ | refine fbool_tt hB ?_ | refine fbool_ff hB ?_ | refine fbool_split hB (fun _ => ?_) (fun _ => ?_) | refine ftok_step hB ?_ | refine frows_step hB ?_ | refine fstr_step hB ?_ | refine len_map hB ?_ | refine len_step hB ?_ | refine lens_step hB ?_ | refine byte_step hB ?_ | refine drop_step hB rfl ?_ | refine fl_step hB rfl ?_ | refine add_one hB (by first | omega | decide) ?_ | refine opt_step hB rfl ?_ | refine fnat_step hB ?_ | refine ifk_step hB rfl ?_ | refine ifk_step hB (flat_or rfl) ?_ | refine opt2_step hB rfl ?_ | refine obj_raw hB ?_ | refine sob_raw hB ?_ | refine fst_raw hB ?_ | refine optl_raw hB ?_ | refine tok_step hB rfl ?_) <;> conv => lhs; whnf)
      · exact K0 e [] .nil rfl
      · conv => lhs; whnf
        repeat' ((first | refine tok_step hB (wtk_pur x) ?_ | refine purs_step hB rfl ?_ | refine lt_tt hB (by decide) ?_ | refine lt_ff hB (by decide) ?_ | refine le_tt hB (by decide) ?_ | refine le_ff hB (by decide) ?_ | refine eq_tt hB (by decide) ?_ | refine eq_ff hB (by decide) ?_ | refine fint_wrp hB (by omega) (by omega) ?_ | refine fint_step hB ?_ | refine fbool_tt hB ?_ | refine fbool_ff hB ?_ | refine fbool_split hB (fun _ => ?_) (fun _ => ?_) | refine ftok_step hB ?_ | refine frows_step hB ?_ | refine fstr_step hB ?_ | refine len_map hB ?_ | refine len_step hB ?_ | refine lens_step hB ?_ | refine byte_step hB ?_ | refine drop_step hB rfl ?_ | refine fl_step hB rfl ?_ | refine add_one hB (by first | omega | decide) ?_ | refine opt_step hB rfl ?_ | refine fnat_step hB ?_ | refine ifk_step hB rfl ?_ | refine ifk_step hB (flat_or rfl) ?_ | refine opt2_step hB rfl ?_ | refine obj_raw hB ?_ | refine sob_raw hB ?_ | refine fst_raw hB ?_ | refine optl_raw hB ?_ | refine tok_step hB rfl ?_) <;> conv => lhs; whnf)
        exact K x e
    · conv => lhs; whnf
      repeat' ((first | refine fnat_pred hB ?_ | refine tok_step hB htk ?_ | refine tok_step hB hd.tp ?_ | refine fnat_step hB ?_ | refine obj_step hB (hl1 _) ((getObj_top hD).trans rfl) ?_ | refine len_map hB ?_ | refine eq_ff hB hne ?_ | refine ifk_step hB (Nat.ble_eq_true_of_le (Nat.le_refl _)) ?_ | refine a78_L1_step hB d hd hc m l (by omega) (purTok_clamp htk) s hD h0 hS hv0 HC _ _ _ _ j _ (by omega) hj hlj (fun e x T => ?_) (fun x e en T => ?_) | refine purs_step hB rfl ?_ | refine lt_tt hB (by decide) ?_ | refine lt_ff hB (by decide) ?_ | refine le_tt hB (by decide) ?_ | refine le_ff hB (by decide) ?_ | refine eq_tt hB (by decide) ?_ | refine eq_ff hB (by decide) ?_ | refine fint_wrp hB (by omega) (by omega) ?_ | refine fint_step hB ?_ | refine fbool_tt hB ?_ | refine fbool_ff hB ?_ | refine fbool_split hB (fun _ => ?_) (fun _ => ?_) | refine ftok_step hB ?_ | refine frows_step hB ?_ | refine fstr_step hB ?_ | refine len_map hB ?_ | refine len_step hB ?_ | refine lens_step hB ?_ | refine byte_step hB ?_ | refine drop_step hB rfl ?_ | refine fl_step hB rfl ?_ | refine add_one hB (by first | omega | decide) ?_ | refine opt_step hB rfl ?_ | refine fnat_step hB ?_ | refine ifk_step hB rfl ?_ | refine ifk_step hB (flat_or rfl) ?_ | refine opt2_step hB rfl ?_ | refine obj_raw hB ?_ | refine sob_raw hB ?_ | refine fst_raw hB ?_ | refine optl_raw hB ?_ | refine tok_step hB rfl ?_) <;> conv => lhs; whnf)
      · exact K0 e [] .nil rfl
      · conv => lhs; whnf
        repeat' ((first | refine tok_step hB (wtk_pur x) ?_ | refine purs_step hB rfl ?_ | refine lt_tt hB (by decide) ?_ | refine lt_ff hB (by decide) ?_ | refine le_tt hB (by decide) ?_ | refine le_ff hB (by decide) ?_ | refine eq_tt hB (by decide) ?_ | refine eq_ff hB (by decide) ?_ | refine fint_wrp hB (by omega) (by omega) ?_ | refine fint_step hB ?_ | refine fbool_tt hB ?_ | refine fbool_ff hB ?_ | refine fbool_split hB (fun _ => ?_) (fun _ => ?_) | refine ftok_step hB ?_ | refine frows_step hB ?_ | refine fstr_step hB ?_ | refine len_map hB ?_ | refine len_step hB ?_ | refine lens_step hB ?_ | refine byte_step hB ?_ | refine drop_step hB rfl ?_ | refine fl_step hB rfl ?_ | refine add_one hB (by first | omega | decide) ?_ | refine opt_step hB rfl ?_ | refine fnat_step hB ?_ | refine ifk_step hB rfl ?_ | refine ifk_step hB (flat_or rfl) ?_ | refine opt2_step hB rfl ?_ | refine obj_raw hB ?_ | refine sob_raw hB ?_ | refine fst_raw hB ?_ | refine optl_raw hB ?_ | refine tok_step hB rfl ?_) <;> conv => lhs; whnf)
        exact K x e

theorem ftok_pur (t : Tok) : purTok (ftok t) = true := by cases t <;> rfl
def wrongFrom (d : Desk) (j : Nat) : Option (List Nat) := (List.range' j (d.bs.length + 1 - j)).findSome? fun m => chooseV d m 0 []
theorem wf_end {d : Desk} {j : Nat} (h : d.bs.length + 1 ≤ j) : wrongFrom d j = none := by
  unfold wrongFrom
  rw [Nat.sub_eq_zero_of_le h]; rfl
theorem wf_none {d : Desk} {j : Nat} (h : j < d.bs.length + 1) (hn : chooseV d j 0 [] = none) : wrongFrom d j = wrongFrom d (j + 1) := by
  unfold wrongFrom
  rw [show d.bs.length + 1 - j = (d.bs.length + 1 - (j + 1)) + 1 by omega, List.range'_succ, List.findSome?_cons, hn]
theorem wf_some {d : Desk} {j : Nat} {x : List Nat} (h : j < d.bs.length + 1) (hn : chooseV d j 0 [] = some x) : wrongFrom d j = some x := by
  unfold wrongFrom
  rw [show d.bs.length + 1 - j = (d.bs.length + 1 - (j + 1)) + 1 by omega, List.range'_succ, List.findSome?_cons, hn]

theorem a33_L1_step {B : Bnd} (hB : B = Bk) {cl : CallK} {rd : RoundK} (d : Desk) (hd : d.ok) (hc : d.check = true)
    (HC : ∀ (m : Nat) (kont : AV → St → Ans) (r : Ans), m ≤ d.bs.length → (∀ x, chooseV d m 0 [] = some x → kont (.tup [.sl (rowsI (nats x)) (wtk x), .bool true]) [⟨[], []⟩, ⟨[.cells d.c, .cells [.fn 78 [] [.ptr 0 1 0]]], []⟩] = r) →
      (chooseV d m 0 [] = none → ∀ x t, purTok t = true → kont (.tup [.sl (rowsI x) t, .bool false]) [⟨[], []⟩, ⟨[.cells d.c, .cells [.fn 78 [] [.ptr 0 1 0]]], []⟩] = r) →
      cl 2 78 [d.v, .int .i64 0, .int .i64 (.ofNat m), .sl [] .nil, .ptr 0 1 0] [⟨[], []⟩, ⟨[.cells d.c, .cells [.fn 78 [] [.ptr 0 1 0]]], []⟩] kont = r)
    (n : Nat) (k : Ex → Env → St → Ans) (r : Ans) :
    ∀ (j i0 : Nat), d.bs.length + 1 < i0 + j → i0 ≤ d.bs.length + 1 →
    (wrongFrom d i0 = none → ∀ x, k (.exit 0) [(1, .ptr 0 0 0), (2, .sl [] .nil), (3, .int .i64 0), (5, .ptr 0 1 0), (18, .int .i64 (.ofNat (d.bs.length + 1))), (19, .int .i64 x)] [⟨[.cells d.c, .cells [.fn 78 [] [.ptr 0 1 0]]], []⟩] = r) →
    (∀ x, wrongFrom d i0 = some x → ∀ e, k .ret ((1, .ptr 0 0 0) :: (2, .sl (rowsI (nats x)) (ftok (wtk x))) :: (3, .int .i64 0) :: e) [⟨[.cells d.c, .cells [.fn 78 [] [.ptr 0 1 0]]], []⟩] = r) →
    B.loop (evCK B a33_L1) [1, 2, 3, 5, 18, 19] n j cl rd Gx 0 1 [(1, .ptr 0 0 0), (2, .sl [] .nil), (3, .int .i64 0), (5, .ptr 0 1 0), (18, .int .i64 (.ofNat (d.bs.length + 1))), (19, .int .i64 (.ofNat i0))] [⟨[.cells d.c, .cells [.fn 78 [] [.ptr 0 1 0]]], []⟩] k = r := by
  intro j
  induction j with
  | zero => intro i0 h1 h2; omega
  | succ j ih =>
    intro i0 h1 h2 k1 k2
    have hnb := (check_fine hc).nb
    refine loop_succ hB ?_
    conv => lhs; whnf
    refine lt_nat hB (fun h => ?_) (fun h => ?_) <;> conv => lhs; whnf
    · repeat' ((first | refine fnat_pred hB ?_ | refine tok_step hB hd.tp ?_ | refine tok_step hB hd.tb ?_ | refine HC i0 _ _ (by omega) (fun x e => ?_) (fun e x t ht => ?_) | refine tok_step hB (wtk_pur _) ?_ | refine len_map hB ?_ | refine opt_step hB (slice_pur _) ?_ | refine purs_step hB rfl ?_ | refine lt_tt hB (by decide) ?_ | refine lt_ff hB (by decide) ?_ | refine le_tt hB (by decide) ?_ | refine le_ff hB (by decide) ?_ | refine eq_tt hB (by decide) ?_ | refine eq_ff hB (by decide) ?_ | refine fint_wrp hB (by omega) (by omega) ?_ | refine fint_step hB ?_ | refine fbool_tt hB ?_ | refine fbool_ff hB ?_ | refine fbool_split hB (fun _ => ?_) (fun _ => ?_) | refine ftok_step hB ?_ | refine frows_step hB ?_ | refine fstr_step hB ?_ | refine len_map hB ?_ | refine len_step hB ?_ | refine lens_step hB ?_ | refine byte_step hB ?_ | refine drop_step hB rfl ?_ | refine fl_step hB rfl ?_ | refine add_one hB (by first | omega | decide) ?_ | refine opt_step hB rfl ?_ | refine fnat_step hB ?_ | refine ifk_step hB rfl ?_ | refine ifk_step hB (flat_or rfl) ?_ | refine opt2_step hB rfl ?_ | refine obj_raw hB ?_ | refine sob_raw hB ?_ | refine fst_raw hB ?_ | refine optl_raw hB ?_ | refine tok_step hB rfl ?_) <;> conv => lhs; whnf)
      · rw [clampTok_pur (ftok_pur (wtk x))]
        exact k2 x (wf_some h e) _
      · rw [wf_none h e] at k1
        simp only [wf_none h e] at k2
        exact ih (i0 + 1) (by omega) (by omega) k1 k2
    · repeat' ((first | refine purs_step hB rfl ?_ | refine lt_tt hB (by decide) ?_ | refine lt_ff hB (by decide) ?_ | refine le_tt hB (by decide) ?_ | refine le_ff hB (by decide) ?_ | refine eq_tt hB (by decide) ?_ | refine eq_ff hB (by decide) ?_ | refine fint_wrp hB (by omega) (by omega) ?_ | refine fint_step hB ?_ | refine fbool_tt hB ?_ | refine fbool_ff hB ?_ | refine fbool_split hB (fun _ => ?_) (fun _ => ?_) | refine ftok_step hB ?_ | refine frows_step hB ?_ | refine fstr_step hB ?_ | refine len_map hB ?_ | refine len_step hB ?_ | refine lens_step hB ?_ | refine byte_step hB ?_ | refine drop_step hB rfl ?_ | refine fl_step hB rfl ?_ | refine add_one hB (by first | omega | decide) ?_ | refine opt_step hB rfl ?_ | refine fnat_step hB ?_ | refine ifk_step hB rfl ?_ | refine ifk_step hB (flat_or rfl) ?_ | refine opt2_step hB rfl ?_ | refine obj_raw hB ?_ | refine sob_raw hB ?_ | refine fst_raw hB ?_ | refine optl_raw hB ?_ | refine tok_step hB rfl ?_) <;> conv => lhs; whnf)
      exact k1 (wf_end (by omega)) _

def wrongL (d : Desk) : List Nat := if d.check = true then (wrongV d).getD [] else []
def wrongE (d : Desk) : Int := if d.check = true then (if (wrongV d).isSome = true then 0 else 4) else 90
theorem wf_all (d : Desk) : wrongFrom d 0 = wrongV d := rfl
theorem Wrong_ev {n : Nat} (hn : 1000000000000600 ≤ n) (d : Desk) (hd : d.ok) : (evKR Bk Gx fsT n).1 0 33 [d.v] [] ansK = some (.tup [.sl (rowsI (nats (wrongL d))) (ftok (wtk (wrongL d))), .int .i64 (wrongE d)], []) := by
  refine call_open (show fsT.find 33 = some a33 from rfl) (by omega) fun n' B cl rd hn' hB hcl hrd => ?_
  have H15 := Check_ev (G := Gx) (n := n') d hd (by omega)
  unfold wrongL wrongE
  by_cases hc : d.check = true
  · rw [if_pos hc] at H15
    rw [if_pos hc, if_pos hc]
    have hnb := (check_fine hc).nb
    have h0 : unsB d.bs (inL []) = d.bs := unsB_none _ fun i _ => rfl
    have HC : ∀ (m : Nat) (kont : AV → St → Ans) (r : Ans), m ≤ d.bs.length → (∀ x, chooseV d m 0 [] = some x → kont (.tup [.sl (rowsI (nats x)) (wtk x), .bool true]) [⟨[], []⟩, ⟨[.cells d.c, .cells [.fn 78 [] [.ptr 0 1 0]]], []⟩] = r) →
        (chooseV d m 0 [] = none → ∀ x t, purTok t = true → kont (.tup [.sl (rowsI x) t, .bool false]) [⟨[], []⟩, ⟨[.cells d.c, .cells [.fn 78 [] [.ptr 0 1 0]]], []⟩] = r) →
        (evKR Bk Gx fsT n').1 2 78 [d.v, .int .i64 0, .int .i64 (.ofNat m), .sl [] .nil, .ptr 0 1 0] [⟨[], []⟩, ⟨[.cells d.c, .cells [.fn 78 [] [.ptr 0 1 0]]], []⟩] kont = r := by
      intro m kont r hm K K0
      refine choose_ev hd hc m (n := n') (by omega) 0 [] (fun x hx => by cases hx) (by simp; omega) (by omega) _ rfl (by simp) rfl (v := .sl (d.bs.map Box.c) d.tb) (.inl ⟨d.tb, hd.tb, by rw [h0]⟩) (tk := .nil) rfl rfl (by simp) kont r K K0
    rw [← hcl] at H15 HC
    have HL := a33_L1_step hB (rd := rd) d hd hc HC
    cases hw : wrongV d with
    | none =>
      rw [← wf_all] at hw
      conv => lhs; whnf
      repeat' ((first | refine fnat_pred hB ?_ | refine tok_step hB hd.tp ?_ | refine tok_step hB hd.tb ?_ | refine purs_step hB (by simp [purs, pur, hd.tp, hd.tb]) ?_ | refine pans_step hB H15 ?_ | refine len_map hB ?_ | refine add_one hB (by omega) ?_ | refine HL _ _ _ _ 0 (by omega) (by omega) (fun e x => ?_) (fun x e en => ?_) | refine purs_step hB rfl ?_ | refine lt_tt hB (by decide) ?_ | refine lt_ff hB (by decide) ?_ | refine le_tt hB (by decide) ?_ | refine le_ff hB (by decide) ?_ | refine eq_tt hB (by decide) ?_ | refine eq_ff hB (by decide) ?_ | refine fint_wrp hB (by omega) (by omega) ?_ | refine fint_step hB ?_ | refine fbool_tt hB ?_ | refine fbool_ff hB ?_ | refine fbool_split hB (fun _ => ?_) (fun _ => ?_) | refine ftok_step hB ?_ | refine frows_step hB ?_ | refine fstr_step hB ?_ | refine len_map hB ?_ | refine len_step hB ?_ | refine lens_step hB ?_ | refine byte_step hB ?_ | refine drop_step hB rfl ?_ | refine fl_step hB rfl ?_ | refine add_one hB (by first | omega | decide) ?_ | refine opt_step hB rfl ?_ | refine fnat_step hB ?_ | refine ifk_step hB rfl ?_ | refine ifk_step hB (flat_or rfl) ?_ | refine opt2_step hB rfl ?_ | refine obj_raw hB ?_ | refine sob_raw hB ?_ | refine fst_raw hB ?_ | refine optl_raw hB ?_ | refine tok_step hB rfl ?_) <;> conv => lhs; whnf)
      · rfl
      · rw [hw] at e
        cases e
    | some l =>
      rw [← wf_all] at hw
      conv => lhs; whnf
      repeat' ((first | refine fnat_pred hB ?_ | refine tok_step hB hd.tp ?_ | refine tok_step hB hd.tb ?_ | refine purs_step hB (by simp [purs, pur, hd.tp, hd.tb]) ?_ | refine pans_step hB H15 ?_ | refine len_map hB ?_ | refine add_one hB (by omega) ?_ | refine HL _ _ _ _ 0 (by omega) (by omega) (fun e x => ?_) (fun x e en => ?_) | refine purs_step hB rfl ?_ | refine lt_tt hB (by decide) ?_ | refine lt_ff hB (by decide) ?_ | refine le_tt hB (by decide) ?_ | refine le_ff hB (by decide) ?_ | refine eq_tt hB (by decide) ?_ | refine eq_ff hB (by decide) ?_ | refine fint_wrp hB (by omega) (by omega) ?_ | refine fint_step hB ?_ | refine fbool_tt hB ?_ | refine fbool_ff hB ?_ | refine fbool_split hB (fun _ => ?_) (fun _ => ?_) | refine ftok_step hB ?_ | refine frows_step hB ?_ | refine fstr_step hB ?_ | refine len_map hB ?_ | refine len_step hB ?_ | refine lens_step hB ?_ | refine byte_step hB ?_ | refine drop_step hB rfl ?_ | refine fl_step hB rfl ?_ | refine add_one hB (by first | omega | decide) ?_ | refine opt_step hB rfl ?_ | refine fnat_step hB ?_ | refine ifk_step hB rfl ?_ | refine ifk_step hB (flat_or rfl) ?_ | refine opt2_step hB rfl ?_ | refine obj_raw hB ?_ | refine sob_raw hB ?_ | refine fst_raw hB ?_ | refine optl_raw hB ?_ | refine tok_step hB rfl ?_) <;> conv => lhs; whnf)
      · rw [hw] at e
        cases e
      · rw [hw] at e
        cases e
        conv => lhs; whnf
        repeat' ((first | refine tok_step hB (ftok_pur _) ?_ | refine purs_step hB rfl ?_ | refine lt_tt hB (by decide) ?_ | refine lt_ff hB (by decide) ?_ | refine le_tt hB (by decide) ?_ | refine le_ff hB (by decide) ?_ | refine eq_tt hB (by decide) ?_ | refine eq_ff hB (by decide) ?_ | refine fint_wrp hB (by omega) (by omega) ?_ | refine fint_step hB ?_ | refine fbool_tt hB ?_ | refine fbool_ff hB ?_ | refine fbool_split hB (fun _ => ?_) (fun _ => ?_) | refine ftok_step hB ?_ | refine frows_step hB ?_ | refine fstr_step hB ?_ | refine len_map hB ?_ | refine len_step hB ?_ | refine lens_step hB ?_ | refine byte_step hB ?_ | refine drop_step hB rfl ?_ | refine fl_step hB rfl ?_ | refine add_one hB (by first | omega | decide) ?_ | refine opt_step hB rfl ?_ | refine fnat_step hB ?_ | refine ifk_step hB rfl ?_ | refine ifk_step hB (flat_or rfl) ?_ | refine opt2_step hB rfl ?_ | refine obj_raw hB ?_ | refine sob_raw hB ?_ | refine fst_raw hB ?_ | refine optl_raw hB ?_ | refine tok_step hB rfl ?_) <;> conv => lhs; whnf)
        rfl
  · rw [if_neg hc] at H15
    rw [if_neg hc, if_neg hc]
    rw [← hcl] at H15
    conv => lhs; whnf
    repeat' ((first | refine fnat_pred hB ?_ | refine tok_step hB hd.tp ?_ | refine tok_step hB hd.tb ?_ | refine purs_step hB (by simp [purs, pur, hd.tp, hd.tb]) ?_ | refine pans_step hB H15 ?_ | refine purs_step hB rfl ?_ | refine lt_tt hB (by decide) ?_ | refine lt_ff hB (by decide) ?_ | refine le_tt hB (by decide) ?_ | refine le_ff hB (by decide) ?_ | refine eq_tt hB (by decide) ?_ | refine eq_ff hB (by decide) ?_ | refine fint_wrp hB (by omega) (by omega) ?_ | refine fint_step hB ?_ | refine fbool_tt hB ?_ | refine fbool_ff hB ?_ | refine fbool_split hB (fun _ => ?_) (fun _ => ?_) | refine ftok_step hB ?_ | refine frows_step hB ?_ | refine fstr_step hB ?_ | refine len_map hB ?_ | refine len_step hB ?_ | refine lens_step hB ?_ | refine byte_step hB ?_ | refine drop_step hB rfl ?_ | refine fl_step hB rfl ?_ | refine add_one hB (by first | omega | decide) ?_ | refine opt_step hB rfl ?_ | refine fnat_step hB ?_ | refine ifk_step hB rfl ?_ | refine ifk_step hB (flat_or rfl) ?_ | refine opt2_step hB rfl ?_ | refine obj_raw hB ?_ | refine sob_raw hB ?_ | refine fst_raw hB ?_ | refine optl_raw hB ?_ | refine tok_step hB rfl ?_) <;> conv => lhs; whnf)
    all_goals rfl
end Go.Ab.Cl
