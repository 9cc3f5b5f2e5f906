/-
  The claims: a desk without a box, and without a parcel.
-/
import Derived.Test.YthbekoofiienjaaDoorClV
namespace Go.Ab
theorem app_none {h : Nat} {s : St} {p e bytes : Nat} {r : List (List AV)} {t t2 : Tok} : appAt h s p e bytes (.sl r t) (.sl [] t2) = some (.sl r t, s) := by simp [appAt, rowsAt]
theorem app_full {h : Nat} {s : St} {p e bytes : Nat} {r ys : List (List AV)} {t2 : Tok} (hy : ys ≠ []) (hr : ∀ x ∈ r, x.length = e) (hys : ∀ x ∈ ys, x.length = e) (he : 0 < e) (hb : (r.length + ys.length) * bytes ≤ 140737488355328) (hp : ∀ x ∈ ys, purs x = true) :
    appAt h s p e bytes (.sl r .full) (.sl ys t2) = some (.sl (r ++ ys) (.site h p ((getTok s h p).1 + 1)), setTok s h p ((getTok s h p).1 + 1, r.length + ys.length)) := by
  have h1 : headFit e r = true := by cases r with | nil => rfl | cons a r => simp [headFit, hr a (by simp)]
  have h2 : headFit e ys = true := by cases ys with | nil => rfl | cons a r => simp [headFit, hys a (by simp)]
  have h3 : ys.all purs = true := List.all_eq_true.2 hp
  simp [appAt, rowsAt, hy, h1, h2, he, hb]
  intro x hx; exact hp x hx
theorem app_site {h l' p' g' : Nat} {s : St} {p e bytes : Nat} {r ys : List (List AV)} {t2 : Tok} (hg : getTok s l' p' = (g', r.length)) (hy : ys ≠ []) (hr : ∀ x ∈ r, x.length = e) (hys : ∀ x ∈ ys, x.length = e) (he : 0 < e) (hb : (r.length + ys.length) * bytes ≤ 140737488355328) (hp : ∀ x ∈ ys, purs x = true) :
    appAt h s p e bytes (.sl r (.site l' p' g')) (.sl ys t2) = some (.sl (r ++ ys) (.site l' p' g'), setTok s l' p' (g', r.length + ys.length)) := by
  have h1 : headFit e r = true := by cases r with | nil => rfl | cons a r => simp [headFit, hr a (by simp)]
  have h2 : headFit e ys = true := by cases ys with | nil => rfl | cons a r => simp [headFit, hys a (by simp)]
  simp [appAt, rowsAt, hy, h1, h2, he, hb, hg]
  intro x hx; exact hp x hx
theorem slice_to {e : Nat} {r : List (List AV)} {t : Tok} {z : Int} {m : Nat} (hz : z = (m : Int)) (hm : m ≤ r.length) (hr : ∀ x ∈ r, x.length = e) : ∃ t', sliceAV e (.sl r t) none (some (.int .i64 z)) none = some (.sl (r.take m) t') := by
  have h1 : headFit e r = true := by cases r with | nil => rfl | cons a r => simp [headFit, hr a (by simp)]
  have h0 : (0 : Int) ≤ (m : Int) := by omega
  subst hz
  simp [sliceAV, h1, optBound, bound, h0, hm]
theorem slice_from {e : Nat} {r : List (List AV)} {t : Tok} {z : Int} {m : Nat} (hz : z = (m : Int)) (hm : m ≤ r.length) (hr : ∀ x ∈ r, x.length = e) : ∃ t', sliceAV e (.sl r t) (some (.int .i64 z)) none none = some (.sl (r.drop m) t') := by
  have h1 : headFit e r = true := by cases r with | nil => rfl | cons a r => simp [headFit, hr a (by simp)]
  have h0 : (0 : Int) ≤ (m : Int) := by omega
  subst hz
  simp [sliceAV, h1, optBound, bound, h0, hm]
end Go.Ab
namespace Go.Ab.Cl
open Go.Ab
theorem parcel_len {ps : List Parcel} : ∀ r ∈ ps.map Parcel.c, r.length = 4 := by
  intro r hr
  obtain ⟨b, _, rfl⟩ := List.mem_map.1 hr
  rfl
theorem parcel_pur {ps : List Parcel} : ∀ r ∈ ps.map Parcel.c, purs r = true := by
  intro r hr
  obtain ⟨b, _, rfl⟩ := List.mem_map.1 hr
  rfl
theorem box_pur1 {bs : List Box} : ∀ r ∈ bs.map Box.c, purs r = true := fun r hr => (box_pur r hr).2

theorem tok_set {T : List (Nat × Nat × Nat)} {p : Nat} {x : Nat × Nat} (q : Nat) : tokGet (tokSet T p x) q = if p = q then x else tokGet T q := by
  induction T with
  | nil => simp [tokSet, tokGet]
  | cons y T ih =>
    obtain ⟨r, y⟩ := y
    simp only [tokSet]
    by_cases h : r = p
    · subst h
      rw [if_pos rfl]
      simp only [tokGet]
      split <;> rfl
    · rw [if_neg h]
      simp only [tokGet]
      by_cases h2 : r = q
      · subst h2
        rw [if_pos rfl, if_pos rfl, if_neg (fun e => h e.symm)]
      · rw [if_neg h2, if_neg h2, ih]
theorem get_tok {os : List AObj} {T : List (Nat × Nat × Nat)} {p : Nat} : getTok [⟨os, T⟩] 0 p = tokGet T p := rfl
theorem set_tok {os : List AObj} {T : List (Nat × Nat × Nat)} {p : Nat} {x : Nat × Nat} : setTok [⟨os, T⟩] 0 p x = [⟨os, tokSet T p x⟩] := rfl

/-- Two lists, one appended behind the other one into a new array: the rights. -/
def oneT (p : Nat) (a : List (List AV)) : Tok := if a = [] then .full else .site 0 p 1
def oneS (T : List (Nat × Nat × Nat)) (p : Nat) (a : List (List AV)) : List (Nat × Nat × Nat) := if a = [] then T else tokSet T p (1, a.length)
def twoT (p q : Nat) (a b : List (List AV)) : Tok := if b = [] then oneT p a else if a = [] then .site 0 q 1 else .site 0 p 1
def twoS (T : List (Nat × Nat × Nat)) (p q : Nat) (a b : List (List AV)) : List (Nat × Nat × Nat) := if b = [] then oneS T p a else if a = [] then tokSet T q (1, b.length) else tokSet (tokSet T p (1, a.length)) p (1, a.length + b.length)
theorem join_one {os : List AObj} {T : List (Nat × Nat × Nat)} {p e bytes : Nat} {a : List (List AV)} {t2 : Tok} (hp : tokGet T p = (0, 0)) (ha : ∀ x ∈ a, x.length = e) (he : 0 < e) (hb : a.length * bytes ≤ 140737488355328) (hu : ∀ x ∈ a, purs x = true) :
    appAt 0 [⟨os, T⟩] p e bytes (.sl [] .full) (.sl a t2) = some (.sl a (oneT p a), [⟨os, oneS T p a⟩]) := by
  unfold oneT oneS
  by_cases h : a = []
  · subst h; rw [app_none]; rfl
  · rw [app_full h (fun x hx => by cases hx) ha he (by simpa using hb) hu, get_tok, set_tok, hp, if_neg h, if_neg h]
    simp
theorem join_two {os : List AObj} {T : List (Nat × Nat × Nat)} {p q e bytes : Nat} {a b : List (List AV)} {t2 : Tok} (hq : tokGet T q = (0, 0)) (ha : ∀ x ∈ a, x.length = e) (hb : ∀ x ∈ b, x.length = e) (he : 0 < e) (hl : (a.length + b.length) * bytes ≤ 140737488355328) (hu : ∀ x ∈ b, purs x = true) :
    appAt 0 [⟨os, oneS T p a⟩] q e bytes (.sl a (oneT p a)) (.sl b t2) = some (.sl (a ++ b) (twoT p q a b), [⟨os, twoS T p q a b⟩]) := by
  unfold twoT twoS
  by_cases h : b = []
  · subst h; rw [app_none]; simp
  · rw [if_neg h, if_neg h]
    unfold oneT oneS
    by_cases h2 : a = []
    · subst h2
      simp only [if_true]
      rw [app_full h (fun x hx => by cases hx) hb he hl hu, get_tok, set_tok, hq]
      simp
    · rw [if_neg h2, if_neg h2, if_neg h2, if_neg h2]
      rw [app_site (by rw [get_tok, tok_set, if_pos rfl]) h ha hb he hl hu, set_tok]
theorem two_other {T : List (Nat × Nat × Nat)} {p q r : Nat} {a b : List (List AV)} (h1 : p ≠ r) (h2 : q ≠ r) : tokGet (twoS T p q a b) r = tokGet T r := by
  unfold twoS oneS
  split
  · split
    · rfl
    · rw [tok_set, if_neg h1]
  · split
    · rw [tok_set, if_neg h2]
    · rw [tok_set, if_neg h1, tok_set, if_neg h1]
theorem one_other {T : List (Nat × Nat × Nat)} {p r : Nat} {a : List (List AV)} (h1 : p ≠ r) : tokGet (oneS T p a) r = tokGet T r := by
  unfold oneS
  split
  · rfl
  · rw [tok_set, if_neg h1]
theorem tok_er {B : Bnd} (hB : B = Bk) {r : Ans} {t : Tok} {k : Tok → Ans} (h : k (eraseTok t) = r) : B.tok t k = r := by
  subst hB; show tokK t k = r; rw [tokK_eq]; exact h
theorem er_pur (t : Tok) : purTok (eraseTok t) = true := by cases t <;> rfl

/-- A desk without a box; and without a parcel. -/
def lessB (d : Desk) (i : Nat) (tb : Tok) : Desk := { d with bs := d.bs.take i ++ d.bs.drop (i + 1), tb := tb }
def lessP (d : Desk) (k : Nat) (tp : Tok) : Desk := { d with ps := d.ps.take k ++ d.ps.drop (k + 1), tp := tp }

theorem lessB_ok {d : Desk} (hd : d.ok) {i : Nat} {tb : Tok} (ht : purTok tb = true) : (lessB d i tb).ok where
  tp := hd.tp
  tb := ht
  ps := hd.ps
  bs := by have := hd.bs; simp [lessB]; omega
  str b hb := by
    rcases List.mem_append.1 hb with h | h
    · exact hd.str b (List.mem_of_mem_take h)
    · exact hd.str b (List.mem_of_mem_drop h)
theorem lessP_ok {d : Desk} (hd : d.ok) {k : Nat} {tp : Tok} (ht : purTok tp = true) : (lessP d k tp).ok where
  tp := ht
  tb := hd.tb
  ps := by have := hd.ps; simp [lessP]; omega
  bs := hd.bs
  str := hd.str

theorem less_ev {n : Nat} (hn : 2 ≤ n) (d : Desk) (hd : d.ok) (h6 : d.bs.length ≤ 6) (h8 : d.ps.length ≤ 8) (i : Nat) (hi : i < d.bs.length) {zi : Int} (hzi : zi = (i : Int)) :
    ∃ tb, purTok tb = true ∧ (evKR Bk Gx fsT n).1 0 44 [d.v, .int .i64 zi, .int .i64 (-1)] [] ansK = some ((lessB d i tb).v, []) := by
  obtain ⟨t1, ht1⟩ := slice_to (e := 5) (r := d.bs.map Box.c) (t := d.tb) hzi (by simp; omega) box_len
  obtain ⟨t2, ht2⟩ := slice_from (e := 5) (r := d.bs.map Box.c) (t := d.tb) (z := zi + 1) (m := i + 1) (by omega) (by simp; omega) box_len
  rw [← List.map_take] at ht1
  rw [← List.map_drop] at ht2
  refine ⟨eraseTok (twoT 14 20 ((d.bs.take i).map Box.c) ((d.bs.drop (i + 1)).map Box.c)), er_pur _, ?_⟩
  refine call_open (show fsT.find 44 = some a44 from rfl) (by omega) fun n' B cl rd hn' hB hcl hrd => ?_
  conv => lhs; whnf
  repeat' ((first
    | refine fnat_pred hB ?_
    | refine tok_step hB hd.tp ?_
    | refine tok_step hB hd.tb ?_
    | refine opt_step hB ht1 ?_
    | refine opt_step hB ht2 ?_
    | refine opt2_step hB (join_one (t2 := t1) (T := []) (p := 14) (a := (d.bs.take i).map Box.c) rfl box_len (by omega) (by simp; omega) box_pur1) ?_
    | refine opt2_step hB (join_two (t2 := t2) (T := []) (p := 14) (q := 20) (a := (d.bs.take i).map Box.c) (b := (d.bs.drop (i + 1)).map Box.c) rfl box_len box_len (by omega) (by simp; omega) box_pur1) ?_
    | refine add_step hB (by omega) (by omega) ?_
    | refine lt_ff hB (by omega) ?_
    | refine le_ff hB (by omega) ?_
    | refine tok_er hB ?_
    | refine purs_step hB rfl ?_
    | refine lt_tt hB (by decide) ?_
    | refine lt_ff hB (by decide) ?_
    | refine le_tt hB (by decide) ?_
    | refine le_ff hB (by decide) ?_
    | refine eq_tt hB (by decide) ?_
    | refine eq_ff hB (by decide) ?_
    | refine fint_wrp hB (by omega) (by omega) ?_
    | refine fint_step hB ?_
    | refine fbool_tt hB ?_
    | refine fbool_ff hB ?_
    | refine fbool_split hB (fun _ => ?_) (fun _ => ?_)
    | refine ftok_step hB ?_
    | refine frows_step hB ?_
    | refine fstr_step hB ?_
    | refine len_map hB ?_
    | refine len_step hB ?_
    | refine lens_step hB ?_
    | refine byte_step hB ?_
    | refine drop_step hB rfl ?_
    | refine fl_step hB rfl ?_
    | refine add_one hB (by first | omega | decide) ?_
    | refine opt_step hB rfl ?_
    | refine fnat_step hB ?_
    | refine ifk_step hB rfl ?_
    | refine ifk_step hB (flat_or rfl) ?_
    | refine opt2_step hB rfl ?_
    | refine obj_raw hB ?_
    | refine sob_raw hB ?_
    | refine fst_raw hB ?_
    | refine optl_raw hB ?_
    | refine tok_step hB rfl ?_
    ) <;> conv => lhs; whnf)
  simp [lessB, Desk.v, Desk.c]
theorem lessk_ev {n : Nat} (hn : 2 ≤ n) (d : Desk) (hd : d.ok) (h6 : d.bs.length ≤ 6) (h8 : d.ps.length ≤ 8) (i k : Nat) (hi : i < d.bs.length) (hk : k < d.ps.length) {zi zk : Int} (hzi : zi = (i : Int)) (hzk : zk = (k : Int)) :
    ∃ tb tp, purTok tb = true ∧ purTok tp = true ∧ (evKR Bk Gx fsT n).1 0 44 [d.v, .int .i64 zi, .int .i64 zk] [] ansK = some ((lessP (lessB d i tb) k tp).v, []) := by
  obtain ⟨t1, ht1⟩ := slice_to (e := 5) (r := d.bs.map Box.c) (t := d.tb) hzi (by simp; omega) box_len
  obtain ⟨t2, ht2⟩ := slice_from (e := 5) (r := d.bs.map Box.c) (t := d.tb) (z := zi + 1) (m := i + 1) (by omega) (by simp; omega) box_len
  obtain ⟨t3, ht3⟩ := slice_to (e := 4) (r := d.ps.map Parcel.c) (t := d.tp) hzk (by simp; omega) parcel_len
  obtain ⟨t4, ht4⟩ := slice_from (e := 4) (r := d.ps.map Parcel.c) (t := d.tp) (z := zk + 1) (m := k + 1) (by omega) (by simp; omega) parcel_len
  rw [← List.map_take] at ht1 ht3
  rw [← List.map_drop] at ht2 ht4
  refine ⟨eraseTok (twoT 14 20 ((d.bs.take i).map Box.c) ((d.bs.drop (i + 1)).map Box.c)), eraseTok (twoT 29 35 ((d.ps.take k).map Parcel.c) ((d.ps.drop (k + 1)).map Parcel.c)), er_pur _, er_pur _, ?_⟩
  refine call_open (show fsT.find 44 = some a44 from rfl) (by omega) fun n' B cl rd hn' hB hcl hrd => ?_
  conv => lhs; whnf
  repeat' ((first
    | refine fnat_pred hB ?_
    | refine tok_step hB hd.tp ?_
    | refine tok_step hB hd.tb ?_
    | refine opt_step hB ht1 ?_
    | refine opt_step hB ht2 ?_
    | refine opt_step hB ht3 ?_
    | refine opt_step hB ht4 ?_
    | refine opt2_step hB (join_one (t2 := t1) (T := []) (p := 14) (a := (d.bs.take i).map Box.c) rfl box_len (by omega) (by simp; omega) box_pur1) ?_
    | refine opt2_step hB (join_two (t2 := t2) (T := []) (p := 14) (q := 20) (a := (d.bs.take i).map Box.c) (b := (d.bs.drop (i + 1)).map Box.c) rfl box_len box_len (by omega) (by simp; omega) box_pur1) ?_
    | refine opt2_step hB (join_one (t2 := t3) (T := twoS [] 14 20 ((d.bs.take i).map Box.c) ((d.bs.drop (i + 1)).map Box.c)) (p := 29) (a := (d.ps.take k).map Parcel.c) (by rw [two_other (by decide) (by decide)]; rfl) parcel_len (by omega) (by simp; omega) parcel_pur) ?_
    | refine opt2_step hB (join_two (t2 := t4) (T := twoS [] 14 20 ((d.bs.take i).map Box.c) ((d.bs.drop (i + 1)).map Box.c)) (p := 29) (q := 35) (a := (d.ps.take k).map Parcel.c) (b := (d.ps.drop (k + 1)).map Parcel.c) (by rw [two_other (by decide) (by decide)]; rfl) parcel_len parcel_len (by omega) (by simp; omega) parcel_pur) ?_
    | refine add_step hB (by omega) (by omega) ?_
    | refine le_tt hB (by omega) ?_
    | refine tok_er hB ?_
    | refine purs_step hB rfl ?_
    | refine lt_tt hB (by decide) ?_
    | refine lt_ff hB (by decide) ?_
    | refine le_tt hB (by decide) ?_
    | refine le_ff hB (by decide) ?_
    | refine eq_tt hB (by decide) ?_
    | refine eq_ff hB (by decide) ?_
    | refine fint_wrp hB (by omega) (by omega) ?_
    | refine fint_step hB ?_
    | refine fbool_tt hB ?_
    | refine fbool_ff hB ?_
    | refine fbool_split hB (fun _ => ?_) (fun _ => ?_)
    | refine ftok_step hB ?_
    | refine frows_step hB ?_
    | refine fstr_step hB ?_
    | refine len_map hB ?_
    | refine len_step hB ?_
    | refine lens_step hB ?_
    | refine byte_step hB ?_
    | refine drop_step hB rfl ?_
    | refine fl_step hB rfl ?_
    | refine add_one hB (by first | omega | decide) ?_
    | refine opt_step hB rfl ?_
    | refine fnat_step hB ?_
    | refine ifk_step hB rfl ?_
    | refine ifk_step hB (flat_or rfl) ?_
    | refine opt2_step hB rfl ?_
    | refine obj_raw hB ?_
    | refine sob_raw hB ?_
    | refine fst_raw hB ?_
    | refine optl_raw hB ?_
    | refine tok_step hB rfl ?_
    ) <;> conv => lhs; whnf)
  simp [lessB, lessP, Desk.v, Desk.c]
theorem strange_ev {n : Nat} (hn : 2 ≤ n) (d : Desk) (hd : d.ok) (z : Int) : (evKR Bk Gx fsT n).1 0 45 [d.v, .int .i64 z] [] ansK = some ((dS d z).v, []) := by
  refine call_open (show fsT.find 45 = some a45 from rfl) (by omega) fun n' B cl rd hn' hB hcl hrd => ?_
  conv => lhs; whnf
  repeat' ((first
    | refine fnat_pred hB ?_
    | refine tok_step hB hd.tp ?_
    | refine tok_step hB hd.tb ?_
    | refine purs_step hB rfl ?_
    | refine lt_tt hB (by decide) ?_
    | refine lt_ff hB (by decide) ?_
    | refine le_tt hB (by decide) ?_
    | refine le_ff hB (by decide) ?_
    | refine eq_tt hB (by decide) ?_
    | refine eq_ff hB (by decide) ?_
    | refine fint_wrp hB (by omega) (by omega) ?_
    | refine fint_step hB ?_
    | refine fbool_tt hB ?_
    | refine fbool_ff hB ?_
    | refine fbool_split hB (fun _ => ?_) (fun _ => ?_)
    | refine ftok_step hB ?_
    | refine frows_step hB ?_
    | refine fstr_step hB ?_
    | refine len_map hB ?_
    | refine len_step hB ?_
    | refine lens_step hB ?_
    | refine byte_step hB ?_
    | refine drop_step hB rfl ?_
    | refine fl_step hB rfl ?_
    | refine add_one hB (by first | omega | decide) ?_
    | refine opt_step hB rfl ?_
    | refine fnat_step hB ?_
    | refine ifk_step hB rfl ?_
    | refine ifk_step hB (flat_or rfl) ?_
    | refine opt2_step hB rfl ?_
    | refine obj_raw hB ?_
    | refine sob_raw hB ?_
    | refine fst_raw hB ?_
    | refine optl_raw hB ?_
    | refine tok_step hB rfl ?_
    ) <;> conv => lhs; whnf)
  all_goals rfl
end Go.Ab.Cl
