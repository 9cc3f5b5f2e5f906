/-
  The claims: Back; a desk that lacks a parcel.
-/
import Derived.Test.YthbekoofiienjaaDoorClG
import Derived.Test.YthbekoofiienjaaDoorClZ
import Derived.Test.YthbekoofiienjaaDoorClI
import Derived.Test.YthbekoofiienjaaDoorClTa
namespace Go.Ab
theorem app_none {h : Nat} {s : St} {p e bytes : Nat} {r : List (List AV)} {t t2 : Tok} : appAt h s p e bytes (.sl r t) (.sl [] t2) = some (.sl r t, s) := by simp [appAt, rowsAt]
theorem app_site {h l' p' g' : Nat} {s : St} {p e bytes : Nat} {r ys : List (List AV)} {t2 : Tok} (hg : getTok s l' p' = (g', r.length)) (hy : ys ≠ []) (hr : ∀ x ∈ r, x.length = e) (hys : ∀ x ∈ ys, x.length = e) (he : 0 < e) (hb : (r.length + ys.length) * bytes ≤ 140737488355328) (hp : ∀ x ∈ ys, purs x = true) :
    appAt h s p e bytes (.sl r (.site l' p' g')) (.sl ys t2) = some (.sl (r ++ ys) (.site l' p' g'), setTok s l' p' (g', r.length + ys.length)) := by
  have h1 : headFit e r = true := by cases r with | nil => rfl | cons a r => simp [headFit, hr a (by simp)]
  have h2 : headFit e ys = true := by cases ys with | nil => rfl | cons a r => simp [headFit, hys a (by simp)]
  simp [appAt, rowsAt, hy, h1, h2, he, hb, hg]
  intro x hx; exact hp x hx
theorem slice_to {e : Nat} {r : List (List AV)} {t : Tok} {z : Int} {m : Nat} (hz : z = (m : Int)) (hm : m ≤ r.length) (hr : ∀ x ∈ r, x.length = e) : ∃ t', sliceAV e (.sl r t) none (some (.int .i64 z)) none = some (.sl (r.take m) t') := by
  have h1 : headFit e r = true := by cases r with | nil => rfl | cons a r => simp [headFit, hr a (by simp)]
  have h0 : (0 : Int) ≤ (m : Int) := by omega
  subst hz
  simp [sliceAV, h1, optBound, bound, h0, hm]
theorem slice_from {e : Nat} {r : List (List AV)} {t : Tok} {z : Int} {m : Nat} (hz : z = (m : Int)) (hm : m ≤ r.length) (hr : ∀ x ∈ r, x.length = e) : ∃ t', sliceAV e (.sl r t) (some (.int .i64 z)) none none = some (.sl (r.drop m) t') := by
  have h1 : headFit e r = true := by cases r with | nil => rfl | cons a r => simp [headFit, hr a (by simp)]
  have h0 : (0 : Int) ≤ (m : Int) := by omega
  subst hz
  simp [sliceAV, h1, optBound, bound, h0, hm]
end Go.Ab
namespace Go.Ab.Cl
open Go.Ab

theorem parcel_len {ps : List Parcel} : ∀ r ∈ ps.map Parcel.c, r.length = 4 := by
  intro r hr
  obtain ⟨b, _, rfl⟩ := List.mem_map.1 hr
  rfl
theorem parcel_pur {ps : List Parcel} : ∀ r ∈ ps.map Parcel.c, purs r = true := by
  intro r hr
  obtain ⟨b, _, rfl⟩ := List.mem_map.1 hr
  rfl
theorem tok_set {T : List (Nat × Nat × Nat)} {p : Nat} {x : Nat × Nat} (q : Nat) : tokGet (tokSet T p x) q = if p = q then x else tokGet T q := by
  induction T with
  | nil => simp [tokSet, tokGet]
  | cons y T ih =>
    obtain ⟨r, y⟩ := y
    simp only [tokSet]
    by_cases h : r = p
    · subst h
      rw [if_pos rfl]
      simp only [tokGet]
      split <;> rfl
    · rw [if_neg h]
      simp only [tokGet]
      by_cases h2 : r = q
      · subst h2
        rw [if_pos rfl, if_pos rfl, if_neg (fun e => h e.symm)]
      · rw [if_neg h2, if_neg h2, ih]
theorem get_tok {os : List AObj} {T : List (Nat × Nat × Nat)} {p : Nat} : getTok [⟨os, T⟩] 0 p = tokGet T p := rfl
theorem set_tok {os : List AObj} {T : List (Nat × Nat × Nat)} {p : Nat} {x : Nat × Nat} : setTok [⟨os, T⟩] 0 p x = [⟨os, tokSet T p x⟩] := rfl
def oneS (T : List (Nat × Nat × Nat)) (p : Nat) (a : List (List AV)) : List (Nat × Nat × Nat) := if a = [] then T else tokSet T p (1, a.length)
def twoS (T : List (Nat × Nat × Nat)) (p q : Nat) (a b : List (List AV)) : List (Nat × Nat × Nat) := if b = [] then oneS T p a else if a = [] then tokSet T q (1, b.length) else tokSet (tokSet T p (1, a.length)) p (1, a.length + b.length)
theorem tok_er {B : Bnd} (hB : B = Bk) {r : Ans} {t : Tok} {k : Tok → Ans} (h : k (eraseTok t) = r) : B.tok t k = r := by
  subst hB; show tokK t k = r; rw [tokK_eq]; exact h
theorem er_pur (t : Tok) : purTok (eraseTok t) = true := by cases t <;> rfl
def lessP (d : Desk) (k : Nat) (tp : Tok) : Desk := { d with ps := d.ps.take k ++ d.ps.drop (k + 1), tp := tp }
theorem lessP_ok {d : Desk} (hd : d.ok) {k : Nat} {tp : Tok} (ht : purTok tp = true) : (lessP d k tp).ok where
  tp := ht
  tb := hd.tb
  ps := by have := hd.ps; simp [lessP]; omega
  bs := hd.bs
  str := hd.str
def up (i j : Nat) : Nat := if j < i then j else j + 1
theorem up_inj {i a b : Nat} (h : up i a = up i b) : a = b := by unfold up at h; split at h <;> split at h <;> omega
theorem cut_get {α : Type} {l : List α} {i : Nat} (j : Nat) : (l.take i ++ l.drop (i + 1))[j]? = l[up i j]? := by
  rw [← List.eraseIdx_eq_take_drop_succ, List.getElem?_eraseIdx]
  unfold up
  split <;> rfl
theorem count_map {f : Int → Int} (hf : ∀ x, f x = -1 ↔ x = -1) (l : List Int) : (l.map f).count (-1) = l.count (-1) := by
  induction l with
  | nil => rfl
  | cons x l ih =>
    rw [List.map_cons, List.count_cons, List.count_cons, ih]
    by_cases h : x = -1
    · rw [(hf x).2 h, h]
    · have h2 : ¬ f x = -1 := fun e => h ((hf x).1 e)
      simp [h, h2]
def un (k : Nat) (x : Int) : Int := if (k : Int) ≤ x then x + 1 else x
def sh (k : Nat) (x : Int) : Int := if (k : Int) < x then x - 1 else x
theorem un_sh {k : Nat} {x : Int} (h : x ≠ (k : Int)) : un k (sh k x) = x := by unfold un sh; split <;> split <;> omega
theorem cut_all {α : Type} {l : List α} {p : α → Bool} {i : Nat} (h : l.all p = true) : (l.take i ++ l.drop (i + 1)).all p = true := by
  rw [List.all_eq_true] at h ⊢
  intro x hx
  rcases List.mem_append.1 hx with hx | hx
  · exact h x (List.mem_of_mem_take hx)
  · exact h x (List.mem_of_mem_drop hx)
theorem Tr.key {d : Desk} {l : List Int} (h : Tr d l) {b : Nat} {z : Int} (hz : l[b]? = some z) : z = -1 ∨ ∃ n : Nat, z = (n : Int) ∧ n < d.ps.length := by
  rcases h.ok b z hz with ⟨h1, _⟩ | ⟨n, h1, h2⟩
  · exact .inl h1
  · exact .inr ⟨n, h1, (fit_lt h2).2⟩
theorem lessP_fit {d : Desk} {k i n : Nat} (tp : Tok) : fit0 (lessP d k tp) i n = fit0 d i (up k n) := by
  unfold fit0
  rw [show (lessP d k tp).ps[n]? = d.ps[up k n]? from cut_get n, show (lessP d k tp).bs = d.bs from rfl]
  cases d.bs[i]? <;> cases d.ps[up k n]? <;> rfl
theorem lessP_odd {d : Desk} {k i : Nat} (tp : Tok) : oddB (lessP d k tp) i = oddB d i := rfl
theorem un_odd {k : Nat} {x : Int} : un k x = -1 ↔ x = -1 := by unfold un; split <;> omega
theorem sh_odd {k : Nat} {x : Int} (h : x ≠ (k : Int)) : sh k x = -1 ↔ x = -1 := by unfold sh; split <;> omega
theorem un_nat {k n : Nat} : un k (n : Int) = (up k n : Nat) := by unfold un up; split <;> split <;> omega
theorem Tr_less {d : Desk} {k : Nat} {tp : Tok} {l : List Int} (h : Tr (lessP d k tp) l) : Tr d (l.map (un k)) ∧ (k : Int) ∉ l.map (un k) := by
  refine ⟨⟨by rw [List.length_map]; exact h.len, fun i z hz => ?_, fun i j n h1 h2 => ?_, ?_⟩, fun hm => ?_⟩
  · rw [List.getElem?_map, Option.map_eq_some_iff] at hz
    obtain ⟨x, hx, rfl⟩ := hz
    rcases h.ok i x hx with ⟨rfl, ho⟩ | ⟨n, rfl, hf⟩
    · exact .inl ⟨un_odd.2 rfl, ho⟩
    · exact .inr ⟨up k n, un_nat, by rw [lessP_fit] at hf; exact hf⟩
  · rw [List.getElem?_map, Option.map_eq_some_iff] at h1 h2
    obtain ⟨x, hx, e1⟩ := h1
    obtain ⟨y, hy, e2⟩ := h2
    rcases h.key hx with rfl | ⟨a, rfl, _⟩
    · rw [un_odd.2 rfl] at e1; omega
    · rcases h.key hy with rfl | ⟨b, rfl, _⟩
      · rw [un_odd.2 rfl] at e2; omega
      · rw [un_nat] at e1 e2
        have : a = b := up_inj (i := k) (by omega)
        subst this
        exact h.inj i j a hx hy
  · rw [count_map (fun x => un_odd)]; exact h.few
  · obtain ⟨x, _, e⟩ := List.mem_map.1 hm
    unfold un at e; split at e <;> omega
theorem Tr_more {d : Desk} {k : Nat} (tp : Tok) {l : List Int} (h : Tr d l) (hk : (k : Int) ∉ l) : Tr (lessP d k tp) (l.map (sh k)) := by
  have hne : ∀ (i : Nat) (x : Int), l[i]? = some x → x ≠ (k : Int) := fun i x hx e => hk (e ▸ List.mem_of_getElem? hx)
  have hnat : ∀ (i n : Nat), l[i]? = some (n : Int) → ∃ m : Nat, sh k (n : Int) = (m : Int) ∧ up k m = n := by
    intro i n hn
    have h1 := hne i _ hn
    by_cases h2 : k < n
    · exact ⟨n - 1, by unfold sh; rw [if_pos (by omega)]; omega, by unfold up; rw [if_neg (by omega)]; omega⟩
    · exact ⟨n, by unfold sh; rw [if_neg (by omega)], by unfold up; rw [if_pos (by omega)]⟩
  refine ⟨by rw [List.length_map]; exact h.len, fun i z hz => ?_, fun i j n h1 h2 => ?_, ?_⟩
  · rw [List.getElem?_map, Option.map_eq_some_iff] at hz
    obtain ⟨x, hx, rfl⟩ := hz
    rcases h.ok i x hx with ⟨rfl, ho⟩ | ⟨n, rfl, hf⟩
    · exact .inl ⟨(sh_odd (by omega)).2 rfl, ho⟩
    · obtain ⟨m, e1, e2⟩ := hnat i n hx
      exact .inr ⟨m, e1, by rw [lessP_fit, e2]; exact hf⟩
  · rw [List.getElem?_map, Option.map_eq_some_iff] at h1 h2
    obtain ⟨x, hx, e1⟩ := h1
    obtain ⟨y, hy, e2⟩ := h2
    have e : x = y := by
      have := un_sh (hne i x hx)
      have := un_sh (hne j y hy)
      rw [e1] at *
      simp_all
    subst e
    rcases h.key hx with rfl | ⟨a, rfl, _⟩
    · rw [(sh_odd (by omega)).2 rfl] at e1; omega
    · exact h.inj i j a hx hy
  · have : (l.map (sh k)).count (-1) = l.count (-1) := by
      clear h hnat
      have : ∀ l : List Int, (∀ x ∈ l, x ≠ (k : Int)) → (l.map (sh k)).count (-1) = l.count (-1) := by
        intro l
        induction l with
        | nil => intro _; rfl
        | cons x l ih =>
          intro h
          have h1 := ih fun y hy => h y (List.mem_cons_of_mem _ hy)
          have h2 := sh_odd (h x (List.mem_cons_self ..))
          rw [List.map_cons, List.count_cons, List.count_cons, h1]
          congr 1
          by_cases hx : x = -1
          · rw [h2.2 hx, hx]
          · have h3 : ¬ sh k x = -1 := fun e => hx (h2.1 e)
            simp [hx, h3]
      exact this l fun x hx e => hk (e ▸ hx)
    rw [this]; exact h.few
theorem lessP_check {d : Desk} (hc : d.check = true) {k : Nat} (hk : k < d.ps.length) (tp : Tok) : (lessP d k tp).check = true := by
  have e : (lessP d k tp).check = (isSpan d.lo d.hi 0 400 && within d.wear 0 5000 && within d.strange 0 6 && decide ((d.ps.take k ++ d.ps.drop (k + 1)).length ≤ 8) && decide (d.bs.length ≤ 6) && (d.ps.take k ++ d.ps.drop (k + 1)).all okParcel && d.bs.all okBox) := rfl
  rw [e]
  have e2 : d.check = (isSpan d.lo d.hi 0 400 && within d.wear 0 5000 && within d.strange 0 6 && decide (d.ps.length ≤ 8) && decide (d.bs.length ≤ 6) && d.ps.all okParcel && d.bs.all okBox) := rfl
  rw [e2] at hc
  simp only [Bool.and_eq_true, decide_eq_true_eq] at hc ⊢
  obtain ⟨⟨⟨⟨⟨⟨h1, h2⟩, h3⟩, h4⟩, h5⟩, h6⟩, h7⟩ := hc
  exact ⟨⟨⟨⟨⟨⟨h1, h2⟩, h3⟩, by simp; omega⟩, h5⟩, cut_all h6⟩, h7⟩
theorem lessP_true {d : Desk} (hc : d.check = true) {k : Nat} (hk : k < d.ps.length) (tp : Tok) : trueB (lessP d k tp) = true ↔ ∃ l, Tr d l ∧ (k : Int) ∉ l := by
  rw [true_iff (lessP_check hc hk tp)]
  constructor
  · rintro ⟨l, h⟩; exact ⟨_, Tr_less h⟩
  · rintro ⟨l, h1, h2⟩; exact ⟨_, Tr_more tp h1 h2⟩
/-- Which parcels are back in some truth, and in all. -/
def someB (d : Desk) (k : Nat) : Bool := (List.range d.bs.length).any fun i => canB d (i : Int) (k : Int)
def allB (d : Desk) (k : Nat) : Bool := !trueB (lessP d k .any)
theorem allB_tok {d : Desk} (hc : d.check = true) {k : Nat} (hk : k < d.ps.length) (tp : Tok) : trueB (lessP d k tp) = !allB d k := by
  unfold allB
  rw [Bool.not_not, Bool.eq_iff_iff, lessP_true hc hk, lessP_true hc hk]
theorem someB_iff {d : Desk} (hc : d.check = true) {k : Nat} : someB d k = true ↔ ∃ l, Tr d l ∧ (k : Int) ∈ l := by
  unfold someB
  simp only [List.any_eq_true, List.mem_range]
  constructor
  · rintro ⟨i, hi, h⟩
    obtain ⟨l, h1, h2⟩ := (can_iff hc hi).1 h
    exact ⟨l, h1, List.mem_of_getElem? h2⟩
  · rintro ⟨l, h1, h2⟩
    obtain ⟨i, hi, e⟩ := List.mem_iff_getElem.1 h2
    have : i < d.bs.length := by rw [← h1.len]; exact hi
    exact ⟨i, this, (can_iff hc this).2 ⟨l, h1, by rw [List.getElem?_eq_getElem hi, e]⟩⟩
theorem allB_iff {d : Desk} (hc : d.check = true) {k : Nat} (hk : k < d.ps.length) : allB d k = true ↔ ∀ l, Tr d l → (k : Int) ∈ l := by
  have := lessP_true hc hk .any
  unfold allB
  rw [Bool.not_eq_true', ← Bool.not_eq_true, this]
  constructor
  · intro h l hl
    exact Decidable.byContradiction fun hn => h ⟨l, hl, hn⟩
  · rintro h ⟨l, h1, h2⟩
    exact h2 (h l h1)
theorem all_some {d : Desk} (hc : d.check = true) (ht : trueB d = true) {k : Nat} (hk : k < d.ps.length) (h : allB d k = true) : someB d k = true := by
  obtain ⟨l, hl⟩ := (true_iff hc).1 ht
  exact (someB_iff hc).2 ⟨l, hl, (allB_iff hc hk).1 h l hl⟩
def listB (P : Nat) (f : Nat → Bool) (j : Nat) : List Int := List.map (fun k : Nat => (k : Int)) ((List.range' j (P - j)).filter f)
def surelyL (d : Desk) : List Int := listB d.ps.length (allB d) 0
def perhapsL (d : Desk) : List Int := listB d.ps.length (fun k => !allB d k && someB d k) 0
theorem app_nil {h : Nat} {s : St} {p e bytes : Nat} {ys : List (List AV)} {t2 : Tok} (hy : ys ≠ []) (hys : ∀ x ∈ ys, x.length = e) (he : 0 < e) (hb : ys.length * bytes ≤ 140737488355328) (hp : ∀ x ∈ ys, purs x = true) :
    appAt h s p e bytes (.sl [] .nil) (.sl ys t2) = some (.sl ys (.site h p ((getTok s h p).1 + 1)), setTok s h p ((getTok s h p).1 + 1, ys.length)) := by
  have h2 : headFit e ys = true := by cases ys with | nil => rfl | cons a r => simp [headFit, hys a (by simp)]
  simp [appAt, rowsAt, hy, h2, he, hb, show headFit e [] = true from rfl]
  intro x hx; exact hp x hx
def oneN (p : Nat) (a : List (List AV)) : Tok := if a = [] then .nil else .site 0 p 1
def twoN (p q : Nat) (a b : List (List AV)) : Tok := if b = [] then oneN p a else if a = [] then .site 0 q 1 else .site 0 p 1
theorem joinN_one {os : List AObj} {T : List (Nat × Nat × Nat)} {p e bytes : Nat} {a : List (List AV)} {t2 : Tok} (hp : tokGet T p = (0, 0)) (ha : ∀ x ∈ a, x.length = e) (he : 0 < e) (hb : a.length * bytes ≤ 140737488355328) (hu : ∀ x ∈ a, purs x = true) :
    appAt 0 [⟨os, T⟩] p e bytes (.sl [] .nil) (.sl a t2) = some (.sl a (oneN p a), [⟨os, oneS T p a⟩]) := by
  unfold oneN oneS
  by_cases h : a = []
  · subst h; rw [app_none]; rfl
  · rw [app_nil h ha he hb hu, get_tok, set_tok, hp, if_neg h, if_neg h]
theorem joinN_two {os : List AObj} {T : List (Nat × Nat × Nat)} {p q e bytes : Nat} {a b : List (List AV)} {t2 : Tok} (hq : tokGet T q = (0, 0)) (ha : ∀ x ∈ a, x.length = e) (hb : ∀ x ∈ b, x.length = e) (he : 0 < e) (hl : (a.length + b.length) * bytes ≤ 140737488355328) (hu : ∀ x ∈ b, purs x = true) :
    appAt 0 [⟨os, oneS T p a⟩] q e bytes (.sl a (oneN p a)) (.sl b t2) = some (.sl (a ++ b) (twoN p q a b), [⟨os, twoS T p q a b⟩]) := by
  unfold twoN twoS
  by_cases h : b = []
  · subst h; rw [app_none]; simp
  · rw [if_neg h, if_neg h]
    unfold oneN oneS
    by_cases h2 : a = []
    · subst h2
      simp only [if_true]
      rw [app_nil h hb he (by simpa using hl) hu, get_tok, set_tok, hq]
      simp
    · rw [if_neg h2, if_neg h2, if_neg h2, if_neg h2]
      rw [app_site (by rw [get_tok, tok_set, if_pos rfl]) h ha hb he hl hu, set_tok]
theorem without_ev {n : Nat} (hn : 2 ≤ n) (d : Desk) (hd : d.ok) (h8 : d.ps.length ≤ 8) (k : Nat) (hk : k < d.ps.length) {zk : Int} (hzk : zk = (k : Int)) :
    ∃ tp, purTok tp = true ∧ (evKR Bk Gx fsT n).1 0 74 [d.v, .int .i64 zk] [] ansK = some ((lessP d k tp).v, []) := by
  obtain ⟨t1, ht1⟩ := slice_to (e := 4) (r := d.ps.map Parcel.c) (t := d.tp) hzk (by simp; omega) parcel_len
  obtain ⟨t2, ht2⟩ := slice_from (e := 4) (r := d.ps.map Parcel.c) (t := d.tp) (z := zk + 1) (m := k + 1) (by omega) (by simp; omega) parcel_len
  rw [← List.map_take] at ht1
  rw [← List.map_drop] at ht2
  refine ⟨eraseTok (twoN 10 17 ((d.ps.take k).map Parcel.c) ((d.ps.drop (k + 1)).map Parcel.c)), er_pur _, ?_⟩
  refine call_open (show fsT.find 74 = some a74 from rfl) (by omega) fun n' B cl rd hn' hB hcl hrd => ?_
  conv => lhs; whnf
  repeat' ((first | refine Qw hB ?_ | refine Qv hB hd.tp ?_ | refine Qv hB hd.tb ?_ | refine Qm hB ht1 ?_ | refine Qm hB ht2 ?_ | refine Qq hB (joinN_one (t2 := t1) (T := []) (p := 10) (a := (d.ps.take k).map Parcel.c) rfl parcel_len (by omega) (by simp; omega) parcel_pur) ?_ | refine Qq hB (joinN_two (t2 := t2) (T := []) (p := 10) (q := 17) (a := (d.ps.take k).map Parcel.c) (b := (d.ps.drop (k + 1)).map Parcel.c) rfl parcel_len parcel_len (by omega) (by simp; omega) parcel_pur) ?_ | refine add_step hB (by omega) (by omega) ?_ | refine tok_er hB ?_ | refine Q0 hB rfl ?_ | refine Q1 hB (by decide) ?_ | refine Q2 hB (by decide) ?_ | refine Q3 hB (by decide) ?_ | refine Q4 hB (by decide) ?_ | refine Q5 hB (by decide) ?_ | refine Q6 hB (by decide) ?_ | refine Q7 hB (by omega) (by omega) ?_ | refine Q8 hB ?_ | refine Q9 hB ?_ | refine Qa hB ?_ | refine Qb hB (fun _ => ?_) (fun _ => ?_) | refine Qc hB ?_ | refine Qd hB ?_ | refine Qe hB ?_ | refine Qf hB ?_ | refine Qg hB ?_ | refine Qh hB ?_ | refine Qi hB ?_ | refine Qj hB rfl ?_ | refine Qk hB rfl ?_ | refine Ql hB (by first | omega | decide) ?_ | refine Qm hB rfl ?_ | refine Qn hB ?_ | refine Qo hB rfl ?_ | refine Qo hB (Qp rfl) ?_ | refine Qq hB rfl ?_ | refine Qr hB ?_ | refine Qs hB ?_ | refine Qt hB ?_ | refine Qu hB ?_ | refine Qv hB rfl ?_) <;> conv => lhs; whnf)
  simp [lessP, Desk.v, Desk.c]
def surelyR (d : Desk) : List Int := if askE d true = 0 then surelyL d else []
def perhapsR (d : Desk) : List Int := if askE d true = 0 then perhapsL d else []
theorem ask_true {d : Desk} (he : askE d true = 0) : d.check = true ∧ trueB d = true := by
  unfold askE at he
  split at he
  · rename_i h1
    rw [if_pos rfl] at he
    split at he
    · exact ⟨h1, by assumption⟩
    · cases he
  · cases he
/-! ### eight answers -/
def flf (f : Nat → Bool) : List AV := (List.range 8).map fun k => .bool (f k)
def setF (f : Nat → Bool) (k : Nat) (v : Bool) (n : Nat) : Bool := if n = k then v else f n
theorem flf_len (f : Nat → Bool) : (flf f).length = 8 := rfl
theorem flf_drop {f : Nat → Bool} {k : Nat} {b : Bool} (hk : k < 8) (hb : f k = b) : (flf f).drop k = .bool b :: (flf f).drop (k + 1) := by
  rw [List.drop_eq_getElem_cons (by rw [flf_len]; exact hk)]
  simp [flf, hb]
theorem flf_put {f : Nat → Bool} {k : Nat} {b : Bool} (hk : k < 8) : putAt (flf f) k [.bool b] = flf (setF f k b) := by
  rw [putAt_set (by rw [flf_len]; exact hk)]
  refine List.ext_getElem (by simp [flf]) fun n h1 h2 => ?_
  have h8 : n < 8 := by simpa [flf] using h2
  simp only [flf, List.getElem_set, List.getElem_map, List.getElem_range, setF]
  by_cases h : k = n
  · rw [if_pos h, if_pos h.symm]
  · rw [if_neg h, if_neg fun e => h e.symm]
theorem flf_congr {f g : Nat → Bool} (h : ∀ k, k < 8 → f k = g k) : flf f = flf g := by
  unfold flf
  refine List.map_congr_left fun k hk => ?_
  rw [h k (by simpa using hk)]
theorem setF_setF {f : Nat → Bool} {k : Nat} {a b : Bool} : setF (setF f k a) k b = setF f k b := by
  funext n; unfold setF; split <;> rfl
theorem setF_at {f : Nat → Bool} {k : Nat} {a : Bool} : setF f k a k = a := if_pos rfl
theorem room8 {f : Nat → Bool} {k : Nat} (hk : k < 8) : Nat.ble (Nat.add k 1) (lenK (flf f)) = true := by
  rw [lenK_eq, flf_len]
  exact Nat.ble_eq_true_of_le (by show k + 1 ≤ 8; omega)

def anyFrom (d : Desk) (k j : Nat) : Bool := (List.range' j (d.bs.length - j)).any fun i => canB d (i : Int) (k : Int)
theorem any_end {d : Desk} {k j : Nat} (h : d.bs.length ≤ j) : anyFrom d k j = false := by
  unfold anyFrom
  rw [Nat.sub_eq_zero_of_le h]; rfl
theorem any_step {d : Desk} {k j : Nat} (h : j < d.bs.length) : anyFrom d k j = (canB d (j : Int) (k : Int) || anyFrom d k (j + 1)) := by
  unfold anyFrom
  rw [show d.bs.length - j = (d.bs.length - (j + 1)) + 1 by omega, List.range'_succ, List.any_cons]
theorem any_all (d : Desk) (k : Nat) : anyFrom d k 0 = someB d k := by
  unfold anyFrom someB
  rw [Nat.sub_zero, List.range_eq_range']

theorem a27_L2_step {B : Bnd} (hB : B = Bk) {cl : CallK} {rd : RoundK} (d : Desk) (hd : d.ok) (hnb : d.bs.length ≤ 6) (k0 : Nat) (hk : k0 < 8) (P : Nat) (f g : Nat → Bool)
    (H71 : ∀ i : Nat, cl 0 71 [d.v, .int .i64 (i : Int), .int .i64 (k0 : Int)] [] ansK = some (.bool (canB d (i : Int) (k0 : Int)), [])) (n : Nat) (k : Ex → Env → St → Ans) (r : Ans) :
    ∀ (j i0 : Nat) (acc : Bool), d.bs.length < i0 + j → i0 ≤ d.bs.length →
    (∀ x, k (.exit 2) [(2, .sl [] .nil), (3, .sl [] .nil), (5, .ptr 0 1 0), (6, .ptr 0 2 0), (7, .ptr 0 3 0), (8, .int .i64 (k0 : Int)), (24, .int .i64 (.ofNat P)), (25, .int .i64 (k0 : Int)), (31, .int .i64 (.ofNat d.bs.length)), (32, .int .i64 x)] [⟨[], []⟩, ⟨[.cells d.c, .cells d.c, .cells (flf (setF f k0 (acc || anyFrom d k0 i0))), .cells (flf g)], []⟩] = r) →
    B.loop (evCK B a27_L2) [2, 3, 5, 6, 7, 8, 24, 25, 31, 32] n j cl rd Gx 0 2 [(2, .sl [] .nil), (3, .sl [] .nil), (5, .ptr 0 1 0), (6, .ptr 0 2 0), (7, .ptr 0 3 0), (8, .int .i64 (k0 : Int)), (24, .int .i64 (.ofNat P)), (25, .int .i64 (k0 : Int)), (31, .int .i64 (.ofNat d.bs.length)), (32, .int .i64 (.ofNat i0))] [⟨[], []⟩, ⟨[.cells d.c, .cells d.c, .cells (flf (setF f k0 acc)), .cells (flf g)], []⟩] k = r := by
  intro j
  induction j with
  | zero => intro i0 acc h1 h2; omega
  | succ j ih =>
    intro i0 acc h1 h2 k1
    refine loop_succ hB ?_
    conv => lhs; whnf
    refine lt_nat hB (fun h => ?_) (fun h => ?_) <;> conv => lhs; whnf
    · rw [any_step h] at k1
      have HC := H71 i0
      cases acc
      · repeat' ((first | refine Qw hB ?_ | refine Qv hB hd.tp ?_ | refine Qv hB hd.tb ?_ | refine Q0 hB (by simp [purs, pur, hd.tp, hd.tb]) ?_ | refine Qq hB (iarr_ok rfl rfl rfl hk) ?_ | refine Qj hB (flf_drop hk setF_at) ?_ | refine Qx hB HC ?_ | refine Qk hB (flf_put hk) ?_ | refine Qo hB (room8 hk) ?_ | refine Q0 hB rfl ?_ | refine Q1 hB (by decide) ?_ | refine Q2 hB (by decide) ?_ | refine Q3 hB (by decide) ?_ | refine Q4 hB (by decide) ?_ | refine Q5 hB (by decide) ?_ | refine Q6 hB (by decide) ?_ | refine Q7 hB (by omega) (by omega) ?_ | refine Q8 hB ?_ | refine Q9 hB ?_ | refine Qa hB ?_ | refine Qb hB (fun _ => ?_) (fun _ => ?_) | refine Qc hB ?_ | refine Qd hB ?_ | refine Qe hB ?_ | refine Qf hB ?_ | refine Qg hB ?_ | refine Qh hB ?_ | refine Qi hB ?_ | refine Qj hB rfl ?_ | refine Qk hB rfl ?_ | refine Ql hB (by first | omega | decide) ?_ | refine Qm hB rfl ?_ | refine Qn hB ?_ | refine Qo hB rfl ?_ | refine Qo hB (Qp rfl) ?_ | refine Qq hB rfl ?_ | refine Qr hB ?_ | refine Qs hB ?_ | refine Qt hB ?_ | refine Qu hB ?_ | refine Qv hB rfl ?_) <;> conv => lhs; whnf)
        rw [setF_setF]
        refine ih (i0 + 1) _ (by omega) (by omega) fun x => ?_
        have k1 := k1 x
        rw [Bool.false_or] at k1
        exact k1
      · repeat' ((first | refine Qw hB ?_ | refine Qv hB hd.tp ?_ | refine Qv hB hd.tb ?_ | refine Qq hB (iarr_ok rfl rfl rfl hk) ?_ | refine Qj hB (flf_drop hk setF_at) ?_ | refine Qk hB (flf_put hk) ?_ | refine Qo hB (room8 hk) ?_ | refine Q0 hB rfl ?_ | refine Q1 hB (by decide) ?_ | refine Q2 hB (by decide) ?_ | refine Q3 hB (by decide) ?_ | refine Q4 hB (by decide) ?_ | refine Q5 hB (by decide) ?_ | refine Q6 hB (by decide) ?_ | refine Q7 hB (by omega) (by omega) ?_ | refine Q8 hB ?_ | refine Q9 hB ?_ | refine Qa hB ?_ | refine Qb hB (fun _ => ?_) (fun _ => ?_) | refine Qc hB ?_ | refine Qd hB ?_ | refine Qe hB ?_ | refine Qf hB ?_ | refine Qg hB ?_ | refine Qh hB ?_ | refine Qi hB ?_ | refine Qj hB rfl ?_ | refine Qk hB rfl ?_ | refine Ql hB (by first | omega | decide) ?_ | refine Qm hB rfl ?_ | refine Qn hB ?_ | refine Qo hB rfl ?_ | refine Qo hB (Qp rfl) ?_ | refine Qq hB rfl ?_ | refine Qr hB ?_ | refine Qs hB ?_ | refine Qt hB ?_ | refine Qu hB ?_ | refine Qv hB rfl ?_) <;> conv => lhs; whnf)
        rw [setF_setF]
        refine ih (i0 + 1) _ (by omega) (by omega) fun x => ?_
        have k1 := k1 x
        rw [Bool.true_or] at k1 ⊢
        exact k1
    · repeat' ((first | refine Q0 hB rfl ?_ | refine Q1 hB (by decide) ?_ | refine Q2 hB (by decide) ?_ | refine Q3 hB (by decide) ?_ | refine Q4 hB (by decide) ?_ | refine Q5 hB (by decide) ?_ | refine Q6 hB (by decide) ?_ | refine Q7 hB (by omega) (by omega) ?_ | refine Q8 hB ?_ | refine Q9 hB ?_ | refine Qa hB ?_ | refine Qb hB (fun _ => ?_) (fun _ => ?_) | refine Qc hB ?_ | refine Qd hB ?_ | refine Qe hB ?_ | refine Qf hB ?_ | refine Qg hB ?_ | refine Qh hB ?_ | refine Qi hB ?_ | refine Qj hB rfl ?_ | refine Qk hB rfl ?_ | refine Ql hB (by first | omega | decide) ?_ | refine Qm hB rfl ?_ | refine Qn hB ?_ | refine Qo hB rfl ?_ | refine Qo hB (Qp rfl) ?_ | refine Qq hB rfl ?_ | refine Qr hB ?_ | refine Qs hB ?_ | refine Qt hB ?_ | refine Qu hB ?_ | refine Qv hB rfl ?_) <;> conv => lhs; whnf)
      have hi : i0 = d.bs.length := by omega
      subst hi
      rw [any_end (Nat.le_refl _), Bool.or_false] at k1
      exact k1 _

/-- The answers so far. -/
def upto (f : Nat → Bool) (k n : Nat) : Bool := decide (n < k) && f n
theorem upto_next (f : Nat → Bool) (k : Nat) : setF (upto f k) k (f k) = upto f (k + 1) := by
  funext n; unfold setF upto
  split
  · rename_i h; subst h; simp
  · rename_i h
    have : decide (n < k) = decide (n < k + 1) := by rw [decide_eq_decide]; omega
    rw [this]
theorem upto_is {f : Nat → Bool} {k : Nat} {b : Bool} (h : f k = b) : setF (upto f k) k b = upto f (k + 1) := h ▸ upto_next f k
theorem upto_self (f : Nat → Bool) (k : Nat) : setF (upto f k) k false = upto f k := by
  funext n; unfold setF upto
  split
  · rename_i h; subst h; simp
  · rfl
theorem a27_L1_step {B : Bnd} (hB : B = Bk) {cl : CallK} {rd : RoundK} (d : Desk) (hd : d.ok) (hc : d.check = true)
    (H71 : ∀ i k : Nat, cl 0 71 [d.v, .int .i64 (i : Int), .int .i64 (k : Int)] [] ansK = some (.bool (canB d (i : Int) (k : Int)), []))
    (H74 : ∀ k : Nat, k < d.ps.length → ∃ tp, purTok tp = true ∧ cl 0 74 [d.v, .int .i64 (k : Int)] [] ansK = some ((lessP d k tp).v, []))
    (H75 : ∀ (k : Nat) (tp : Tok), k < d.ps.length → purTok tp = true → cl 0 75 [(lessP d k tp).v] [] ansK = some (.bool (!allB d k), [])) (n : Nat) (hn : 1000 ≤ n) (k : Ex → Env → St → Ans) (r : Ans) :
    ∀ (j i0 : Nat), d.ps.length < i0 + j → i0 ≤ d.ps.length →
    (∀ x, k (.exit 0) [(2, .sl [] .nil), (3, .sl [] .nil), (5, .ptr 0 1 0), (6, .ptr 0 2 0), (7, .ptr 0 3 0), (24, .int .i64 (.ofNat d.ps.length)), (25, .int .i64 x)] [⟨[.cells d.c, .cells d.c, .cells (flf (upto (someB d) d.ps.length)), .cells (flf (upto (allB d) d.ps.length))], []⟩] = r) →
    B.loop (evCK B a27_L1) [2, 3, 5, 6, 7, 24, 25] n j cl rd Gx 0 1 [(2, .sl [] .nil), (3, .sl [] .nil), (5, .ptr 0 1 0), (6, .ptr 0 2 0), (7, .ptr 0 3 0), (24, .int .i64 (.ofNat d.ps.length)), (25, .int .i64 (.ofNat i0))] [⟨[.cells d.c, .cells d.c, .cells (flf (upto (someB d) i0)), .cells (flf (upto (allB d) i0))], []⟩] k = r := by
  intro j
  induction j with
  | zero => intro i0 h1 h2; omega
  | succ j ih =>
    intro i0 h1 h2 k1
    have hnb := (check_fine hc).nb
    have hnp := (check_fine hc).np
    refine loop_succ hB ?_
    conv => lhs; whnf
    refine lt_nat hB (fun h => ?_) (fun h => ?_) <;> conv => lhs; whnf
    · obtain ⟨tp, htp, HW⟩ := H74 i0 h
      have HT := H75 i0 tp h htp
      have hk : i0 < 8 := by omega
      rw [← upto_self (someB d) i0]
      repeat' ((first | refine Qw hB ?_ | refine Qv hB hd.tp ?_ | refine Qv hB hd.tb ?_ | refine Q0 hB (by simp [purs, pur, hd.tp, hd.tb]) ?_ | refine a27_L2_step hB d hd hnb i0 hk d.ps.length (upto (someB d) i0) (upto (allB d) i0) (fun i => H71 i i0) _ _ _ _ 0 false (by omega) (by omega) (fun x => ?_) | refine Q0 hB rfl ?_ | refine Q1 hB (by decide) ?_ | refine Q2 hB (by decide) ?_ | refine Q3 hB (by decide) ?_ | refine Q4 hB (by decide) ?_ | refine Q5 hB (by decide) ?_ | refine Q6 hB (by decide) ?_ | refine Q7 hB (by omega) (by omega) ?_ | refine Q8 hB ?_ | refine Q9 hB ?_ | refine Qa hB ?_ | refine Qb hB (fun _ => ?_) (fun _ => ?_) | refine Qc hB ?_ | refine Qd hB ?_ | refine Qe hB ?_ | refine Qf hB ?_ | refine Qg hB ?_ | refine Qh hB ?_ | refine Qi hB ?_ | refine Qj hB rfl ?_ | refine Qk hB rfl ?_ | refine Ql hB (by first | omega | decide) ?_ | refine Qm hB rfl ?_ | refine Qn hB ?_ | refine Qo hB rfl ?_ | refine Qo hB (Qp rfl) ?_ | refine Qq hB rfl ?_ | refine Qr hB ?_ | refine Qs hB ?_ | refine Qt hB ?_ | refine Qu hB ?_ | refine Qv hB rfl ?_) <;> conv => lhs; whnf)
      rw [Bool.false_or, any_all, upto_next]
      cases ha : allB d i0
      all_goals
        rw [ha] at HT
        conv => lhs; whnf
        repeat' ((first | refine Qw hB ?_ | refine Qv hB hd.tp ?_ | refine Qv hB hd.tb ?_ | refine Qv hB htp ?_ | refine Q0 hB (by simp [purs, pur, hd.tp, hd.tb, htp, lessP]) ?_ | refine Qx hB HW ?_ | refine Qx hB HT ?_ | refine Qq hB (iarr_ok rfl rfl rfl hk) ?_ | refine Qk hB (flf_put hk) ?_ | refine Qo hB (room8 hk) ?_ | refine Q0 hB rfl ?_ | refine Q1 hB (by decide) ?_ | refine Q2 hB (by decide) ?_ | refine Q3 hB (by decide) ?_ | refine Q4 hB (by decide) ?_ | refine Q5 hB (by decide) ?_ | refine Q6 hB (by decide) ?_ | refine Q7 hB (by omega) (by omega) ?_ | refine Q8 hB ?_ | refine Q9 hB ?_ | refine Qa hB ?_ | refine Qb hB (fun _ => ?_) (fun _ => ?_) | refine Qc hB ?_ | refine Qd hB ?_ | refine Qe hB ?_ | refine Qf hB ?_ | refine Qg hB ?_ | refine Qh hB ?_ | refine Qi hB ?_ | refine Qj hB rfl ?_ | refine Qk hB rfl ?_ | refine Ql hB (by first | omega | decide) ?_ | refine Qm hB rfl ?_ | refine Qn hB ?_ | refine Qo hB rfl ?_ | refine Qo hB (Qp rfl) ?_ | refine Qq hB rfl ?_ | refine Qr hB ?_ | refine Qs hB ?_ | refine Qt hB ?_ | refine Qu hB ?_ | refine Qv hB rfl ?_) <;> conv => lhs; whnf)
        rw [upto_is ha]
        exact ih (i0 + 1) (by omega) (by omega) k1
    · repeat' ((first | refine Q0 hB rfl ?_ | refine Q1 hB (by decide) ?_ | refine Q2 hB (by decide) ?_ | refine Q3 hB (by decide) ?_ | refine Q4 hB (by decide) ?_ | refine Q5 hB (by decide) ?_ | refine Q6 hB (by decide) ?_ | refine Q7 hB (by omega) (by omega) ?_ | refine Q8 hB ?_ | refine Q9 hB ?_ | refine Qa hB ?_ | refine Qb hB (fun _ => ?_) (fun _ => ?_) | refine Qc hB ?_ | refine Qd hB ?_ | refine Qe hB ?_ | refine Qf hB ?_ | refine Qg hB ?_ | refine Qh hB ?_ | refine Qi hB ?_ | refine Qj hB rfl ?_ | refine Qk hB rfl ?_ | refine Ql hB (by first | omega | decide) ?_ | refine Qm hB rfl ?_ | refine Qn hB ?_ | refine Qo hB rfl ?_ | refine Qo hB (Qp rfl) ?_ | refine Qq hB rfl ?_ | refine Qr hB ?_ | refine Qs hB ?_ | refine Qt hB ?_ | refine Qu hB ?_ | refine Qv hB rfl ?_) <;> conv => lhs; whnf)
      have hi : i0 = d.ps.length := by omega
      subst hi
      exact k1 _

/-! ### two lists that grow -/
def TokIs (T : List (Nat × Nat × Nat)) (p : Nat) (l : List Int) : Prop := tokGet T p = if l = [] then (0, 0) else (1, l.length)
theorem app_is {f : Fr} {os : List AObj} {T : List (Nat × Nat × Nat)} {p : Nat} {acc : List Int} (hT : TokIs T p acc) (z : Int) (hl : acc.length ≤ 1000) :
    appAt 0 [f, ⟨os, T⟩] p 1 8 (.sl (rowsI acc) (tk 0 p acc)) (.sl [[.int .i64 z]] .full) = some (.sl (rowsI (acc ++ [z])) (tk 0 p (acc ++ [z])), [f, ⟨os, tokSet T p (1, acc.length + 1)⟩]) := by
  unfold TokIs at hT
  cases acc with
  | nil => simp at hT; simp [appAt, rowsAt, rowsI, tk, headFit, purs, pur, getTok, setTok, modFr, getFr, hT]
  | cons a acc =>
    have h1 : ((acc.length + 1 + 1) * 8 ≤ 140737488355328) := by simp at hl; omega
    simp at hT
    simp [appAt, rowsAt, rowsI, tk, headFit, purs, pur, getTok, setTok, modFr, getFr, hT, h1]
theorem tokIs_same {T : List (Nat × Nat × Nat)} {p : Nat} {acc : List Int} (z : Int) : TokIs (tokSet T p (1, acc.length + 1)) p (acc ++ [z]) := by
  unfold TokIs
  rw [tok_set, if_pos rfl, if_neg (by simp)]
  simp
theorem tokIs_other {T : List (Nat × Nat × Nat)} {p q : Nat} {acc : List Int} {x : Nat × Nat} (h : TokIs T q acc) (hpq : p ≠ q) : TokIs (tokSet T p x) q acc := by
  unfold TokIs
  rw [tok_set, if_neg hpq]; exact h
theorem listB_end {P j : Nat} {f : Nat → Bool} (h : P ≤ j) : listB P f j = [] := by
  unfold listB
  rw [Nat.sub_eq_zero_of_le h]; rfl
theorem listB_yes {P j : Nat} {f : Nat → Bool} (h : j < P) (hf : f j = true) : listB P f j = (j : Int) :: listB P f (j + 1) := by
  unfold listB
  rw [show P - j = (P - (j + 1)) + 1 by omega, List.range'_succ, List.filter_cons_of_pos hf]; rfl
theorem listB_no {P j : Nat} {f : Nat → Bool} (h : j < P) (hf : f j = false) : listB P f j = listB P f (j + 1) := by
  unfold listB
  rw [show P - j = (P - (j + 1)) + 1 by omega, List.range'_succ, List.filter_cons_of_neg (by rw [hf]; exact Bool.false_ne_true)]

theorem a27_L3_step {B : Bnd} (hB : B = Bk) {cl : CallK} {rd : RoundK} (P : Nat) (hP : P ≤ 8) (fs fa : Nat → Bool) (o0 o1 : AObj) (n : Nat) (k : Ex → Env → St → Ans) (r : Ans) :
    ∀ (j i0 : Nat) (ls lp : List Int) (T : List (Nat × Nat × Nat)), P < i0 + j → i0 ≤ P → ls.length ≤ i0 → lp.length ≤ i0 → TokIs T 71 ls → TokIs T 78 lp →
    (∀ x T', k (.exit 4) [(2, .sl (rowsI (ls ++ listB P fa i0)) (tk 0 71 (ls ++ listB P fa i0))), (3, .sl (rowsI (lp ++ listB P (fun k => !fa k && fs k) i0)) (tk 0 78 (lp ++ listB P (fun k => !fa k && fs k) i0))), (6, .ptr 0 2 0), (7, .ptr 0 3 0), (61, .int .i64 (.ofNat P)), (62, .int .i64 x)] [⟨[o0, o1, .cells (flf fs), .cells (flf fa)], T'⟩] = r) →
    B.loop (evCK B a27_L3) [2, 3, 6, 7, 61, 62] n j cl rd Gx 0 1 [(2, .sl (rowsI ls) (tk 0 71 ls)), (3, .sl (rowsI lp) (tk 0 78 lp)), (6, .ptr 0 2 0), (7, .ptr 0 3 0), (61, .int .i64 (.ofNat P)), (62, .int .i64 (.ofNat i0))] [⟨[o0, o1, .cells (flf fs), .cells (flf fa)], T⟩] k = r := by
  intro j
  induction j with
  | zero => intro i0 ls lp T h1 h2; omega
  | succ j ih =>
    intro i0 ls lp T h1 h2 h3 h4 hT hT' k1
    refine loop_succ hB ?_
    conv => lhs; whnf
    refine lt_nat hB (fun h => ?_) (fun h => ?_) <;> conv => lhs; whnf
    · have hk : i0 < 8 := by omega
      cases ha : fa i0
      · cases hs : fs i0
        · rw [listB_no h ha, listB_no (f := fun k => !fa k && fs k) h (by simp [ha, hs])] at k1
          repeat' ((first | refine Qw hB ?_ | refine Qq hB (iarr_ok rfl rfl rfl hk) ?_ | refine Qj hB (flf_drop hk ha) ?_ | refine Qj hB (flf_drop hk hs) ?_ | refine Q0 hB rfl ?_ | refine Q1 hB (by decide) ?_ | refine Q2 hB (by decide) ?_ | refine Q3 hB (by decide) ?_ | refine Q4 hB (by decide) ?_ | refine Q5 hB (by decide) ?_ | refine Q6 hB (by decide) ?_ | refine Q7 hB (by omega) (by omega) ?_ | refine Q8 hB ?_ | refine Q9 hB ?_ | refine Qa hB ?_ | refine Qb hB (fun _ => ?_) (fun _ => ?_) | refine Qc hB ?_ | refine Qd hB ?_ | refine Qe hB ?_ | refine Qf hB ?_ | refine Qg hB ?_ | refine Qh hB ?_ | refine Qi hB ?_ | refine Qj hB rfl ?_ | refine Qk hB rfl ?_ | refine Ql hB (by first | omega | decide) ?_ | refine Qm hB rfl ?_ | refine Qn hB ?_ | refine Qo hB rfl ?_ | refine Qo hB (Qp rfl) ?_ | refine Qq hB rfl ?_ | refine Qr hB ?_ | refine Qs hB ?_ | refine Qt hB ?_ | refine Qu hB ?_ | refine Qv hB rfl ?_) <;> conv => lhs; whnf)
          rw [clamp_tk (by omega), clamp_tk (by omega)]
          exact ih (i0 + 1) ls lp T (by omega) (by omega) (by omega) (by omega) hT hT' k1
        · rw [listB_no h ha, listB_yes (f := fun k => !fa k && fs k) h (by simp [ha, hs])] at k1
          repeat' ((first | refine Qw hB ?_ | refine Qq hB (iarr_ok rfl rfl rfl hk) ?_ | refine Qj hB (flf_drop hk ha) ?_ | refine Qj hB (flf_drop hk hs) ?_ | refine Qq hB (app_is hT' (i0 : Int) (by omega)) ?_ | refine Q0 hB rfl ?_ | refine Q1 hB (by decide) ?_ | refine Q2 hB (by decide) ?_ | refine Q3 hB (by decide) ?_ | refine Q4 hB (by decide) ?_ | refine Q5 hB (by decide) ?_ | refine Q6 hB (by decide) ?_ | refine Q7 hB (by omega) (by omega) ?_ | refine Q8 hB ?_ | refine Q9 hB ?_ | refine Qa hB ?_ | refine Qb hB (fun _ => ?_) (fun _ => ?_) | refine Qc hB ?_ | refine Qd hB ?_ | refine Qe hB ?_ | refine Qf hB ?_ | refine Qg hB ?_ | refine Qh hB ?_ | refine Qi hB ?_ | refine Qj hB rfl ?_ | refine Qk hB rfl ?_ | refine Ql hB (by first | omega | decide) ?_ | refine Qm hB rfl ?_ | refine Qn hB ?_ | refine Qo hB rfl ?_ | refine Qo hB (Qp rfl) ?_ | refine Qq hB rfl ?_ | refine Qr hB ?_ | refine Qs hB ?_ | refine Qt hB ?_ | refine Qu hB ?_ | refine Qv hB rfl ?_) <;> conv => lhs; whnf)
          rw [clamp_tk (by omega), clamp_tk (by omega)]
          refine ih (i0 + 1) ls (lp ++ [(i0 : Int)]) _ (by omega) (by omega) (by omega) (by simp; omega) (tokIs_other hT (by decide)) (tokIs_same _) ?_
          rw [List.append_assoc]; exact k1
      · rw [listB_yes h ha, listB_no (f := fun k => !fa k && fs k) h (by simp [ha])] at k1
        repeat' ((first | refine Qw hB ?_ | refine Qq hB (iarr_ok rfl rfl rfl hk) ?_ | refine Qj hB (flf_drop hk ha) ?_ | refine Qq hB (app_is hT (i0 : Int) (by omega)) ?_ | refine Q0 hB rfl ?_ | refine Q1 hB (by decide) ?_ | refine Q2 hB (by decide) ?_ | refine Q3 hB (by decide) ?_ | refine Q4 hB (by decide) ?_ | refine Q5 hB (by decide) ?_ | refine Q6 hB (by decide) ?_ | refine Q7 hB (by omega) (by omega) ?_ | refine Q8 hB ?_ | refine Q9 hB ?_ | refine Qa hB ?_ | refine Qb hB (fun _ => ?_) (fun _ => ?_) | refine Qc hB ?_ | refine Qd hB ?_ | refine Qe hB ?_ | refine Qf hB ?_ | refine Qg hB ?_ | refine Qh hB ?_ | refine Qi hB ?_ | refine Qj hB rfl ?_ | refine Qk hB rfl ?_ | refine Ql hB (by first | omega | decide) ?_ | refine Qm hB rfl ?_ | refine Qn hB ?_ | refine Qo hB rfl ?_ | refine Qo hB (Qp rfl) ?_ | refine Qq hB rfl ?_ | refine Qr hB ?_ | refine Qs hB ?_ | refine Qt hB ?_ | refine Qu hB ?_ | refine Qv hB rfl ?_) <;> conv => lhs; whnf)
        rw [clamp_tk (by omega), clamp_tk (by omega)]
        refine ih (i0 + 1) (ls ++ [(i0 : Int)]) lp _ (by omega) (by omega) (by simp; omega) (by omega) (tokIs_same _) (tokIs_other hT' (by decide)) ?_
        rw [List.append_assoc]; exact k1
    · repeat' ((first | refine Q0 hB rfl ?_ | refine Q1 hB (by decide) ?_ | refine Q2 hB (by decide) ?_ | refine Q3 hB (by decide) ?_ | refine Q4 hB (by decide) ?_ | refine Q5 hB (by decide) ?_ | refine Q6 hB (by decide) ?_ | refine Q7 hB (by omega) (by omega) ?_ | refine Q8 hB ?_ | refine Q9 hB ?_ | refine Qa hB ?_ | refine Qb hB (fun _ => ?_) (fun _ => ?_) | refine Qc hB ?_ | refine Qd hB ?_ | refine Qe hB ?_ | refine Qf hB ?_ | refine Qg hB ?_ | refine Qh hB ?_ | refine Qi hB ?_ | refine Qj hB rfl ?_ | refine Qk hB rfl ?_ | refine Ql hB (by first | omega | decide) ?_ | refine Qm hB rfl ?_ | refine Qn hB ?_ | refine Qo hB rfl ?_ | refine Qo hB (Qp rfl) ?_ | refine Qq hB rfl ?_ | refine Qr hB ?_ | refine Qs hB ?_ | refine Qt hB ?_ | refine Qu hB ?_ | refine Qv hB rfl ?_) <;> conv => lhs; whnf)
      have hi : i0 = P := by omega
      subst hi
      rw [listB_end (Nat.le_refl _), listB_end (Nat.le_refl _), List.append_nil, List.append_nil] at k1
      rw [clamp_tk (by omega), clamp_tk (by omega)]
      exact k1 _ _

theorem none8_ev {n : Nat} (hn : 2 ≤ n) : (evKR Bk Gx fsT n).1 0 62 [] [] ansK = some (.agg (flf fun _ => false), []) := by
  refine call_open (show fsT.find 62 = some a62 from rfl) (by omega) fun n' B cl rd hn' hB hcl hrd => ?_
  conv => lhs; whnf
  repeat' ((first | refine Qw hB ?_ | refine Q0 hB rfl ?_ | refine Q1 hB (by decide) ?_ | refine Q2 hB (by decide) ?_ | refine Q3 hB (by decide) ?_ | refine Q4 hB (by decide) ?_ | refine Q5 hB (by decide) ?_ | refine Q6 hB (by decide) ?_ | refine Q7 hB (by omega) (by omega) ?_ | refine Q8 hB ?_ | refine Q9 hB ?_ | refine Qa hB ?_ | refine Qb hB (fun _ => ?_) (fun _ => ?_) | refine Qc hB ?_ | refine Qd hB ?_ | refine Qe hB ?_ | refine Qf hB ?_ | refine Qg hB ?_ | refine Qh hB ?_ | refine Qi hB ?_ | refine Qj hB rfl ?_ | refine Qk hB rfl ?_ | refine Ql hB (by first | omega | decide) ?_ | refine Qm hB rfl ?_ | refine Qn hB ?_ | refine Qo hB rfl ?_ | refine Qo hB (Qp rfl) ?_ | refine Qq hB rfl ?_ | refine Qr hB ?_ | refine Qs hB ?_ | refine Qt hB ?_ | refine Qu hB ?_ | refine Qv hB rfl ?_) <;> conv => lhs; whnf)
  all_goals rfl
theorem eqL_bools : ∀ (x y : List Bool), x.length = y.length → eqL (x.map fun _ => SK.bool) (x.map AV.bool) (y.map AV.bool) = some (x == y)
  | [], [], _ => rfl
  | a :: x, b :: y, h => by
    have ih := eqL_bools x y (by simpa using h)
    simp only [List.map_cons, eqL, eqS, Option.bind_some]
    cases hab : a == b
    · simp [hab]
    · rw [if_pos rfl, ih]
      simp only [beq_iff_eq] at hab
      subst hab
      simp
def bl (f : Nat → Bool) : List Bool := (List.range 8).map f
theorem flf_bl (f : Nat → Bool) : flf f = (bl f).map AV.bool := by simp [flf, bl]
theorem eq8 (f g : Nat → Bool) : (eqK (.agg [.bool, .bool, .bool, .bool, .bool, .bool, .bool, .bool]) (.agg (flf f)) (.agg (flf g))).map (fun t => AV.bool (if false = true then !t else t)) = some (.bool (bl f == bl g)) := by
  have h := eqL_bools (bl f) (bl g) rfl
  have h1 : (bl f).map (fun _ => SK.bool) = [.bool, .bool, .bool, .bool, .bool, .bool, .bool, .bool] := rfl
  rw [h1] at h
  have h2 : eqK (.agg [.bool, .bool, .bool, .bool, .bool, .bool, .bool, .bool]) (.agg (flf f)) (.agg (flf g)) = eqL [.bool, .bool, .bool, .bool, .bool, .bool, .bool, .bool] (flf f) (flf g) := rfl
  rw [h2, flf_bl, flf_bl, h]
  rfl
theorem bl_eq {f g : Nat → Bool} : (bl f == bl g) = true ↔ ∀ k, k < 8 → f k = g k := by
  rw [beq_iff_eq]
  unfold bl
  constructor
  · intro h k hk
    have := List.map_inj_left.1 h k (by simpa using hk)
    exact this
  · intro h
    exact List.map_congr_left fun k hk => h k (by simpa using hk)
set_option maxHeartbeats 4000000 in
theorem Back_ev {n : Nat} (hn : 1000000000000600 ≤ n) (d : Desk) (hd : d.ok) : (evKR Bk Gx fsT n).1 0 27 [d.v] [] ansK = some (.tup [.sl (rowsI (surelyR d)) (wtok (surelyR d)), .sl (rowsI (perhapsR d)) (wtok (perhapsR d)), .int .i64 (askE d true)], []) := by
  refine call_open (show fsT.find 27 = some a27 from rfl) (by omega) fun n' B cl rd hn' hB hcl hrd => ?_
  have H63 := asked0_ev (n := n') (by omega) d hd
  have H62 := none8_ev (n := n') (by omega)
  rw [← hcl] at H63 H62
  unfold surelyR perhapsR
  by_cases he : askE d true = 0
  · obtain ⟨hc, ht⟩ := ask_true he
    have hf := check_fine hc
    have hnp := hf.np
    have hnb := hf.nb
    have H71 : ∀ i k : Nat, (evKR Bk Gx fsT n').1 0 71 [d.v, .int .i64 (i : Int), .int .i64 (k : Int)] [] ansK = some (.bool (canB d (i : Int) (k : Int)), []) := fun i k => can_ev (n := n') (by omega) d hd hc i k
    have H74 : ∀ k : Nat, k < d.ps.length → ∃ tp, purTok tp = true ∧ (evKR Bk Gx fsT n').1 0 74 [d.v, .int .i64 (k : Int)] [] ansK = some ((lessP d k tp).v, []) := fun k hk => without_ev (n := n') (by omega) d hd hnp k hk rfl
    have H75 : ∀ (k : Nat) (tp : Tok), k < d.ps.length → purTok tp = true → (evKR Bk Gx fsT n').1 0 75 [(lessP d k tp).v] [] ansK = some (.bool (!allB d k), []) := fun k tp hk htp => by
      rw [← allB_tok hc hk tp]
      exact true_ev (n := n') (by omega) (lessP d k tp) (lessP_ok hd htp) (lessP_check hc hk tp)
    rw [← hcl] at H71 H74 H75
    rw [show askD d true = d from if_pos he, he] at H63
    rw [if_pos he, if_pos he, he]
    have hz0 : ∀ f : Nat → Bool, flf (upto f 0) = flf fun _ => false := fun f => flf_congr fun k _ => by simp [upto]
    have hL1 := fun (k : Ex → Env → St → Ans) (r : Ans) => a27_L1_step hB (rd := rd) d hd hc H71 H74 H75 n' (by omega) k r n' 0 (by omega) (by omega)
    rw [hz0, hz0] at hL1
    have hE := eq8 (upto (someB d) d.ps.length) (fun _ => false)
    cases hb : bl (upto (someB d) d.ps.length) == bl (fun _ => false)
    · rw [hb] at hE
      have hS : ∀ x : Nat, sliceAV 1 (.sl (rowsI (surelyL d)) (tk 0 71 (surelyL d))) none (some (.int .i64 (.ofNat (surelyL d).length))) (some (.int .i64 (.ofNat (surelyL d).length))) = some (.sl (rowsI (surelyL d)) (wtok (surelyL d))) := fun _ => slice_tk _
      have hQ : sliceAV 1 (.sl (rowsI (perhapsL d)) (tk 0 78 (perhapsL d))) none (some (.int .i64 (.ofNat (perhapsL d).length))) (some (.int .i64 (.ofNat (perhapsL d).length))) = some (.sl (rowsI (perhapsL d)) (wtok (perhapsL d))) := slice_tk _
      have eS : [] ++ listB d.ps.length (upto (allB d) d.ps.length) 0 = surelyL d := by
        rw [List.nil_append]
        unfold surelyL listB
        congr 1
        refine List.filter_congr fun k hk => ?_
        simp only [List.mem_range'] at hk
        obtain ⟨m, h1, rfl⟩ := hk
        simp [upto]; omega
      have eP : [] ++ listB d.ps.length (fun k => !upto (allB d) d.ps.length k && upto (someB d) d.ps.length k) 0 = perhapsL d := by
        rw [List.nil_append]
        unfold perhapsL listB
        congr 1
        refine List.filter_congr fun k hk => ?_
        simp only [List.mem_range'] at hk
        obtain ⟨m, h1, rfl⟩ := hk
        have : 0 + 1 * m < d.ps.length := by omega
        simp only [upto, decide_eq_true this, Bool.true_and]
      have hL3 := fun o0 o1 (k : Ex → Env → St → Ans) (r : Ans) => a27_L3_step hB (cl := cl) (rd := rd) d.ps.length hnp (upto (someB d) d.ps.length) (upto (allB d) d.ps.length) o0 o1 n' k r n' 0 [] [] [] (by omega) (by omega) (by simp) (by simp) rfl rfl
      rw [eS, eP] at hL3
      conv => lhs; whnf
      repeat' ((first | refine Qw hB ?_ | refine Qv hB hd.tp ?_ | refine Qv hB hd.tb ?_ | refine Q0 hB (by simp [purs, pur, hd.tp, hd.tb]) ?_ | refine Qx hB H63 ?_ | refine Qx hB H62 ?_ | refine hL1 _ _ (fun x => ?_) | refine Qm hB hE ?_ | refine hL3 _ _ _ _ (fun x T => ?_) | refine Qm hB (hS 0) ?_ | refine Qm hB hQ ?_ | refine Qf hB ?_ | refine Qv hB (wtok_pur (surelyL d)) ?_ | refine Qv hB (wtok_pur (perhapsL d)) ?_ | refine Q0 hB rfl ?_ | refine Q1 hB (by decide) ?_ | refine Q2 hB (by decide) ?_ | refine Q3 hB (by decide) ?_ | refine Q4 hB (by decide) ?_ | refine Q5 hB (by decide) ?_ | refine Q6 hB (by decide) ?_ | refine Q7 hB (by omega) (by omega) ?_ | refine Q8 hB ?_ | refine Q9 hB ?_ | refine Qa hB ?_ | refine Qb hB (fun _ => ?_) (fun _ => ?_) | refine Qc hB ?_ | refine Qd hB ?_ | refine Qe hB ?_ | refine Qf hB ?_ | refine Qg hB ?_ | refine Qh hB ?_ | refine Qi hB ?_ | refine Qj hB rfl ?_ | refine Qk hB rfl ?_ | refine Ql hB (by first | omega | decide) ?_ | refine Qm hB rfl ?_ | refine Qn hB ?_ | refine Qo hB rfl ?_ | refine Qo hB (Qp rfl) ?_ | refine Qq hB rfl ?_ | refine Qr hB ?_ | refine Qs hB ?_ | refine Qt hB ?_ | refine Qu hB ?_ | refine Qv hB rfl ?_) <;> conv => lhs; whnf)
      all_goals rfl
    · rw [hb] at hE
      have hz := bl_eq.1 hb
      have hno : ∀ k, k < d.ps.length → someB d k = false := fun k hk => by
        have := hz k (by omega)
        simpa [upto, hk] using this
      have eS : surelyL d = [] := by
        unfold surelyL listB
        rw [List.map_eq_nil_iff, List.filter_eq_nil_iff]
        intro k hk ha
        simp only [List.mem_range'] at hk
        obtain ⟨m, h1, rfl⟩ := hk
        have := all_some hc ht (by omega) ha
        rw [hno _ (by omega)] at this
        cases this
      have eP : perhapsL d = [] := by
        unfold perhapsL listB
        rw [List.map_eq_nil_iff, List.filter_eq_nil_iff]
        intro k hk ha
        simp only [List.mem_range'] at hk
        obtain ⟨m, h1, rfl⟩ := hk
        rw [hno _ (by omega)] at ha
        simp at ha
      rw [eS, eP]
      conv => lhs; whnf
      repeat' ((first | refine Qw hB ?_ | refine Qv hB hd.tp ?_ | refine Qv hB hd.tb ?_ | refine Q0 hB (by simp [purs, pur, hd.tp, hd.tb]) ?_ | refine Qx hB H63 ?_ | refine Qx hB H62 ?_ | refine hL1 _ _ (fun x => ?_) | refine Qm hB hE ?_ | refine Q0 hB rfl ?_ | refine Q1 hB (by decide) ?_ | refine Q2 hB (by decide) ?_ | refine Q3 hB (by decide) ?_ | refine Q4 hB (by decide) ?_ | refine Q5 hB (by decide) ?_ | refine Q6 hB (by decide) ?_ | refine Q7 hB (by omega) (by omega) ?_ | refine Q8 hB ?_ | refine Q9 hB ?_ | refine Qa hB ?_ | refine Qb hB (fun _ => ?_) (fun _ => ?_) | refine Qc hB ?_ | refine Qd hB ?_ | refine Qe hB ?_ | refine Qf hB ?_ | refine Qg hB ?_ | refine Qh hB ?_ | refine Qi hB ?_ | refine Qj hB rfl ?_ | refine Qk hB rfl ?_ | refine Ql hB (by first | omega | decide) ?_ | refine Qm hB rfl ?_ | refine Qn hB ?_ | refine Qo hB rfl ?_ | refine Qo hB (Qp rfl) ?_ | refine Qq hB rfl ?_ | refine Qr hB ?_ | refine Qs hB ?_ | refine Qt hB ?_ | refine Qu hB ?_ | refine Qv hB rfl ?_) <;> conv => lhs; whnf)
      all_goals rfl
  · rw [if_neg he, if_neg he]
    rw [show askD d true = zeroD from if_neg he] at H63
    conv => lhs; whnf
    repeat' ((first | refine Qw hB ?_ | refine Qv hB hd.tp ?_ | refine Qv hB hd.tb ?_ | refine Q0 hB (by simp [purs, pur, hd.tp, hd.tb]) ?_ | refine Qx hB H63 ?_ | refine Q6 hB he ?_ | refine Q0 hB rfl ?_ | refine Q1 hB (by decide) ?_ | refine Q2 hB (by decide) ?_ | refine Q3 hB (by decide) ?_ | refine Q4 hB (by decide) ?_ | refine Q5 hB (by decide) ?_ | refine Q6 hB (by decide) ?_ | refine Q7 hB (by omega) (by omega) ?_ | refine Q8 hB ?_ | refine Q9 hB ?_ | refine Qa hB ?_ | refine Qb hB (fun _ => ?_) (fun _ => ?_) | refine Qc hB ?_ | refine Qd hB ?_ | refine Qe hB ?_ | refine Qf hB ?_ | refine Qg hB ?_ | refine Qh hB ?_ | refine Qi hB ?_ | refine Qj hB rfl ?_ | refine Qk hB rfl ?_ | refine Ql hB (by first | omega | decide) ?_ | refine Qm hB rfl ?_ | refine Qn hB ?_ | refine Qo hB rfl ?_ | refine Qo hB (Qp rfl) ?_ | refine Qq hB rfl ?_ | refine Qr hB ?_ | refine Qs hB ?_ | refine Qt hB ?_ | refine Qu hB ?_ | refine Qv hB rfl ?_) <;> conv => lhs; whnf)
    all_goals rfl
end Go.Ab.Cl

namespace Go.Ab.Cl
open Go.Ab

theorem go_le {d : Desk} : ∀ {l : List Int} {i t : Nat} {o o' : Int}, truthGo d l i t o = some o' → o ≤ o'
  | [], i, t, o, o', h => by simp only [truthGo, Option.some.injEq] at h; omega
  | k :: l, i, t, o, o', h => by
    simp only [truthGo] at h
    split at h
    · split at h
      · have := go_le h; omega
      · cases h
    · split at h
      · exact go_le h
      · cases h
theorem go_suf {d : Desk} : ∀ (m t : Nat) (o : Int) (l : List Int), l.length = m → m ≤ d.bs.length → o ≤ d.strange → ((∃ o', truthGo d l (d.bs.length - m) t o = some o' ∧ o' ≤ d.strange) ↔ Suf d (fun _ => none) m t o l)
  | 0, t, o, l, hl, hm, ho => by
    obtain rfl := List.length_eq_zero_iff.1 hl
    exact ⟨fun _ => rfl, fun _ => ⟨o, rfl, ho⟩⟩
  | m + 1, t, o, [], hl, hm, ho => by simp at hl
  | m + 1, t, o, k :: l, hl, hm, ho => by
    have hl2 : l.length = m := by simpa using hl
    have hi : d.bs.length - (m + 1) + 1 = d.bs.length - m := by omega
    simp only [truthGo, hi]
    constructor
    · rintro ⟨o', h, h'⟩
      split at h
      · rename_i hk
        split at h
        · rename_i hodd
          have := go_le h
          exact ⟨k, l, rfl, opts_iff.2 (.inl ⟨hk, hodd⟩), rfl, by rw [if_pos hk]; exact ⟨by omega, (go_suf m t (o + 1) l hl2 (by omega) (by omega)).1 ⟨o', h, h'⟩⟩⟩
        · cases h
      · rename_i hk
        split at h
        · rename_i hf
          obtain ⟨n, rfl⟩ : ∃ n : Nat, k = (n : Int) := ⟨k.toNat, by omega⟩
          refine ⟨(n : Int), l, rfl, opts_iff.2 (.inr ⟨n, rfl, by simpa using hf.2⟩), rfl, ?_⟩
          rw [if_neg hk]
          exact (go_suf m _ o l hl2 (by omega) ho).1 ⟨o', h, h'⟩
        · cases h
    · rintro ⟨k', l', he, hk', _, hch⟩
      cases he
      rcases opts_iff.1 hk' with ⟨rfl, hodd⟩ | ⟨n, rfl, hf⟩
      · rw [if_pos rfl] at hch
        obtain ⟨o', h1, h2⟩ := (go_suf m t (o + 1) l hl2 (by omega) (by omega)).2 hch.2
        exact ⟨o', by rw [if_pos rfl, if_pos hodd]; exact h1, h2⟩
      · have hn : ¬ ((n : Int) = -1) := by omega
        rw [if_neg hn] at hch
        obtain ⟨o', h1, h2⟩ := (go_suf m _ o l hl2 (by omega) ho).2 hch
        exact ⟨o', by rw [if_neg hn, if_pos ⟨by omega, by simpa using hf⟩]; exact h1, h2⟩
theorem truthV_iff {d : Desk} (hc : d.check = true) (l : List Int) : truthV d l = true ↔ Tr d l := by
  have hs := check_strange hc
  unfold truthV
  constructor
  · intro h
    split at h
    · rename_i hl
      cases hg : truthGo d l 0 0 0 with
      | none => rw [hg] at h; cases h
      | some o =>
        rw [hg] at h
        have h : o ≤ d.strange := by simpa using h
        have := (go_suf d.bs.length 0 0 l hl.2 (Nat.le_refl _) hs.1).1 ⟨o, by rw [Nat.sub_self]; exact hg, h⟩
        exact ((Suf_all hs.1).1 this).1
    · cases h
  · intro h
    rw [if_pos ⟨hc, h.len⟩]
    have := (Suf_all (g := fun _ => none) hs.1).2 ⟨h, fun _ _ _ => rfl⟩
    obtain ⟨o, h1, h2⟩ := (go_suf d.bs.length 0 0 l h.len (Nat.le_refl _) hs.1).2 this
    rw [Nat.sub_self] at h1
    rw [h1]; simpa using h2
end Go.Ab.Cl
