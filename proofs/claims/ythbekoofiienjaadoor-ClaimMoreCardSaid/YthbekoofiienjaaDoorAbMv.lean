/-
  A frame's objects go over to the frame below.
-/
import Derived.Test.YthbekoofiienjaaDoorAbFrz
namespace Go.Ab
open Go

mutual
theorem mvV_low {l n : Nat} (hl : 0 < l) : ∀ (v v' : AV), mvV l n v = some v' → low (l - 1) v' = true ∧ (oneCell v = true → oneCell v' = true)
  | .undef, v', h => by simp [mvV] at h
  | .int .., v', h => by simp only [mvV, Option.some.injEq] at h; subst h; exact ⟨rfl, fun h => h⟩
  | .bool _, v', h => by simp only [mvV, Option.some.injEq] at h; subst h; exact ⟨rfl, fun h => h⟩
  | .str _, v', h => by simp only [mvV, Option.some.injEq] at h; subst h; exact ⟨rfl, fun h => h⟩
  | .nilP, v', h => by simp only [mvV, Option.some.injEq] at h; subst h; exact ⟨rfl, fun h => h⟩
  | .nilM, v', h => by simp only [mvV, Option.some.injEq] at h; subst h; exact ⟨rfl, fun h => h⟩
  | .nilF, v', h => by simp only [mvV, Option.some.injEq] at h; subst h; exact ⟨rfl, fun h => h⟩
  | .nilI, v', h => by simp only [mvV, Option.some.injEq] at h; subst h; exact ⟨rfl, fun h => h⟩
  | .rp _, v', h => by simp only [mvV, Option.some.injEq] at h; subst h; exact ⟨rfl, fun h => h⟩
  | .pm _, v', h => by simp only [mvV, Option.some.injEq] at h; subst h; exact ⟨rfl, fun h => h⟩
  | .sl r t, v', h => by simp only [mvV, Option.some.injEq] at h; subst h; exact ⟨by cases t <;> rfl, fun _ => rfl⟩
  | .ptr l' i o, v', h => by
    simp only [mvV] at h
    split at h
    · cases h; exact ⟨by simp [low]; omega, fun _ => rfl⟩
    · split at h
      · cases h; exact ⟨by simp [low], fun _ => rfl⟩
      · cases h
  | .os l' i o k e, v', h => by
    simp only [mvV] at h
    split at h
    · cases h; exact ⟨by simp [low]; omega, fun _ => rfl⟩
    · split at h
      · cases h; exact ⟨by simp [low], fun _ => rfl⟩
      · cases h
  | .mp l' i, v', h => by
    simp only [mvV] at h
    split at h
    · cases h; exact ⟨by simp [low]; omega, fun _ => rfl⟩
    · split at h
      · cases h; exact ⟨by simp [low], fun _ => rfl⟩
      · cases h
  | .yl l' i, v', h => by
    simp only [mvV] at h
    split at h
    · cases h; exact ⟨by simp [low]; omega, fun _ => rfl⟩
    · cases h
  | .fn f a b, v', h => by
    simp only [mvV, Option.bind_eq_some_iff, Option.map_eq_some_iff] at h
    obtain ⟨a', h1, b', h2, rfl⟩ := h
    exact ⟨by simp only [low, (mvVs_low hl _ _ h1).1, (mvVs_low hl _ _ h2).1, Bool.and_self], fun _ => rfl⟩
  | .agg c, v', h => by
    simp only [mvV, Option.map_eq_some_iff] at h
    obtain ⟨a', h1, rfl⟩ := h
    exact ⟨(mvVs_low hl _ _ h1).1, fun h => h⟩
  | .tup c, v', h => by
    simp only [mvV, Option.map_eq_some_iff] at h
    obtain ⟨a', h1, rfl⟩ := h
    exact ⟨(mvVs_low hl _ _ h1).1, fun h => h⟩
theorem mvVs_low {l n : Nat} (hl : 0 < l) : ∀ (c c' : List AV), mvVs l n c = some c' → lows (l - 1) c' = true ∧ ((∀ v ∈ c, oneCell v = true) → ∀ v ∈ c', oneCell v = true)
  | [], c', h => by simp only [mvVs, Option.some.injEq] at h; subst h; simp [lows]
  | v :: r, c', h => by
    simp only [mvVs, Option.bind_eq_some_iff, Option.map_eq_some_iff] at h
    obtain ⟨v', h1, r', h2, rfl⟩ := h
    refine ⟨by simp only [lows, (mvV_low hl _ _ h1).1, (mvVs_low hl _ _ h2).1, Bool.and_self], fun ho w hw => ?_⟩
    rcases List.mem_cons.1 hw with rfl | hw
    · exact (mvV_low hl _ _ h1).2 (ho v (by simp))
    · exact (mvVs_low hl _ _ h2).2 (fun u hu => ho u (by simp [hu])) w hw
end

/-- The uppermost frame (of level L) lies behind the n objects of the frame below. -/
def Cf.over (c : Cf) (L n : Nat) : Cf := { c with
  sg := fun l i => if l + 1 < L then c.sg l i else if l + 1 = L then (if i < n then c.sg l i else c.sg L (i - n)) else none
  tk := fun l p => if l < L then c.tk l p else none }

theorem over_sg {c : Cf} {L n l i b : Nat} (h : (c.over L n).sg l i = some b) : l < L ∧ ((l + 1 = L ∧ n ≤ i ∧ c.sg L (i - n) = some b) ∨ ((l + 1 < L ∨ i < n) ∧ c.sg l i = some b)) := by
  simp only [Cf.over] at h
  split at h
  · exact ⟨by omega, .inr ⟨.inl (by omega), h⟩⟩
  · split at h
    · split at h
      · exact ⟨by omega, .inr ⟨.inr (by omega), h⟩⟩
      · exact ⟨by omega, .inl ⟨by omega, by omega, h⟩⟩
    · cases h
theorem over_sg' {c : Cf} {L n l i b : Nat} (h : (c.over L n).sg l i = some b) : ∃ l i, c.sg l i = some b := by
  rcases (over_sg h).2 with ⟨_, _, h⟩ | ⟨_, h⟩ <;> exact ⟨_, _, h⟩
theorem over_tk {c : Cf} {L n l p : Nat} {r : TR} (h : (c.over L n).tk l p = some r) : l < L ∧ c.tk l p = some r := by
  simp only [Cf.over] at h
  split at h
  · exact ⟨by assumption, h⟩
  · cases h

theorem over_mine {c : Cf} {L n b o : Nat} (h : (c.over L n).mine b o) : c.mine b o := by
  rcases h with ⟨l, i, h⟩ | ⟨l, p, r, h, h2⟩ | h
  · exact .inl (over_sg' h)
  · exact .inr (.inl ⟨l, p, r, (over_tk h).2, h2⟩)
  · exact .inr (.inr h)
theorem over_own {c : Cf} {L n b o : Nat} (h : (c.over L n).own b o) : c.own b o := by
  rcases h with h | h
  · exact .inl h
  · exact .inr (over_mine h)
theorem over_keeps {c : Cf} {L n : Nat} : Keeps c.vw (c.over L n).vw := ⟨fun _ _ _ hx ho => ⟨hx, fun hn => ho (over_own hn)⟩, fun _ _ _ hb ho => ⟨hb, fun o hn => ho o (over_own hn)⟩⟩

section
variable {K : Nat → C → Code → Prop} {c : Cf} {f g : Fr} {s : St}

theorem over_low (hI : Inv K c (f :: g :: s)) {l i b : Nat} (hl : l < s.length + 1) (h : c.sg l i = some b) : (c.over (s.length + 1) g.objs.length).sg l i = some b := by
  simp only [Cf.over]
  by_cases h1 : l + 1 < s.length + 1
  · rw [if_pos h1]; exact h
  · rw [if_neg h1, if_pos (by omega)]
    obtain ⟨o, ho⟩ := hI.dom l i b h
    have : l = s.length := by omega
    subst this
    simp [getObj, getFr, getO_eq] at ho
    have hlt : i < g.objs.length := by
      rcases Nat.lt_or_ge i g.objs.length with h | h
      · exact h
      · rw [List.getElem?_eq_none h] at ho; cases ho
    rw [if_pos hlt]; exact h
theorem over_top {i b : Nat} (h : c.sg (s.length + 1) i = some b) : (c.over (s.length + 1) g.objs.length).sg (s.length + 1 - 1) (g.objs.length + i) = some b := by
  simp only [Cf.over]
  rw [if_neg (by omega), if_pos (by omega), if_neg (by omega), Nat.add_sub_cancel_left]
  exact h

theorem over_le (hI : Inv K c (f :: g :: s)) {l : Nat} (hl : l < s.length + 1) : Le l c.vw (c.over (s.length + 1) g.objs.length).vw where
  cell b o x hx ho := ⟨hx, fun hn => ho (over_own hn)⟩
  map b e k hb ho := ⟨hb, fun o hn => ho o (over_own hn)⟩
  sg l' i b hl' hb := over_low hI (by omega) hb
  tk l' p r hl' hr := ⟨r, by simp only [Cf.over, Cf.vw]; rw [if_pos (by omega)]; exact hr, .inl rfl⟩

mutual
theorem mvV_vr (hI : Inv K c (f :: g :: s)) : ∀ (v v' : AV) (x : Value), mvV (s.length + 1) g.objs.length v = some v' → VR c.vw v x → VR (c.over (s.length + 1) g.objs.length).vw v' x
  | .undef, v', x, h, hx => by simp [mvV] at h
  | .int .., v', x, h, hx => by simp only [mvV, Option.some.injEq] at h; subst h; exact hx.keep over_keeps rfl
  | .bool _, v', x, h, hx => by simp only [mvV, Option.some.injEq] at h; subst h; exact hx.keep over_keeps rfl
  | .str _, v', x, h, hx => by simp only [mvV, Option.some.injEq] at h; subst h; exact hx.keep over_keeps rfl
  | .nilP, v', x, h, hx => by simp only [mvV, Option.some.injEq] at h; subst h; exact hx.keep over_keeps rfl
  | .nilM, v', x, h, hx => by simp only [mvV, Option.some.injEq] at h; subst h; exact hx.keep over_keeps rfl
  | .nilF, v', x, h, hx => by simp only [mvV, Option.some.injEq] at h; subst h; exact hx.keep over_keeps rfl
  | .nilI, v', x, h, hx => by simp only [mvV, Option.some.injEq] at h; subst h; exact hx.keep over_keeps rfl
  | .rp _, v', x, h, hx => by simp only [mvV, Option.some.injEq] at h; subst h; exact hx.keep over_keeps rfl
  | .pm _, v', x, h, hx => by simp only [mvV, Option.some.injEq] at h; subst h; exact hx.keep over_keeps rfl
  | .sl r t, v', x, h, hx => by
    simp only [mvV, Option.some.injEq] at h; subst h
    refine (vr_erase_tok hx).keep over_keeps ?_
    cases t <;> rfl
  | .ptr l' i o, v', x, h, hx => by
    simp only [mvV] at h
    cases hx
    rename_i b hb
    split at h
    · cases h; exact .ptr _ _ _ b (over_low hI (by assumption) hb)
    · split at h
      · rename_i he; subst he; cases h; exact .ptr _ _ _ b (over_top hb)
      · cases h
  | .os l' i o k e, v', x, h, hx => by
    simp only [mvV] at h
    cases hx
    rename_i b o' cap hb hcap ho he0
    split at h
    · cases h; exact .os _ _ _ _ _ b o' cap (over_low hI (by assumption) hb) ho hcap he0
    · split at h
      · rename_i he; subst he; cases h; exact .os _ _ _ _ _ b o' cap (over_top hb) ho hcap he0
      · cases h
  | .mp l' i, v', x, h, hx => by
    simp only [mvV] at h
    cases hx
    rename_i b hb
    split at h
    · cases h; exact .mp _ _ b (over_low hI (by assumption) hb)
    · split at h
      · rename_i he; subst he; cases h; exact .mp _ _ b (over_top hb)
      · cases h
  | .yl l' i, v', x, h, hx => by
    simp only [mvV] at h
    cases hx
    rename_i b hb
    split at h
    · cases h; exact .yl _ _ b (over_low hI (by assumption) hb)
    · cases h
  | .fn k a b, v', x, h, hx => by
    simp only [mvV, Option.bind_eq_some_iff, Option.map_eq_some_iff] at h
    obtain ⟨a', h1, b', h2, rfl⟩ := h
    cases hx
    rename_i fc cc g1 g3 g2 g4
    obtain ⟨k1, k2⟩ := mvVs_vr hI a a' (fun j => fc.getD j Go.undef) h1 g3
    obtain ⟨k3, k4⟩ := mvVs_vr hI b b' (fun j => cc.getD j Go.undef) h2 g4
    exact .fn k a' b' fc cc (by omega) (by omega) k2 k4
  | .agg l, v', x, h, hx => by
    simp only [mvV, Option.map_eq_some_iff] at h
    obtain ⟨a', h1, rfl⟩ := h
    cases hx
    rename_i cs g1 g2 g3
    obtain ⟨k1, k2⟩ := mvVs_vr hI l a' (fun j => cs.getD j Go.undef) h1 g2
    exact .agg a' cs (by omega) k2 ((mvVs_low (by omega) _ _ h1).2 g3)
  | .tup l, v', x, h, hx => by
    simp only [mvV, Option.map_eq_some_iff] at h
    obtain ⟨a', h1, rfl⟩ := h
    cases hx
    rename_i cs g1 g2
    obtain ⟨k1, k2⟩ := mvVs_vr hI l a' (fun j => cs.getD j Go.undef) h1 g2
    exact .tup a' cs (by omega) k2
theorem mvVs_vr (hI : Inv K c (f :: g :: s)) : ∀ (l l' : List AV) (gv : Nat → Value), mvVs (s.length + 1) g.objs.length l = some l' → (∀ (j : Nat) (v : AV), l[j]? = some v → VR c.vw v (gv j)) →
    l'.length = l.length ∧ ∀ (j : Nat) (v : AV), l'[j]? = some v → VR (c.over (s.length + 1) g.objs.length).vw v (gv j)
  | [], l', gv, h, hg => by
    simp only [mvVs, Option.some.injEq] at h
    subst h
    simp
  | v :: r, l', gv, h, hg => by
    simp only [mvVs, Option.bind_eq_some_iff, Option.map_eq_some_iff] at h
    obtain ⟨v', h1, r', h2, rfl⟩ := h
    have k1 := mvV_vr hI v v' (gv 0) h1 (hg 0 v rfl)
    obtain ⟨k3, k4⟩ := mvVs_vr hI r r' (fun j => gv (j + 1)) h2 (fun j w hj => hg (j + 1) w (by simpa using hj))
    refine ⟨by simp [k3], fun j w hj => ?_⟩
    cases j with
    | zero => simp at hj; subst hj; exact k1
    | succ j => exact k4 j w (by simpa using hj)
end

theorem mvE_vr (hI : Inv K c (f :: g :: s)) : ∀ (l l' : List (AV × AV)) (gk gv : Nat → Value), mvE (s.length + 1) g.objs.length l = some l' → (∀ (j : Nat) (k v : AV), l[j]? = some (k, v) → VR c.vw k (gk j) ∧ VR c.vw v (gv j) ∧ pur k = true) →
    l'.length = l.length ∧ ∀ (j : Nat) (k v : AV), l'[j]? = some (k, v) → VR (c.over (s.length + 1) g.objs.length).vw k (gk j) ∧ VR (c.over (s.length + 1) g.objs.length).vw v (gv j) ∧ pur k = true ∧ low s.length v = true
  | [], l', gk, gv, h, hg => by
    simp only [mvE, Option.some.injEq] at h
    subst h
    simp
  | (k, v) :: r, l', gk, gv, h, hg => by
    simp only [mvE, Option.bind_eq_some_iff, Option.map_eq_some_iff] at h
    obtain ⟨v', h1, r', h2, rfl⟩ := h
    obtain ⟨g1, g2, g3⟩ := hg 0 k v rfl
    have k1 := mvV_vr hI v v' (gv 0) h1 g2
    obtain ⟨k3, k4⟩ := mvE_vr hI r r' (fun j => gk (j + 1)) (fun j => gv (j + 1)) h2 (fun j w u hj => hg (j + 1) w u (by simpa using hj))
    refine ⟨by simp [k3], fun j w u hj => ?_⟩
    cases j with
    | zero =>
      simp at hj
      obtain ⟨rfl, rfl⟩ := hj
      exact ⟨g1.keep over_keeps g3, k1, g3, by simpa using (mvV_low (by omega) _ _ h1).1⟩
    | succ j => exact k4 j w u (by simpa using hj)

theorem mvO_get {l n : Nat} : ∀ (os os' : List AObj), mvO l n os = some os' → os'.length = os.length ∧ ∀ (i : Nat) (o' : AObj), os'[i]? = some o' →
    (∃ a a', os[i]? = some (.cells a) ∧ o' = .cells a' ∧ mvVs l n a = some a') ∨ (∃ a a', os[i]? = some (.map a) ∧ o' = .map a' ∧ mvE l n a = some a') ∨ o' = .dead
  | [], os', h => by simp only [mvO, Option.some.injEq] at h; subst h; simp
  | .cells a :: r, os', h => by
    simp only [mvO, Option.bind_eq_some_iff, Option.map_eq_some_iff] at h
    obtain ⟨a', h1, r', h2, rfl⟩ := h
    obtain ⟨k1, k2⟩ := mvO_get r r' h2
    refine ⟨by simp [k1], fun i o' hi => ?_⟩
    cases i with
    | zero => simp at hi; subst hi; exact .inl ⟨a, a', rfl, rfl, h1⟩
    | succ i => simpa using k2 i o' (by simpa using hi)
  | .map a :: r, os', h => by
    simp only [mvO, Option.bind_eq_some_iff, Option.map_eq_some_iff] at h
    obtain ⟨a', h1, r', h2, rfl⟩ := h
    obtain ⟨k1, k2⟩ := mvO_get r r' h2
    refine ⟨by simp [k1], fun i o' hi => ?_⟩
    cases i with
    | zero => simp at hi; subst hi; exact .inr (.inl ⟨a, a', rfl, rfl, h1⟩)
    | succ i => simpa using k2 i o' (by simpa using hi)
  | .loop .. :: r, os', h => by
    simp only [mvO, Option.map_eq_some_iff] at h
    obtain ⟨r', h2, rfl⟩ := h
    obtain ⟨k1, k2⟩ := mvO_get r r' h2
    refine ⟨by simp [k1], fun i o' hi => ?_⟩
    cases i with
    | zero => simp at hi; subst hi; exact .inr (.inr rfl)
    | succ i => simpa using k2 i o' (by simpa using hi)
  | .dead :: r, os', h => by
    simp only [mvO, Option.map_eq_some_iff] at h
    obtain ⟨r', h2, rfl⟩ := h
    obtain ⟨k1, k2⟩ := mvO_get r r' h2
    refine ⟨by simp [k1], fun i o' hi => ?_⟩
    cases i with
    | zero => simp at hi; subst hi; exact .inr (.inr rfl)
    | succ i => simpa using k2 i o' (by simpa using hi)
  | .free _ :: r, os', h => by
    simp only [mvO, Option.map_eq_some_iff] at h
    obtain ⟨r', h2, rfl⟩ := h
    obtain ⟨k1, k2⟩ := mvO_get r r' h2
    refine ⟨by simp [k1], fun i o' hi => ?_⟩
    cases i with
    | zero => simp at hi; subst hi; exact .inr (.inr rfl)
    | succ i => simpa using k2 i o' (by simpa using hi)
  | .got _ :: r, os', h => by
    simp only [mvO, Option.map_eq_some_iff] at h
    obtain ⟨r', h2, rfl⟩ := h
    obtain ⟨k1, k2⟩ := mvO_get r r' h2
    refine ⟨by simp [k1], fun i o' hi => ?_⟩
    cases i with
    | zero => simp at hi; subst hi; exact .inr (.inr rfl)
    | succ i => simpa using k2 i o' (by simpa using hi)

theorem inv_over (hI : Inv K c (f :: g :: s)) {os : List AObj} (hos : mvO (s.length + 1) g.objs.length f.objs = some os) :
    Inv K (c.over (s.length + 1) g.objs.length) ({ g with objs := g.objs ++ os } :: s) := by
  obtain ⟨hol, hog⟩ := mvO_get _ _ hos
  have hlow : ∀ l i, l < s.length → getObj ({ g with objs := g.objs ++ os } :: s) l i = getObj (f :: g :: s) l i := by
    intro l i hl
    simp only [getObj]
    rw [getFr_cons_lt hl, getFr_cons_lt (by simp; omega), getFr_cons_lt hl]
  have hleft : ∀ i, i < g.objs.length → getObj ({ g with objs := g.objs ++ os } :: s) s.length i = getObj (f :: g :: s) s.length i := by
    intro i hi
    simp [getObj, getFr, getO_eq, List.getElem?_append_left hi]
  have hright : ∀ i o, g.objs.length ≤ i → getObj ({ g with objs := g.objs ++ os } :: s) s.length i = some o → os[i - g.objs.length]? = some o := by
    intro i o hi h
    simpa [getObj, getFr, getO_eq, List.getElem?_append_right hi] using h
  have htop : ∀ i o, f.objs[i]? = some o → getObj (f :: g :: s) (s.length + 1) i = some o := by
    intro i o h
    simpa [getObj, getFr, getO_eq] using h
  have htok : ∀ l p, l < s.length + 1 → getTok ({ g with objs := g.objs ++ os } :: s) l p = getTok (f :: g :: s) l p := by
    intro l p hl
    simp only [getTok]
    rw [getFr_cons_lt (s := g :: s) (by simpa using hl)]
    by_cases h : l = s.length
    · subst h; simp [getFr]
    · simp [getFr, h]
  -- an object, where it lay
  have hcase : ∀ l i o, getObj ({ g with objs := g.objs ++ os } :: s) l i = some o →
      (l < s.length + 1 ∧ (c.over (s.length + 1) g.objs.length).sg l i = c.sg l i ∧ getObj (f :: g :: s) l i = some o) ∨ (l = s.length ∧ g.objs.length ≤ i ∧ os[i - g.objs.length]? = some o ∧ (c.over (s.length + 1) g.objs.length).sg l i = c.sg (s.length + 1) (i - g.objs.length)) := by
    intro l i o h
    have hl := getObj_lt h
    simp only [List.length_cons] at hl
    rcases Nat.lt_or_ge l s.length with h1 | h1
    · exact .inl ⟨hl, by simp only [Cf.over]; rw [if_pos (by omega)], by rw [← hlow l i h1]; exact h⟩
    · have : l = s.length := by omega
      subst this
      rcases Nat.lt_or_ge i g.objs.length with h2 | h2
      · exact .inl ⟨hl, by simp only [Cf.over]; rw [if_neg (by omega), if_pos trivial, if_pos h2], by rw [← hleft i h2]; exact h⟩
      · exact .inr ⟨rfl, h2, hright i o h2 h, by simp only [Cf.over]; rw [if_neg (by omega), if_pos trivial, if_neg (by omega)]⟩
  exact {
    obj := fun l i o h hd => by
      rcases hcase l i o h with ⟨hl, hs, h1⟩ | ⟨rfl, hi, ho, hs⟩
      · obtain ⟨b, h2, h3⟩ := hI.obj l i o h1 hd
        exact ⟨b, by rw [hs]; exact h2, h3.low (over_le hI hl) rfl (hI.lowO l i o h1)⟩
      · rw [hs]
        rcases hog _ _ ho with ⟨a, a', h1, rfl, h2⟩ | ⟨a, a', h1, rfl, h2⟩ | rfl
        · obtain ⟨b, k1, cs, el, k2, k3, k4, k5⟩ := hI.obj _ _ _ (htop _ _ h1) rfl
          obtain ⟨j1, j2⟩ := mvVs_vr hI a a' (fun j => cs.getD j Go.undef) h2 k4
          exact ⟨b, k1, cs, el, k2, by omega, j2, (mvVs_low (by omega) _ _ h2).2 k5⟩
        · obtain ⟨b, k1, ents, clk, k2, k3, k4⟩ := hI.obj _ _ _ (htop _ _ h1) rfl
          obtain ⟨j1, j2⟩ := mvE_vr hI a a' (fun j => (ents.getD j default).key) (fun j => (ents.getD j default).val) h2 k4
          exact ⟨b, k1, ents, clk, k2, by omega, fun j k v hj => ⟨(j2 j k v hj).1, (j2 j k v hj).2.1, (j2 j k v hj).2.2.1⟩⟩
        · cases hd
    lowO := fun l i o h => by
      rcases hcase l i o h with ⟨hl, hs, h1⟩ | ⟨rfl, hi, ho, hs⟩
      · exact hI.lowO l i o h1
      · rcases hog _ _ ho with ⟨a, a', h1, rfl, h2⟩ | ⟨a, a', h1, rfl, h2⟩ | rfl
        · exact fun v hv => by simpa using lows_mem (mvVs_low (by omega) _ _ h2).1 v hv
        · intro p hp
          obtain ⟨b, k1, ents, clk, k2, k3, k4⟩ := hI.obj _ _ _ (htop _ _ h1) rfl
          obtain ⟨j1, j2⟩ := mvE_vr hI a a' (fun j => (ents.getD j default).key) (fun j => (ents.getD j default).val) h2 k4
          obtain ⟨j, hj⟩ := List.mem_iff_getElem?.1 hp
          exact (j2 j p.1 p.2 (by simpa using hj)).2.2.2
        · trivial
    free := fun l i n h => by
      rcases hcase l i _ h with ⟨hl, hs, h1⟩ | ⟨rfl, hi, ho, hs⟩
      · rw [hs]; exact hI.free l i n h1
      · rcases hog _ _ ho with ⟨a, a', h1, h2, _⟩ | ⟨a, a', h1, h2, _⟩ | h2 <;> cases h2
    dom := fun l i b h => by
      obtain ⟨hl, h1⟩ := over_sg h
      rcases h1 with ⟨h1, h2, h3⟩ | ⟨h1, h2⟩
      · obtain ⟨o, h4⟩ := hI.dom _ _ _ h3
        have hl' : l = s.length := by omega
        subst hl'
        have h5 : i - g.objs.length < f.objs.length := by
          simp [getObj, getFr, getO_eq] at h4
          rcases Nat.lt_or_ge (i - g.objs.length) f.objs.length with h | h
          · exact h
          · rw [List.getElem?_eq_none h] at h4; cases h4
        refine ⟨os[i - g.objs.length]'(by omega), ?_⟩
        simp [getObj, getFr, getO_eq, List.getElem?_append_right h2]
      · obtain ⟨o, h4⟩ := hI.dom _ _ _ h2
        refine ⟨o, ?_⟩
        rcases Nat.lt_or_ge l s.length with h5 | h5
        · rw [hlow l i h5]; exact h4
        · have hl' : l = s.length := by omega
          subst hl'
          rw [hleft i (by omega)]; exact h4
    inj := fun l i l' i' b h h' => by
      obtain ⟨hl, h1⟩ := over_sg h
      obtain ⟨hl', h1'⟩ := over_sg h'
      rcases h1 with ⟨h1, h2, h3⟩ | ⟨h1, h2⟩ <;> rcases h1' with ⟨h1', h2', h3'⟩ | ⟨h1', h2'⟩
      · have := (hI.inj _ _ _ _ _ h3 h3').2
        exact ⟨by omega, by omega⟩
      · have := (hI.inj _ _ _ _ _ h3 h2').1
        omega
      · have := (hI.inj _ _ _ _ _ h2 h3').1
        omega
      · exact hI.inj _ _ _ _ _ h2 h2'
    Xw := hI.Xw
    sgX := fun l i b o h => by obtain ⟨l', i', h'⟩ := over_sg' h; exact hI.sgX _ _ _ _ h'
    sgw := fun l i b h => by obtain ⟨l', i', h'⟩ := over_sg' h; exact hI.sgw _ _ _ h'
    tok := fun l p r h => by
      obtain ⟨hl, h1⟩ := over_tk h
      rw [htok l p hl]
      exact ⟨(hI.tok l p r h1).1, by simpa using hl⟩
    tokn := fun l p h => by
      by_cases hl : l < s.length + 1
      · rw [htok l p hl]
        simp only [Cf.over, if_pos hl] at h
        exact hI.tokn l p h
      · simp only [getTok]; rw [getFr_none (by simp; omega)]
    tkb := fun l p r h he => by
      obtain ⟨cs, el, h1, h2, h3, h4⟩ := hI.tkb l p r (over_tk h).2 he
      exact ⟨cs, el, h1, h2, fun l i hx => by obtain ⟨l', i', h'⟩ := over_sg' hx; exact h3 _ _ h', h4⟩
    tkinj := fun l p r l' p' r' h h' => hI.tkinj l p r l' p' r' (over_tk h).2 (over_tk h').2
    dfw := fun d hd => by
      obtain ⟨h1, h2, h3⟩ := hI.dfw d hd
      exact ⟨h1, fun l i hx => by obtain ⟨l', i', h'⟩ := over_sg' hx; exact h2 _ _ h', h3⟩
    dfn := hI.dfn }

theorem extB_over {c c' : Cf} {s0 : St} (h0 : Inv K c s0) (hs : s0.length = s.length + 1) (hI : Inv K c' (f :: g :: s)) (hE : ExtB c c') : ExtB c (c'.over (s.length + 1) g.objs.length) where
  X := hE.X
  k1 := hE.k1
  k2 := hE.k2
  k3 := hE.k3
  ow b o hb h := hE.ow b o hb (over_mine h)
  sg l i b h := over_low hI (by have := h0.lt h; omega) (hE.sg l i b h)
  tk l p r h := by
    obtain ⟨r', h1, h2⟩ := hE.tk l p r h
    exact ⟨r', by simp only [Cf.over]; rw [if_pos (by have := (h0.tok _ _ _ h).2; omega)]; exact h1, h2⟩
  lp := hE.lp
  io := hE.io
end
end Go.Ab
