/-
  What leaves a frame that is struck: frozen.
-/
import Derived.Test.YthbekoofiienjaaDoorAbRound
namespace Go.Ab
open Go

section
variable {K : Nat → C → Code → Prop} {c : Cf} {f : Fr} {s : St}

theorem unowned_below (hI : Inv K c (f :: s)) {l i b : Nat} (hl : ¬ l < s.length) (hb : c.sg l i = some b) (o : Nat) : ¬ (c.below s.length).own b o := by
  intro h
  rcases h with h | ⟨l', i', h⟩ | ⟨l', p, r, h, rfl, h2, h3⟩ | h
  · exact hI.sgX _ _ _ _ hb h
  · simp only [Cf.below] at h
    split at h
    · rename_i hlt
      have := (hI.inj _ _ _ _ _ h hb).1
      omega
    · cases h
  · simp only [Cf.below] at h
    split at h
    · obtain ⟨_, _, _, _, h4, _⟩ := hI.tkb _ _ _ h (by omega)
      exact h4 _ _ hb
    · cases h
  · exact (hI.dfw _ h).2.1 _ _ hb

theorem below_keeps {c : Cf} {L : Nat} : Keeps c.vw (c.below L).vw := ⟨fun _ _ _ hx ho => ⟨hx, fun hn => ho (below_own hn)⟩, fun _ _ _ hb ho => ⟨hb, fun o hn => ho o (below_own hn)⟩⟩

mutual
theorem frz_vr (hI : Inv K c (f :: s)) : ∀ (n : Nat) (v v' : AV) (x : Value), frz (f :: s) s.length n v = some v' → VR c.vw v x → VR (c.below s.length).vw v' x ∧ (oneCell v = true → oneCell v' = true)
  | n, .undef, v', x, h, hx => by cases n <;> simp [frz] at h
  | n, .sl r t, v', x, h, hx => by
    have : v' = .sl r (eraseTok t) := by cases n <;> simp [frz] at h <;> exact h.symm
    subst this
    refine ⟨(vr_erase_tok hx).keep below_keeps ?_, fun _ => rfl⟩
    cases t <;> rfl
  | 0, .int .., v', x, h, hx => by simp [frz] at h
  | 0, .bool _, v', x, h, hx => by simp [frz] at h
  | 0, .str _, v', x, h, hx => by simp [frz] at h
  | 0, .nilP, v', x, h, hx => by simp [frz] at h
  | 0, .nilM, v', x, h, hx => by simp [frz] at h
  | 0, .nilF, v', x, h, hx => by simp [frz] at h
  | 0, .nilI, v', x, h, hx => by simp [frz] at h
  | 0, .rp _, v', x, h, hx => by simp [frz] at h
  | 0, .ptr .., v', x, h, hx => by simp [frz] at h
  | 0, .os .., v', x, h, hx => by simp [frz] at h
  | 0, .mp .., v', x, h, hx => by simp [frz] at h
  | 0, .pm .., v', x, h, hx => by simp [frz] at h
  | 0, .fn .., v', x, h, hx => by simp [frz] at h
  | 0, .yl .., v', x, h, hx => by simp [frz] at h
  | 0, .agg .., v', x, h, hx => by simp [frz] at h
  | 0, .tup .., v', x, h, hx => by simp [frz] at h
  | n + 1, .int .., v', x, h, hx => by simp only [frz, Option.some.injEq] at h; subst h; exact ⟨hx.keep below_keeps rfl, fun h => h⟩
  | n + 1, .bool .., v', x, h, hx => by simp only [frz, Option.some.injEq] at h; subst h; exact ⟨hx.keep below_keeps rfl, fun h => h⟩
  | n + 1, .str .., v', x, h, hx => by simp only [frz, Option.some.injEq] at h; subst h; exact ⟨hx.keep below_keeps rfl, fun h => h⟩
  | n + 1, .nilP, v', x, h, hx => by simp only [frz, Option.some.injEq] at h; subst h; exact ⟨hx.keep below_keeps rfl, fun h => h⟩
  | n + 1, .nilM, v', x, h, hx => by simp only [frz, Option.some.injEq] at h; subst h; exact ⟨hx.keep below_keeps rfl, fun h => h⟩
  | n + 1, .nilF, v', x, h, hx => by simp only [frz, Option.some.injEq] at h; subst h; exact ⟨hx.keep below_keeps rfl, fun h => h⟩
  | n + 1, .nilI, v', x, h, hx => by simp only [frz, Option.some.injEq] at h; subst h; exact ⟨hx.keep below_keeps rfl, fun h => h⟩
  | n + 1, .rp .., v', x, h, hx => by simp only [frz, Option.some.injEq] at h; subst h; exact ⟨hx.keep below_keeps rfl, fun h => h⟩
  | n + 1, .pm .., v', x, h, hx => by simp only [frz, Option.some.injEq] at h; subst h; exact ⟨hx.keep below_keeps rfl, fun h => h⟩
  | n + 1, .yl l i, v', x, h, hx => by
    simp only [frz, Option.ite_none_right_eq_some, Option.some.injEq] at h
    obtain ⟨hl, rfl⟩ := h
    refine ⟨?_, fun h => h⟩
    cases hx
    rename_i b hb
    exact .yl l i b (by simp only [Cf.below, Cf.vw]; rw [if_pos hl]; exact hb)
  | n + 1, .ptr l i o, v', x, h, hx => by
    refine ⟨?_, fun _ => ?_⟩
    · simp only [frz] at h
      cases hx
      rename_i b hb
      split at h
      · rename_i hl
        cases h
        exact .ptr l i o b (by simp only [Cf.below, Cf.vw]; rw [if_pos hl]; exact hb)
      · rename_i hl
        split at h
        case h_2 => cases h
        rename_i cl hg
        simp only [Option.bind_eq_some_iff, Option.ite_none_right_eq_some, Option.some.injEq] at h
        obtain ⟨c', h1, h2, rfl⟩ := h
        obtain ⟨b', cs, el, k1, k2, k3⟩ := or_cells hI hg
        have : b' = b := by have := hb; simp only [Cf.vw] at this; rw [k1] at this; cases this; rfl
        subst this
        obtain ⟨g1, g2, g3⟩ := frzs_vr hI n (cl.drop o) c' (fun j => cs.getD (o + j) Go.undef) h1 (fun j v hj => k3.get (o + j) v (by rw [List.getElem?_drop] at hj; exact hj))
        have k4 := k3.len
        simp only [List.length_drop] at g1
        refine .rp c' b' o (fun j => cs.getD (o + j) Go.undef) (fun j hj => ⟨?_, unowned_below hI hl k1 _⟩) g2 ⟨h2, g3 fun v hv => k3.one v (List.mem_of_mem_drop hv)⟩
        show c.w.cell? _ = _
        rw [cell_of k2, getD_eq]
        have hlt : o + j < cs.size := by omega
        simp [hlt]
    · simp only [frz] at h
      split at h
      · cases h; rfl
      · split at h
        · simp only [Option.bind_eq_some_iff, Option.ite_none_right_eq_some, Option.some.injEq] at h
          obtain ⟨c', h1, h2, rfl⟩ := h; rfl
        · cases h
  | n + 1, .mp l i, v', x, h, hx => by
    refine ⟨?_, fun _ => ?_⟩
    · simp only [frz] at h
      cases hx
      rename_i b hb
      split at h
      · rename_i hl
        cases h
        exact .mp l i b (by simp only [Cf.below, Cf.vw]; rw [if_pos hl]; exact hb)
      · rename_i hl
        split at h
        case h_2 => cases h
        rename_i es hg
        simp only [Option.map_eq_some_iff] at h
        obtain ⟨es', h1, rfl⟩ := h
        obtain ⟨b', k1, ents, clk, k2, k3, k4⟩ := hI.obj l i _ hg rfl
        have : b' = b := by have := hb; simp only [Cf.vw] at this; rw [k1] at this; cases this; rfl
        subst this
        obtain ⟨g1, g2⟩ := frze_vr hI n es es' (fun j => (ents.getD j default).key) (fun j => (ents.getD j default).val) h1 (fun j k v hj => ⟨(k4 j k v hj).1, (k4 j k v hj).2.1⟩)
        exact .pm es' b' ents clk k2 (unowned_below hI hl k1) (by omega) (fun j k v hj => (g2 j k v hj).1) (fun j k v hj => (g2 j k v hj).2.1) (fun j k v hj => (g2 j k v hj).2.2)
    · simp only [frz] at h
      split at h
      · cases h; rfl
      · split at h
        · simp only [Option.map_eq_some_iff] at h
          obtain ⟨es', h1, rfl⟩ := h; rfl
        · cases h
  | n + 1, .os l i o k e, v', x, h, hx => by
    refine ⟨?_, fun _ => ?_⟩
    · simp only [frz] at h
      cases hx
      rename_i b o' cap hb hcap ho he0
      split at h
      · rename_i hl
        cases h
        exact .os l i o k e b o' cap (by simp only [Cf.below, Cf.vw]; rw [if_pos hl]; exact hb) ho hcap he0
      · rename_i hl
        split at h
        case h_2 => cases h
        rename_i cl hg
        rw [Option.ite_none_right_eq_some] at h
        obtain ⟨h0, h⟩ := h
        simp only [Bool.and_eq_true, decide_eq_true_eq] at h0
        simp only [Option.bind_eq_some_iff, Option.ite_none_right_eq_some, Option.some.injEq] at h
        obtain ⟨c', h1, h2, rfl⟩ := h
        obtain ⟨b', cs, el, k1, k2, k3⟩ := or_cells hI hg
        have : b' = b := by have := hb; simp only [Cf.vw] at this; rw [k1] at this; cases this; rfl
        subst this
        obtain ⟨g1, g2, g3⟩ := frzs_vr hI n ((cl.drop o).take (k * e)) c' (fun j => cs.getD (o + j) Go.undef) h1 (fun j v hj => by
          have hj' : j < k * e := by
            rcases Nat.lt_or_ge j (k * e) with h | h
            · exact h
            · rw [List.getElem?_eq_none (by simp; omega)] at hj; cases hj
          rw [List.getElem?_take_of_lt hj', List.getElem?_drop] at hj
          exact k3.get (o + j) v hj)
        have k4 := k3.len
        have hlen : c'.length = k * e := by simp only [List.length_take, List.length_drop] at g1; omega
        have hone := g3 fun v hv => k3.one v (List.mem_of_mem_drop (List.mem_of_mem_take hv))
        have hmul : ∀ i, i < k → i * e + e ≤ k * e := fun i hi => by
          have := Nat.mul_le_mul_right e (show i + 1 ≤ k from hi)
          rw [Nat.succ_mul] at this; exact this
        have hrow : ∀ i r, (rowsOf e k c')[i]? = some r → i < k ∧ r = (c'.drop (i * e)).take e := by
          intro i r hr
          have hi : i < k := by
            rcases Nat.lt_or_ge i k with h | h
            · exact h
            · rw [List.getElem?_eq_none (by rw [rowsOf_len]; exact h)] at hr; cases hr
          rw [rowsOf_get e k _ i hi] at hr
          cases hr
          exact ⟨hi, rfl⟩
        suffices hgoal : VR (c.below s.length).vw (.sl (rowsOf e k c') .any) (.slice (some ⟨b', o', none⟩) (rowsOf e k c').length cap) by rwa [rowsOf_len] at hgoal
        refine .sl (rowsOf e k c') .any b' o' cap e (fun i j => cs.getD (o + (i * e + j)) Go.undef) he0 (by simp) (fun i r hr => ?_) (by rw [rowsOf_len]; exact hcap) (by simp) ?_ ?_ ?_ trivial
        · obtain ⟨hi, rfl⟩ := hrow i r hr
          have := hmul i hi
          simp; omega
        · intro i j hi hj
          rw [rowsOf_len] at hi
          have := hmul i hi
          have hoo : o' = o := by
            rcases ho with h | h
            · omega
            · exact h
          subst hoo
          refine ⟨?_, unowned_below hI hl k1 _⟩
          show c.w.cell? _ = _
          rw [cell_of k2, getD_eq]
          have hlt : o' + i * e + j < cs.size := by omega
          have hlt2 : o' + (i * e + j) < cs.size := by omega
          simp [hlt2, Nat.add_assoc]
        · intro i r j v hr hj
          obtain ⟨hi, rfl⟩ := hrow i r hr
          have hj' : j < e := by
            rcases Nat.lt_or_ge j e with h | h
            · exact h
            · rw [List.getElem?_eq_none (by simp; omega)] at hj; cases hj
          rw [List.getElem?_take_of_lt hj', List.getElem?_drop] at hj
          exact g2 (i * e + j) v hj
        · intro i r hr
          obtain ⟨hi, rfl⟩ := hrow i r hr
          exact ⟨pures_of fun v hv => pures_mem h2 v (List.mem_of_mem_drop (List.mem_of_mem_take hv)), fun v hv => hone v (List.mem_of_mem_drop (List.mem_of_mem_take hv))⟩
    · simp only [frz] at h
      split at h
      · cases h; rfl
      · split at h
        · rw [Option.ite_none_right_eq_some] at h
          obtain ⟨h0, h⟩ := h
          simp only [Option.bind_eq_some_iff, Option.ite_none_right_eq_some, Option.some.injEq] at h
          obtain ⟨c', h1, h2, rfl⟩ := h; rfl
        · cases h
  | n + 1, .fn k a b, v', x, h, hx => by
    simp only [frz, Option.bind_eq_some_iff, Option.map_eq_some_iff] at h
    obtain ⟨a', h1, b', h2, rfl⟩ := h
    refine ⟨?_, fun _ => rfl⟩
    cases hx
    rename_i fc cc g1 g3 g2 g4
    obtain ⟨k1, k2, _⟩ := frzs_vr hI n a a' (fun j => fc.getD j Go.undef) h1 g3
    obtain ⟨k3, k4, _⟩ := frzs_vr hI n b b' (fun j => cc.getD j Go.undef) h2 g4
    exact .fn k a' b' fc cc (by omega) (by omega) k2 k4
  | n + 1, .agg l, v', x, h, hx => by
    simp only [frz, Option.map_eq_some_iff] at h
    obtain ⟨a', h1, rfl⟩ := h
    refine ⟨?_, fun h => h⟩
    cases hx
    rename_i cs g1 g2 g3
    obtain ⟨k1, k2, k3⟩ := frzs_vr hI n l a' (fun j => cs.getD j Go.undef) h1 g2
    exact .agg a' cs (by omega) k2 (k3 g3)
  | n + 1, .tup l, v', x, h, hx => by
    simp only [frz, Option.map_eq_some_iff] at h
    obtain ⟨a', h1, rfl⟩ := h
    refine ⟨?_, fun h => h⟩
    cases hx
    rename_i cs g1 g2
    obtain ⟨k1, k2, _⟩ := frzs_vr hI n l a' (fun j => cs.getD j Go.undef) h1 g2
    exact .tup a' cs (by omega) k2
theorem frzs_vr (hI : Inv K c (f :: s)) : ∀ (n : Nat) (l l' : List AV) (g : Nat → Value), frzs (f :: s) s.length n l = some l' → (∀ (j : Nat) (v : AV), l[j]? = some v → VR c.vw v (g j)) →
    l'.length = l.length ∧ (∀ (j : Nat) (v : AV), l'[j]? = some v → VR (c.below s.length).vw v (g j)) ∧ ((∀ v ∈ l, oneCell v = true) → ∀ v ∈ l', oneCell v = true)
  | n, [], l', g, h, hg => by
    have : l' = [] := by cases n <;> simp [frzs] at h <;> exact h
    subst this
    simp
  | 0, v :: r, l', g, h, hg => by simp [frzs] at h
  | n + 1, v :: r, l', g, h, hg => by
    simp only [frzs, Option.bind_eq_some_iff, Option.map_eq_some_iff] at h
    obtain ⟨v', h1, r', h2, rfl⟩ := h
    obtain ⟨k1, k2⟩ := frz_vr hI n v v' (g 0) h1 (hg 0 v rfl)
    obtain ⟨k3, k4, k5⟩ := frzs_vr hI n r r' (fun j => g (j + 1)) h2 (fun j w hj => hg (j + 1) w (by simpa using hj))
    refine ⟨by simp [k3], fun j w hj => ?_, fun ho w hw => ?_⟩
    · cases j with
      | zero => simp at hj; subst hj; exact k1
      | succ j => exact k4 j w (by simpa using hj)
    · rcases List.mem_cons.1 hw with rfl | hw
      · exact k2 (ho v (by simp))
      · exact k5 (fun u hu => ho u (by simp [hu])) w hw
theorem frze_vr (hI : Inv K c (f :: s)) : ∀ (n : Nat) (l l' : List (AV × AV)) (gk gv : Nat → Value), frze (f :: s) s.length n l = some l' → (∀ (j : Nat) (k v : AV), l[j]? = some (k, v) → VR c.vw k (gk j) ∧ VR c.vw v (gv j)) →
    l'.length = l.length ∧ ∀ (j : Nat) (k v : AV), l'[j]? = some (k, v) → VR (c.below s.length).vw k (gk j) ∧ VR (c.below s.length).vw v (gv j) ∧ pur k = true ∧ pur v = true
  | n, [], l', gk, gv, h, hg => by
    have : l' = [] := by cases n <;> simp [frze] at h <;> exact h
    subst this
    simp
  | 0, (k, v) :: r, l', gk, gv, h, hg => by simp [frze] at h
  | n + 1, (k, v) :: r, l', gk, gv, h, hg => by
    simp only [frze, Option.bind_eq_some_iff, Option.ite_none_right_eq_some, Option.map_eq_some_iff, Bool.and_eq_true] at h
    obtain ⟨v', h1, hp, r', h2, rfl⟩ := h
    obtain ⟨k1, k2⟩ := frz_vr hI n v v' (gv 0) h1 (hg 0 k v rfl).2
    obtain ⟨k3, k4⟩ := frze_vr hI n r r' (fun j => gk (j + 1)) (fun j => gv (j + 1)) h2 (fun j w u hj => hg (j + 1) w u (by simpa using hj))
    refine ⟨by simp [k3], fun j w u hj => ?_⟩
    cases j with
    | zero =>
      simp at hj
      obtain ⟨rfl, rfl⟩ := hj
      exact ⟨(hg 0 k v rfl).1.keep below_keeps hp.1, k1, hp.1, hp.2⟩
    | succ j => exact k4 j w u (by simpa using hj)
end
end
end Go.Ab
