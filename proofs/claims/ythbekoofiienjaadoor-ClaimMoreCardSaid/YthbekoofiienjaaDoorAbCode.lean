/-
  Code: what is checked of it, and that it does in memory what it does abstractly.
-/
import Derived.Test.YthbekoofiienjaaDoorAbDraw
namespace Go.Ab
open Go

/-! ### the frames stay as many as they are -/

def LenOK (cl : Call) (rd : Round) : Prop :=
  (∀ k args s r s', cl k args s = some (r, s') → s'.length = s.length) ∧ ∀ l i args s r s', rd l i args s = some (r, s') → s'.length = s.length

section
variable {cl : Call} {rd : Round} {G : Nat → List AV} {h : Nat}

theorem appAt_len {p e b : Nat} {x y v : AV} {s s' : St} (hv : appAt h s p e b x y = some (v, s')) : s'.length = s.length := by
  unfold appAt at hv
  split at hv
  case h_2 => cases hv
  simp only [Option.bind_eq_some_iff] at hv
  obtain ⟨ys, _, hv⟩ := hv
  split at hv
  · simp only [Option.some.injEq, Prod.mk.injEq] at hv; rw [← hv.2]
  rw [Option.ite_none_right_eq_some] at hv
  obtain ⟨_, hv⟩ := hv
  split at hv
  · simp only [Option.some.injEq, Prod.mk.injEq] at hv; rw [← hv.2, setTok_length]
  · simp only [Option.some.injEq, Prod.mk.injEq] at hv; rw [← hv.2, setTok_length]
  · rw [Option.ite_none_right_eq_some] at hv; obtain ⟨_, hv⟩ := hv; simp only [Option.some.injEq, Prod.mk.injEq] at hv; rw [← hv.2, setTok_length]
  · cases hv

theorem storeAt_len {n : Nat} {a x : AV} {s s' : St} (hv : storeAt s n a x = some s') : s'.length = s.length := by
  unfold storeAt at hv
  split at hv
  case h_2 => cases hv
  split at hv
  case h_2 => cases hv
  simp only [Option.bind_eq_some_iff] at hv
  obtain ⟨xs, _, hv⟩ := hv
  rw [Option.ite_none_right_eq_some] at hv
  obtain ⟨_, hv⟩ := hv
  split at hv
  · cases hv; rw [setObj_length]
  · simp only [Option.map_eq_some_iff] at hv; obtain ⟨_, _, rfl⟩ := hv; rw [setObj_length]

theorem callV_len (hL : LenOK cl rd) {f v : AV} {args : List AV} {s s' : St} (hv : callV cl rd s f args = some (v, s')) : s'.length = s.length := by
  unfold callV at hv
  split at hv
  · exact hL.1 _ _ _ _ _ hv
  · exact hL.2 _ _ _ _ _ _ hv
  · cases hv

theorem evO_len (hL : LenOK cl rd) {e : Env} {s s' : St} {v : AV} {q : O} (hv : evO cl rd G h e s q = some (v, s')) : s'.length = s.length := by
  cases q
  case app => exact appAt_len hv
  case call => exact callV_len hL hv
  case callk => simp only [evO, Option.bind_eq_some_iff, Option.ite_none_right_eq_some, Option.some.injEq, Prod.mk.injEq, Prod.exists] at hv; obtain ⟨_, _, h1, _, _, rfl⟩ := hv; exact callV_len hL h1
  case store => simp only [evO, Option.map_eq_some_iff, Prod.mk.injEq] at hv; obtain ⟨_, h1, _, rfl⟩ := hv; exact storeAt_len h1
  case alloc => simp only [evO, Option.map_eq_some_iff, Prod.mk.injEq, Prod.exists] at hv; obtain ⟨_, _, _, h1, _, rfl⟩ := hv; exact (newObj_some h1).1
  case mkmap => simp only [evO, Option.map_eq_some_iff, Prod.mk.injEq, Prod.exists] at hv; obtain ⟨_, _, _, h1, _, rfl⟩ := hv; exact (newObj_some h1).1
  case box => simp only [evO, Option.bind_eq_some_iff, Option.map_eq_some_iff, Prod.mk.injEq, Prod.exists] at hv; obtain ⟨_, _, _, _, _, h1, _, rfl⟩ := hv; exact (newObj_some h1).1
  case bslo => simp only [evO, Option.bind_eq_some_iff, Option.map_eq_some_iff, Prod.mk.injEq, Prod.exists] at hv; obtain ⟨_, _, _, _, _, h1, _, rfl⟩ := hv; exact (newObj_some h1).1
  case mksl =>
    simp only [evO] at hv
    unfold mkslAt at hv
    split at hv
    · split at hv
      · simp only [Option.map_eq_some_iff, Prod.mk.injEq, Prod.exists] at hv; obtain ⟨_, _, _, h1, _, rfl⟩ := hv; exact (newObj_some h1).1
      · cases hv
    · cases hv
  case appo =>
    simp only [evO] at hv
    unfold appoAt at hv
    split at hv
    · split at hv
      · simp only [Option.bind_eq_some_iff] at hv
        obtain ⟨ys, _, hv⟩ := hv
        split at hv
        · cases hv; rfl
        rw [Option.ite_none_right_eq_some] at hv
        obtain ⟨_, hv⟩ := hv
        simp only [Option.map_eq_some_iff, Prod.mk.injEq, Prod.exists] at hv; obtain ⟨_, _, _, h1, _, rfl⟩ := hv; exact (newObj_some h1).1
      · cases hv
    · cases hv
  case upd =>
    simp only [evO, Option.map_eq_some_iff, Prod.mk.injEq] at hv
    obtain ⟨s1, h1, _, rfl⟩ := hv
    unfold updAt at h1
    split at h1
    case h_2 => cases h1
    split at h1
    case h_2 => cases h1
    simp only [Option.bind_eq_some_iff, Option.map_eq_some_iff, Option.ite_none_right_eq_some] at h1
    obtain ⟨_, _, _, _, _, rfl⟩ := h1
    rw [setObj_length]
  case als => simp only [evO] at hv; obtain ⟨_, _, _, _, _, rfl⟩ := als_some hv; rw [setObj_length]
  case fst =>
    simp only [evO, fstAt, Option.map_eq_some_iff, Prod.mk.injEq] at hv
    obtain ⟨s1, h1, rfl, rfl⟩ := hv
    split at h1
    case h_2 => cases h1
    split at h1
    case h_2 => cases h1
    simp only [Option.bind_eq_some_iff, Option.ite_none_right_eq_some, Option.some.injEq] at h1
    obtain ⟨_, _, _, rfl⟩ := h1
    rw [setObj_length]
  case load => rw [(eff_rc (t := s) rfl hv).1]
  case pcall f l => rcases effP_cases f l with ⟨_, h⟩ | h; exact congrArg _ (eff_n (q := .pcall f l) h hv).1; exact congrArg _ (eff_rc (q := .pcall f l) (t := s) h hv).1
  case lookup => rw [(eff_rm (t := s) rfl hv).1]
  case lenm => rw [(eff_rm (t := s) rfl hv).1]
  case copy => simp [evO] at hv
  all_goals rw [(eff_n rfl hv).1]

theorem step_len (hL : LenOK cl rd) {e e1 : Env} {s s1 : St} {q : Op} (hv : stepOp cl rd G h q e s = some (e1, s1)) : s1.length = s.length := by
  unfold stepOp at hv
  simp only [Option.bind_eq_some_iff] at hv
  obtain ⟨w, _, hv⟩ := hv
  split at hv
  · simp only [Option.map_eq_some_iff, Prod.mk.injEq, Prod.exists] at hv
    obtain ⟨v, s2, h1, _, rfl⟩ := hv
    exact evO_len hL h1
  · simp only [Option.some.injEq, Prod.mk.injEq] at hv; rw [hv.2]

theorem evOps_len (hL : LenOK cl rd) : ∀ {l : List Op} {e e1 : Env} {s s1 : St}, evOps cl rd G h l e s = some (e1, s1) → s1.length = s.length
  | [], e, e1, s, s1, hv => by simp only [evOps, Option.some.injEq, Prod.mk.injEq] at hv; rw [hv.2]
  | q :: l, e, e1, s, s1, hv => by
    rw [evOps_cons, Option.bind_eq_some_iff] at hv
    obtain ⟨⟨e2, s2⟩, h1, h2⟩ := hv
    rw [evOps_len hL h2, step_len hL h1]

theorem iter_len {f : Env → St → Option (Ex × Env × St)} (hf : ∀ e s x e1 s1, f e s = some (x, e1, s1) → s1.length = s.length) : ∀ {n : Nat} {e e1 : Env} {s s1 : St} {x : Ex}, iter f n e s = some (x, e1, s1) → s1.length = s.length
  | 0, e, e1, s, s1, x, hv => by simp [iter] at hv
  | n + 1, e, e1, s, s1, x, hv => by
    simp only [iter, Option.bind_eq_some_iff, Prod.exists] at hv
    obtain ⟨x', e2, s2, h1, h2⟩ := hv
    cases x' with
    | nrm => rw [iter_len hf h2, hf _ _ _ _ _ h1]
    | _ => simp only [Option.some.injEq, Prod.mk.injEq] at h2; rw [← h2.2.2, hf _ _ _ _ _ h1]

theorem evC_len (hL : LenOK cl rd) (n : Nat) : ∀ (a : C) (e e1 : Env) (s s1 : St) (x : Ex), evC n cl rd G h a e s = some (x, e1, s1) → s1.length = s.length
  | .skip, e, e1, s, s1, x, hv => by simp only [evC, Option.some.injEq, Prod.mk.injEq] at hv; rw [hv.2.2]
  | .exit i, e, e1, s, s1, x, hv => by simp only [evC, Option.some.injEq, Prod.mk.injEq] at hv; rw [hv.2.2]
  | .ret, e, e1, s, s1, x, hv => by simp only [evC, Option.some.injEq, Prod.mk.injEq] at hv; rw [hv.2.2]
  | .ops l, e, e1, s, s1, x, hv => by
    simp only [evC, Option.map_eq_some_iff, Prod.mk.injEq, Prod.exists] at hv
    obtain ⟨_, _, h1, _, _, rfl⟩ := hv
    exact evOps_len hL h1
  | .seq a b, e, e1, s, s1, x, hv => by
    simp only [evC, Option.bind_eq_some_iff, Prod.exists] at hv
    obtain ⟨x', e2, s2, h1, h2⟩ := hv
    have := evC_len hL n a _ _ _ _ _ h1
    cases x' with
    | nrm => rw [evC_len hL n b _ _ _ _ _ h2, this]
    | _ => simp only [Option.some.injEq, Prod.mk.injEq] at h2; rw [← h2.2.2, this]
  | .cond c a b, e, e1, s, s1, x, hv => by
    simp only [evC] at hv
    split at hv
    · split at hv
      · exact evC_len hL n a _ _ _ _ _ hv
      · exact evC_len hL n b _ _ _ _ _ hv
    · cases hv
  | .block i a, e, e1, s, s1, x, hv => by
    simp only [evC, Option.map_eq_some_iff, Prod.mk.injEq, Prod.exists] at hv
    obtain ⟨_, _, _, h1, _, _, rfl⟩ := hv
    exact evC_len hL n a _ _ _ _ _ h1
  | .loop lv a, e, e1, s, s1, x, hv => by
    rw [evC, Option.bind_eq_some_iff] at hv
    obtain ⟨e0, _, hv⟩ := hv
    refine iter_len (fun e s x e1 s1 hf => ?_) hv
    simp only [Option.bind_eq_some_iff, Prod.exists] at hf
    obtain ⟨x', e2, s2, h1, h2⟩ := hf
    have := evC_len hL n a _ _ _ _ _ h1
    split at h2
    · simp only [Option.map_eq_some_iff, Prod.mk.injEq] at h2
      obtain ⟨_, _, _, _, rfl⟩ := h2
      simpa using this
    · cases h2
  | .range f ps asg body, e, e1, s, s1, x, hv => by
    simp only [evC, Option.bind_eq_some_iff, Prod.exists] at hv
    obtain ⟨l, i, s2, h1, hv⟩ := hv
    have hl1 := (newObj_some h1).1
    split at hv
    case h_2 => cases hv
    simp only [Option.bind_eq_some_iff, Prod.exists] at hv
    obtain ⟨r, s3, h2, hv⟩ := hv
    have hl2 := hL.1 _ _ _ _ _ h2
    split at hv
    · split at hv
      · simp only [Option.some.injEq, Prod.mk.injEq] at hv; rw [← hv.2.2, setObj_length, hl2, hl1]
      · cases hv
    · split at hv
      · cases hv
      · simp only [Option.some.injEq, Prod.mk.injEq] at hv; rw [← hv.2.2, setObj_length, hl2, hl1]
    · cases hv
  | .scope a, e, e1, s, s1, x, hv => by
    simp only [evC] at hv
    exact evC_len hL n a _ _ _ _ _ hv
  | .rsv ns a, e, e1, s, s1, x, hv => by
    simp only [evC, Option.bind_eq_some_iff] at hv
    obtain ⟨s2, h1, h2⟩ := hv
    rw [evC_len hL n a _ _ _ _ _ h2, (rsv_get h1).1]
end

/-! ### what is checked of code -/

def opsOK (T : Nat → Option TyI) (gl : List Nat) (guard : Nat → Bool) (N : Nat) (ops : Array Oper) : List Op → List Oper → Bool
  | [], [] => true
  | q :: l, o :: r => chkOp T gl guard N ops q o && opsOK T gl guard N ops l r
  | _, _ => false

theorem opsOK_ok {T : Nat → Option TyI} {gl : List Nat} {guard : Nat → Bool} {N : Nat} {ops : Array Oper} : ∀ {l : List Op} {r : List Oper}, opsOK T gl guard N ops l r = true →
    l.length = r.length ∧ ∀ (i : Nat) (q : Op) (o : Oper), l[i]? = some q → r[i]? = some o → chkOp T gl guard N ops q o = true
  | [], [], _ => by simp
  | [], _ :: _, h => by simp [opsOK] at h
  | _ :: _, [], h => by simp [opsOK] at h
  | q :: l, o :: r, h => by
    simp only [opsOK, Bool.and_eq_true] at h
    obtain ⟨h1, h2⟩ := opsOK_ok h.2
    refine ⟨by simp [h1], fun i q' o' hq ho => ?_⟩
    cases i with
    | zero => simp at hq ho; subst hq; subst ho; exact h.1
    | succ i => exact h2 i q' o' (by simpa using hq) (by simpa using ho)

def chkR (T : Nat → Option TyI) (gl : List Nat) (guard : Nat → Bool) (mixed : Bool) (N : Nat) (l : List Op) : Code → Bool
  | .region _ ops draw => opsOK T gl guard N ops l ops.toList && (!draw || (mixed && (ordT (l.zip (ops.toList.map bindsOf)).reverse).isSome))
  | _ => false

/-- Code against the program's. -/
def chkC (T : Nat → Option TyI) (gl : List Nat) (guard : Nat → Bool) (mixed : Bool) (N : Nat) : C → Code → Bool
  | .skip, y => (match y with | .skip => true | .label _ => true | _ => false)
  | .ops l, y => chkR T gl guard mixed N l y
  | .seq a b, y => (match y with | .seq u v => chkC T gl guard mixed N a u && chkC T gl guard mixed N b v | _ => false)
  | .cond x a b, y => (match y with | .cond o u v => chkX gl x o && chkC T gl guard mixed N a u && chkC T gl guard mixed N b v | _ => false)
  | .block i a, y => (match y with | .block j u => i == j && chkC T gl guard mixed N a u | _ => false)
  | .loop _ a, y => (match y with | .loop u => chkC T gl guard mixed N a u | _ => false)
  | .range f ps asg body, y => (match y with | .rangeFunc g qs u v => chkX gl f g && decide (ps = qs.toList) && ps.all (fun p => decide (p < N)) && chkC T gl guard mixed N asg u && chkC T gl guard mixed N body v | _ => false)
  | .exit i, y => (match y with | .exit j => i == j | _ => false)
  | .ret, y => (match y with | .ret => true | _ => false)
  | .rsv _ a, y => chkC T gl guard mixed N a y
  | .scope a, y => (match y with | .scope u => chkC T gl guard mixed N a u | _ => false)
end Go.Ab
