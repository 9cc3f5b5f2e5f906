/-
  One region of Go's code: its operations in every order that is let in.
-/
import Derived.Test.YthbekoofiienjaaDoorAbCall
import Derived.Test.YthbekoofiienjaaDoorAbSwap
import Derived.OrdersIn
namespace Go.Ab
open Go

/-- The fence: everything is let in; in a round or not. -/
def Fw (ro : Option Nat) : Fence := { Fence.wide with round := ro }

section
variable {K : Nat → C → Code → Prop} {P : Program} {T : Nat → Option TyI} {G : Nat → List AV} {gl : List Nat} {c : Cf} {s s' : St} {e : Env} {a : Act} {v : AV} {o : Oper} {cl : Call} {rd : Round} {hh n : Nat} {ro : Option Nat}

theorem fw_calls {f : FuncId} {args : Array Value} {w : World} {R : Ending → World → Prop} (h : Calls P f args w R) : CallsIn (Fw ro) n P f args w R := by
  have := callsIn_wide (n := n).2 h
  exact this

theorem fw_round {l : Nat} {f : FuncId} {tmps : Array Value} {x y : Code} {w : World} {R : Ending → World → Prop} (h : RoundIn Fence.wide n P l f tmps x y w R) : RoundIn (Fw ro) n P l f tmps x y w R := h

theorem chkO_defer {guard : Nat → Bool} {q : O} {c : Go.Call} : chkO T gl guard (.defer c) q = false := by cases q <;> rfl

theorem exec_call {g : Operand} {ys : Array Operand} {ts : Array TypeId} {k : Nat} {fc cc : Array Value} {w : World} (hop : o.op = .call ⟨.value g, ys, ts⟩) (hg : a.eval g = .func (.func k) fc cc)
    (hf : ∃ fn, P.funcs[k]? = some fn ∧ fn.body.isSome = true ∧ fn.name ≠ "runtime.NumGoroutine") :
    (execOp a.eval o).run P w = .ok (.enter k (fc ++ ys.map a.eval ++ cc)) w := by
  obtain ⟨fn, h1, h2, h3⟩ := hf
  unfold execOp
  rw [hop]
  simp [resolve, hg, Deferred.ofValue, invoke, callFunc, h1, h3]
  intro hb
  rw [hb] at h2; cases h2

theorem exec_yield {g : Operand} {ys : Array Operand} {ts : Array TypeId} {b : Nat} {w : World} (hop : o.op = .call ⟨.value g, ys, ts⟩) (hg : a.eval g = .func (.yield b) #[] #[]) :
    (execOp a.eval o).run P w = (Instr.yield b (ys.map a.eval)).run P w := by
  unfold execOp
  rw [hop]
  simp [resolve, hg, Deferred.ofValue, invoke]

theorem Ev.vrs (hE : Ev c.vw G gl e a) {l : List X} {m : Array Operand} (h : xsOK gl l m.toList = true) : VRs c.vw (l.map (X.ev G e)) (m.map a.eval) := by
  obtain ⟨h1, h2⟩ := hE.xs h
  refine ⟨by simpa using h1, fun j v hj => ?_⟩
  have := h2 j v hj
  simpa using this

theorem k_call_ok {f : X} {args : List X} {p : Go.Op} (h : k_call gl f args p = true) : ∃ g ys ts, p = .call ⟨.value g, ys, ts⟩ ∧ chkX gl f g = true ∧ xsOK gl args ys.toList = true := by
  unfold k_call at h
  split at h
  · rename_i g ys ts
    simp only [Bool.and_eq_true] at h
    exact ⟨g, ys, ts, rfl, h.1, h.2⟩
  · cases h

variable (hTab : TabOK P T) (hC : CallOK K P G gl cl) (hR : RoundOK K P G gl rd)
include hTab hC hR

/-- One operation. -/
theorem op_wp {q : O} (hI : Inv K c s) (hE : Ev c.vw G gl e a) (hlt : hh < s.length) (h : chkO T gl (P.eqGuardType P.depth) o.op q = true) (hv : evO cl rd G hh e s q = some (v, s'))
    {next : Act → World → Prop} {Q : Exit → Act → World → Prop} (hn : ∀ cv c', Inv K c' s' → Ext c c' → VR c'.vw v cv → next (a.put o.dst cv) c'.w) : o.wpIn (Fw ro) n P a c.w next Q := by
  refine ⟨fun _ _ => trivial, ?_⟩
  rw [Oper.semAt_eq _ _ _ (fun d hd => by rw [hd, chkO_defer] at h; cases h)]
  have plain : plainO q = true → o.uponIn (Fw ro) n P a next Q ((execOp a.eval o).run P c.w) := by
    intro hp
    obtain ⟨nx, cv, c', h1, h2, h3, h4, h5⟩ := d_all hTab hI hE hlt hp h hv
    rw [h1]
    rcases h2 with rfl | ⟨rfl, rfl⟩
    · exact hn cv c' h3 h4 h5
    · exact hn _ c' h3 h4 h5
  have enter : ∀ k args, (execOp a.eval o).run P c.w = .ok (.enter k args) c.w → Calls P k args c.w (Ret K c s' v) → o.uponIn (Fw ro) n P a next Q ((execOp a.eval o).run P c.w) := by
    intro k args hx hc
    rw [hx]
    refine ⟨fun hd => (by cases hd), fw_calls (Calls.mono hc ?_)⟩
    intro e w' hr
    cases e with
    | panicked _ => exact hr.elim
    | outgrown => exact hr.elim
    | returned cv =>
      obtain ⟨c', rfl, i1, e1, v1⟩ := hr
      exact hn cv c' i1 e1 v1
  have callC : ∀ (f : X) (args : List X), k_call gl f args o.op = true → callV cl rd s (f.ev G e) (args.map (·.ev G e)) = some (v, s') → o.uponIn (Fw ro) n P a next Q ((execOp a.eval o).run P c.w) := by
    intro f args h hv
    obtain ⟨g, ys, ts, hop, hf, ha⟩ := k_call_ok h
    have hfv := hE.x hf
    have hav := hE.vrs ha
    unfold callV at hv
    split at hv
    · rename_i f' first caps hf'
      rw [hf'] at hfv
      generalize hgv : a.eval g = gv at hfv
      cases hfv
      rename_i fc cc g1 g3 g2 g4
      have hargs : VRs c.vw (erases (first ++ args.map (X.ev G e)) ++ caps) (fc ++ ys.map a.eval ++ cc) := (VRs.append ⟨g1, g3⟩ hav).erases.append ⟨g2, g4⟩
      obtain ⟨_, hfn, hcall⟩ := hC _ _ _ _ _ _ _ hv hI hargs hE.gl
      exact enter _ _ (exec_call hop hgv hfn) hcall
    · rename_i l i hf'
      rw [hf'] at hfv
      generalize hgv : a.eval g = gv at hfv
      cases hfv
      rename_i b hsg
      obtain ⟨L, h1, h2, h3⟩ := hR _ _ _ _ _ _ _ _ _ hv hI hsg hav.erases hE.gl
      rw [exec_yield hop hgv, run_yield h1 h2]
      refine ⟨fun hd => (by cases hd), fw_round ((h3 (n - 1)).mono ?_)⟩
      intro e w' hr
      cases e with
      | panicked _ => exact hr.elim
      | outgrown => exact hr.elim
      | returned cv =>
        obtain ⟨c', rfl, i1, e1, v1⟩ := hr
        exact hn cv c' i1 e1 v1
    · cases hv
  cases q with
  | call f args => exact callC f args h (by simpa only [evO] using hv)
  | callk f args ks =>
    simp only [evO, Option.bind_eq_some_iff, Option.ite_none_right_eq_some, Option.some.injEq, Prod.mk.injEq, Prod.exists] at hv
    obtain ⟨v', s'', h1, _, rfl, rfl⟩ := hv
    exact callC f args h h1
  | pcall f args =>
    obtain ⟨g, ys, ts, hop, hf, ha⟩ := k_call_ok h
    simp only [evO] at hv
    obtain ⟨rfl, k, fc, cc, hgv, hfn, hcall⟩ := r_pcall hC hI hE.gl hv (hE.x hf) (hE.vrs ha)
    exact enter _ _ (exec_call hop hgv hfn) hcall
  | _ => exact plain rfl

end

/-! ### a region -/

/-- What is checked of an operation with its guard and place. -/
def chkOp (T : Nat → Option TyI) (gl : List Nat) (guard : Nat → Bool) (N : Nat) (ops : Array Oper) (q : Op) (o : Oper) : Bool :=
  chkO T gl guard o.op q.o && decide (q.d = o.dst) && (match q.d with | some d => decide (d < N) | none => true) &&
  (match q.g, o.guard with
    | none, none => true
    | some (t, b), some (j, b') => b == b' && decide ((ops[j]?).bind (·.dst) = some t) && decide (t < N)
    | _, _ => false)

section
variable {K : Nat → C → Code → Prop} {P : Program} {T : Nat → Option TyI} {G : Nat → List AV} {gl : List Nat} {c : Cf} {s s' : St} {e e' : Env} {a : Act} {cl : Call} {rd : Round} {hh n N : Nat} {ro : Option Nat} {ops : Array Oper}

theorem wanted_ok {guard : Nat → Bool} {q : Op} {o : Oper} {w : Bool} (h : chkOp T gl guard N ops q o = true) (hE : Ev c.vw G gl e a) (hN : a.tmps.size = N) (hw : wantedOp e q.g = some w) : Region.wanted o (yielded ops a.tmps) = w := by
  simp only [chkOp, Bool.and_eq_true] at h
  have h4 := h.2
  unfold Region.wanted
  cases hg : q.g with
  | none =>
    rw [hg] at h4 hw
    cases ho : o.guard with
    | none => simp [wantedOp] at hw; subst hw; rfl
    | some p => rw [ho] at h4; cases h4
  | some p =>
    obtain ⟨t, b⟩ := p
    rw [hg] at h4 hw
    cases ho : o.guard with
    | none => rw [ho] at h4; cases h4
    | some p =>
      obtain ⟨j, b'⟩ := p
      rw [ho] at h4
      simp only [Bool.and_eq_true, beq_iff_eq, decide_eq_true_eq] at h4
      obtain ⟨⟨rfl, hd⟩, ht⟩ := h4
      have hv := hE.er t
      have hlt : t < a.tmps.size := by omega
      have hy : yielded ops a.tmps j = (match a.tmps[t]? with | some (.bool b) => some b | _ => none) := by
        unfold yielded
        rw [hd]; rfl
      rw [getD_eq] at hv
      simp only [hy]
      rw [Array.getElem?_eq_getElem hlt] at hv ⊢
      simp only [Option.getD_some] at hv
      simp only [wantedOp] at hw
      split at hw
      · rename_i cb heq
        rw [heq] at hv
        generalize a.tmps[t] = tv at hv ⊢
        cases hv
        simp at hw
        subst hw
        cases cb <;> cases b <;> rfl
      · rename_i heq
        rw [heq] at hv
        generalize a.tmps[t] = tv at hv ⊢
        cases hv
        simp at hw
        subst hw; rfl
      · cases hw

theorem Ev.ext {c' : Cf} (h : Ext c c') (hE : Ev c.vw G gl e a) : Ev c'.vw G gl e a := ⟨hE.er.ext h, fun g hg => (hE.gl g hg).ext h⟩

theorem Ev.put (hE : Ev c.vw G gl e a) {d : Option Nat} {v : AV} {x : Value} (hv : VR c.vw v x) (hd : ∀ t, d = some t → t < a.tmps.size) : Ev c.vw G gl (e.put d v) (a.put d x) := by
  refine ⟨?_, hE.gl⟩
  have := hE.er.put hv hd
  cases d with
  | none => exact this
  | some d => exact this

theorem put_size {d : Option Nat} {x : Value} : (a.put d x).tmps.size = a.tmps.size := by cases d <;> simp [Act.put]
theorem put_defs {d : Option Nat} {x : Value} : (a.put d x).defers = a.defers := by cases d <;> rfl

variable (hTab : TabOK P T) (hC : CallOK K P G gl cl) (hR : RoundOK K P G gl rd)
include hTab hC hR

/-- One operation with its guard. -/
theorem step_wp {q : Op} {o : Oper} {i : Nat} (hi : ops[i]? = some o) (hI : Inv K c s) (hE : Ev c.vw G gl e a) (hN : a.tmps.size = N) (hlt : hh < s.length) (hq : chkOp T gl (P.eqGuardType P.depth) N ops q o = true)
    (hst : stepOp cl rd G hh q e s = some (e', s')) {Kt : Act → World → Prop} {Q : Exit → Act → World → Prop}
    (hk : ∀ a' c', Inv K c' s' → Ext c c' → Ev c'.vw G gl e' a' → a'.tmps.size = N → a'.defers = a.defers → Kt a' c'.w) : wpOpIn (Fw ro) n P ops Q i Kt a c.w := by
  unfold stepOp at hst
  simp only [Option.bind_eq_some_iff] at hst
  obtain ⟨w, hw, hst⟩ := hst
  have hwa := wanted_ok hq hE hN hw
  have hq' := hq
  simp only [chkOp, Bool.and_eq_true, decide_eq_true_eq] at hq
  obtain ⟨⟨⟨q1, q2⟩, q3⟩, q4⟩ := hq
  have hd : ∀ t, o.dst = some t → t < a.tmps.size := fun t ht => by rw [q2, ht] at q3; rw [hN]; simpa using q3
  unfold wpOpIn
  simp only [hi, hwa]
  cases w with
  | false =>
    simp only [Bool.false_eq_true, if_false, Option.some.injEq, Prod.mk.injEq] at hst
    obtain ⟨rfl, rfl⟩ := hst
    refine ⟨fun _ _ => trivial, hk _ c hI (.refl c) ?_ (by rw [put_size, hN]) put_defs⟩
    rw [q2]
    exact hE.put (.tup [] #[] rfl (by simp)) hd
  | true =>
    simp only [if_true, Option.map_eq_some_iff, Prod.mk.injEq, Prod.exists] at hst
    obtain ⟨v, s1, h1, rfl, rfl⟩ := hst
    refine op_wp hTab hC hR hI hE hlt q1 h1 fun cv c' i1 x1 v1 => hk _ c' i1 x1 ?_ (by rw [put_size, hN]) put_defs
    rw [q2]
    exact (hE.ext x1).put v1 hd

/-- Operations one after another. -/
theorem ops_wp {Q : Exit → Act → World → Prop} : ∀ (idx : List Nat) (l : List Op) (c : Cf) (s : St) (e : Env) (a : Act), idx.length = l.length →
    (∀ (k i : Nat) (q : Op), idx[k]? = some i → l[k]? = some q → ∃ o, ops[i]? = some o ∧ chkOp T gl (P.eqGuardType P.depth) N ops q o = true) →
    evOps cl rd G hh l e s = some (e', s') → Inv K c s → Ev c.vw G gl e a → a.tmps.size = N → hh < s.length → (∀ e s e1 s1 q, q ∈ l → stepOp cl rd G hh q e s = some (e1, s1) → s1.length = s.length) →
    (∀ a' c', Inv K c' s' → Ext c c' → Ev c'.vw G gl e' a' → a'.tmps.size = N → a'.defers = a.defers → Q .normal a' c'.w) → wpOpsIn (Fw ro) n P ops Q idx a c.w
  | [], l, c, s, e, a, hl, _, hv, hI, hE, hN, _, _, hQ => by
    have : l = [] := List.eq_nil_of_length_eq_zero (by simpa using hl.symm)
    subst this
    simp only [evOps, Option.some.injEq, Prod.mk.injEq] at hv
    obtain ⟨rfl, rfl⟩ := hv
    exact hQ a c hI (.refl c) hE hN rfl
  | i :: idx, [], c, s, e, a, hl, _, _, _, _, _, _, _, _ => by simp at hl
  | i :: idx, q :: l, c, s, e, a, hl, hm, hv, hI, hE, hN, hlt, hlen, hQ => by
    rw [evOps_cons, Option.bind_eq_some_iff] at hv
    obtain ⟨⟨e1, s1⟩, h1, h2⟩ := hv
    obtain ⟨o, hi, hq⟩ := hm 0 i q rfl rfl
    rw [wpOpsIn_cons]
    refine step_wp hTab hC hR hi hI hE hN hlt hq h1 fun a1 c1 i1 x1 v1 n1 d1 => ?_
    refine ops_wp idx l c1 s1 e1 a1 (by simpa using hl) (fun k j q' hk hl' => hm (k + 1) j q' (by simpa using hk) (by simpa using hl')) h2 i1 v1 n1
      (by rw [hlen _ _ _ _ q (by simp) h1]; exact hlt) (fun e s e1 s1 q' hq' => hlen e s e1 s1 q' (by simp [hq'])) fun a2 c2 i2 x2 v2 n2 d2 => hQ a2 c2 i2 (x1.trans x2) v2 n2 (d2.trans d1)
end
end Go.Ab
