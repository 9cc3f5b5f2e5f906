/-
  Code that is checked does in memory what it does abstractly.
-/
import Derived.Test.YthbekoofiienjaaDoorAbCode
namespace Go.Ab
open Go

/-- How a way out is the machine's. -/
def exOf : Ex → Exit
  | .nrm => .normal
  | .exit i => .exit i
  | .ret => .ret

def markOf (d : Nat) : Deferred := { target := .collected d, args := #[] }

/-- What holds behind code. -/
def Post (K : Nat → C → Code → Prop) (G : Nat → List AV) (gl : List Nat) (N : Nat) (ro : Option Nat) (c : Cf) (D D0 : List Nat) (x : Ex) (e' : Env) (s' : St) (ex : Exit) (a' : Act) (w' : World) : Prop :=
  ex = exOf x ∧ ∃ c' D', c'.w = w' ∧ Inv K c' s' ∧ ExtB c c' ∧ Ev c'.vw G gl e' a' ∧ a'.tmps.size = N ∧ a'.defers = D'.map markOf ∧ c'.df = D' ++ D0 ∧ (ro.isSome = true → D' = D)

section
variable {K : Nat → C → Code → Prop} {P : Program} {T : Nat → Option TyI} {G : Nat → List AV} {gl : List Nat} {N : Nat} {cl : Call} {rd : Round} {hh n m : Nat} {ro : Option Nat} {D0 : List Nat}

theorem Post.from {c c1 : Cf} {D D1 : List Nat} {x : Ex} {e' : Env} {s' : St} {ex : Exit} {a' : Act} {w' : World} (hx : ExtB c c1) (hd : ro.isSome = true → D1 = D) (h : Post K G gl N ro c1 D1 D0 x e' s' ex a' w') : Post K G gl N ro c D D0 x e' s' ex a' w' := by
  obtain ⟨h1, c', D', h2, h3, h4, h5, h6, h7, h8, h9⟩ := h
  exact ⟨h1, c', D', h2, h3, hx.trans h4, h5, h6, h7, h8, fun hr => (h9 hr).trans (hd hr)⟩

theorem Ev.extB {c c' : Cf} {e : Env} {a : Act} (h : ExtB c c') (hE : Ev c.vw G gl e a) : Ev c'.vw G gl e a := ⟨fun i => (hE.er i).extB h, fun g hg => (hE.gl g hg).extB h⟩

/-- A block for deferred calls. -/
theorem inv_df {c : Cf} {s : St} (hI : Inv K c s) : Inv K { c with w := c.w.alloc (.deferred (some [])), df := c.w.heap.size :: c.df } s ∧ ExtB c { c with w := c.w.alloc (.deferred (some [])), df := c.w.heap.size :: c.df } := by
  have hE : ExtB c { c with w := c.w.alloc (.deferred (some [])), df := c.w.heap.size :: c.df } := {
      X := rfl
      k1 := fun b hb _ => alloc_old hb
      k2 := fun b o x hx _ => alloc_cell hx
      k3 := by simp [World.alloc_heap]
      ow := fun b o hb h => by
        rcases h with h | h | h
        · exact .inl h
        · exact .inr (.inl h)
        · rcases List.mem_cons.1 h with h | h
          · omega
          · exact .inr (.inr h)
      sg := fun l' i' b h => h
      tk := fun l p r h => ⟨r, h, .inl rfl⟩
      lp := fun b r h => ⟨r, by rw [show (World.alloc _ _).heap[b]? = _ from alloc_old (heap_lt h)]; exact h⟩
      io := sameIO_alloc (fun _ _ _ h => by cases h) }
  refine ⟨?_, hE⟩
  exact { hI with
    obj := fun l' i' o' ho hd => by
      obtain ⟨b, h1, h2⟩ := hI.obj l' i' o' ho hd
      exact ⟨b, h1, h2.mono (fun v x hv => hv.extB hE) (alloc_old (hI.sgw _ _ _ h1))⟩
    Xw := fun b o h => by have := hI.Xw b o h; simp only [World.alloc_heap, Array.size_push]; omega
    sgw := fun l' i' b h => by
      have := hI.sgw _ _ _ h
      simp only [World.alloc_heap, Array.size_push]; omega
    tkb := fun l' p r h he => by
      obtain ⟨cs, el, h1, h2, h3, h4⟩ := hI.tkb l' p r h he
      exact ⟨cs, el, by rw [alloc_old (heap_lt h1)]; exact h1, h2, h3, h4⟩
    dfw := fun d hd => by
      rcases List.mem_cons.1 hd with rfl | hd
      · refine ⟨alloc_new, fun l i h => ?_, fun o h => ?_⟩
        · have := hI.sgw _ _ _ h; omega
        · have := hI.Xw _ _ h; omega
      · obtain ⟨h1, h2, h3⟩ := hI.dfw d hd
        exact ⟨by rw [alloc_old (heap_lt h1)]; exact h1, h2, h3⟩
    dfn := by
      refine List.nodup_cons.2 ⟨fun hd => ?_, hI.dfn⟩
      have := heap_lt (hI.dfw _ hd).1; omega }

/-- The temporaries that live on behind a round. -/
theorem keep_ev {c : Cf} {lv L : Nat} (hlv : lv < L) : ∀ {l : List Nat} {e e2 : Env} {a : Act}, keepLive lv e l = some e2 → Ev c.vw G gl e a → ER (c.below L).vw e2 a.tmps
  | [], e, e2, a, h, _ => by
    simp only [keepLive, Option.some.injEq] at h
    subst h
    exact fun t => .undef _
  | t :: l, e, e2, a, h, hE => by
    have hcons : ∀ (v : AV) (e3 : Env), clamp lv (e.get t) = some v → keepLive lv e l = some e3 → ER (c.below L).vw ((t, v) :: e3) a.tmps := by
      intro v e3 h1 h2 u
      have ih := keep_ev hlv h2 hE
      simp only [Env.get]
      split
      · rename_i hu
        rw [Nat.beq_eq] at hu
        subst hu
        exact (clamp_vr h1 (hE.er t)).le (below_le hlv) (clamp_low h1)
      · exact ih u
    unfold keepLive at h
    split at h
    · exact keep_ev hlv h hE
    · simp only [Option.bind_eq_some_iff, Option.map_eq_some_iff] at h
      obtain ⟨v, h1, e3, h2, rfl⟩ := h
      exact hcons v e3 h1 h2

theorem keep_ev0 {c : Cf} {lv : Nat} : ∀ {l : List Nat} {e e2 : Env} {a : Act}, keepLive lv e l = some e2 → Ev c.vw G gl e a → ER c.vw e2 a.tmps
  | [], e, e2, a, h, _ => by
    simp only [keepLive, Option.some.injEq] at h
    subst h
    exact fun t => .undef _
  | t :: l, e, e2, a, h, hE => by
    have hcons : ∀ (v : AV) (e3 : Env), clamp lv (e.get t) = some v → keepLive lv e l = some e3 → ER c.vw ((t, v) :: e3) a.tmps := by
      intro v e3 h1 h2 u
      have ih := keep_ev0 h2 hE
      simp only [Env.get]
      split
      · rename_i hu
        rw [Nat.beq_eq] at hu
        subst hu
        exact clamp_vr h1 (hE.er t)
      · exact ih u
    unfold keepLive at h
    split at h
    · exact keep_ev0 h hE
    · simp only [Option.bind_eq_some_iff, Option.map_eq_some_iff] at h
      obtain ⟨v, h1, e3, h2, rfl⟩ := h
      exact hcons v e3 h1 h2

theorem glb_below {c : Cf} {L : Nat} (h : Glb G gl c.vw) : Glb G gl (c.below L).vw := fun g hg => (h g hg).keep (below_le (c := c) (L := L + 1) (l := L) (by omega)).toKeeps rfl |> fun h' => by
  have hk : Keeps c.vw (c.below L).vw := ⟨fun b o x hx ho => ⟨hx, fun hn => ho (below_own hn)⟩, fun b e k hb ho => ⟨hb, fun o hn => ho o (below_own hn)⟩⟩
  exact (h g hg).keep hk rfl


/-- The tie between abstract code and the program's. -/
abbrev KK (P : Program) (T : Nat → Option TyI) (gl : List Nat) : Nat → C → Code → Prop := fun N a y => chkC T gl (P.eqGuardType P.depth) (P.follows .mixedOrders) N a y = true

theorem Ev.defs {V : Vw} {e : Env} {a : Act} {d : List Deferred} (h : Ev V G gl e a) : Ev V G gl e { a with defers := d } := ⟨h.er, h.gl⟩

theorem exOf_nrm {x : Ex} (h : Exit.normal = exOf x) : x = .nrm := by cases x <;> simp [exOf] at h; rfl

theorem exCode_none {x : Ex} : exCode x = none ↔ x = .nrm := by cases x <;> simp [exCode]

theorem run_enterLoop_in {w : World} {b : Nat} {r : Loop} (h : w.heap[b]? = some (.loop r)) (fn : FuncId) (tmps : Array Value) (ps : Array Tmp) (assign body : Code) :
    (Instr.enterLoop fn tmps ps assign body (some b)).run P w =
      .ok (w.heap.size, []) (w.alloc (.loop { state := .ready, pending := none, fn, tmps, params := ps, assign, body, defers := r.defers })) := by
  unfold Instr.enterLoop
  simp only [Sem.run_bind, run_getLoop h, run_newObj_alloc, Result.andThen, Sem.run_pure]

/-- The loop's record is laid. -/
theorem enter_cfg {fn : FuncId} {c : Cf} {s s1 : St} {e : Env} {act : Act} {l i : Nat} {qs : Array Tmp} {asg body : C} {u v : Code} (hI : Inv (KK P T gl) c s) (hE : Ev c.vw G gl e act) (hN : act.tmps.size = N) (hlt : hh < s.length)
    (hro : ∀ b, ro = some b → ∃ r : Loop, c.w.heap[b]? = some (.loop r)) (hn : newObj s (.loop e hh qs.toList asg body true .nrm) = some (l, i, s1)) (h1 : KK P T gl N asg u) (h2 : KK P T gl N body v) (hp : ∀ p ∈ qs.toList, p < N) :
    ∃ l0 Dn c1, (Instr.enterLoop fn act.tmps qs u v ro).run P c.w = .ok (l0, Dn.map markOf) c1.w ∧ Inv (KK P T gl) c1 s1 ∧ ExtB c c1 ∧ c1.sg l i = some l0 ∧ c1.df = Dn ++ c.df ∧ (ro.isSome = true → Dn = []) := by
  have hlo : ∀ {c : Cf}, Inv (KK P T gl) c s → Ev c.vw G gl e act → Ab.lowO l (.loop e hh qs.toList asg body true .nrm) := by
    intro c hI hE
    have hl := newObj_lev hn
    refine ⟨fun t => ?_, by omega⟩
    rw [hl]; exact (hE.er t).low hI
  have mk : ∀ {c : Cf} (L : Loop), Inv (KK P T gl) c s → Ev c.vw G gl e act → L.state = .ready → L.pending = none → L.params = qs → L.tmps = act.tmps → L.assign = u → L.body = v →
      ∃ c1, c1 = { c with w := c.w.alloc (.loop L), sg := fun l' i' => if l = l' ∧ i = i' then some c.w.heap.size else c.sg l' i' } ∧ Inv (KK P T gl) c1 s1 ∧ Ext c c1 := by
    intro c L hI hE e1 e2 e3 e4 e5 e6
    refine inv_new (ob := .loop L) hI hn (hlo hI hE) (by simp) (fun _ _ _ h => by cases h) fun c' hc' hx => ?_
    subst hc'
    refine ⟨L, alloc_new, by simp [e1], by simp [e2, exCode], by simp, by rw [e3], ?_, ?_, ?_, ?_⟩
    · rw [e4]; exact hE.er.ext hx
    · rw [e4, e5, hN]; exact h1
    · rw [e4, e6, hN]; exact h2
    · rw [e4, hN]; exact hp
  cases hr : ro with
  | none =>
    obtain ⟨i0, x0⟩ := inv_df hI
    obtain ⟨c1, hc1, i1, x1⟩ := mk { state := .ready, pending := none, fn, tmps := act.tmps, params := qs, assign := u, body := v, defers := c.w.heap.size } i0 (hE.extB x0) rfl rfl rfl rfl rfl rfl
    refine ⟨c.w.heap.size + 1, [c.w.heap.size], c1, ?_, i1, x0.trans x1.toExtB, ?_, ?_, by simp⟩
    · rw [run_enterLoop_outer, hc1]; rfl
    · rw [hc1]; simp [World.alloc_heap]
    · rw [x1.df]; rfl
  | some b =>
    obtain ⟨r, hr'⟩ := hro b hr
    obtain ⟨c1, hc1, i1, x1⟩ := mk { state := .ready, pending := none, fn, tmps := act.tmps, params := qs, assign := u, body := v, defers := r.defers } hI hE rfl rfl rfl rfl rfl rfl
    refine ⟨c.w.heap.size, [], c1, ?_, i1, x1.toExtB, ?_, ?_, fun _ => rfl⟩
    · rw [run_enterLoop_in hr', hc1]; rfl
    · rw [hc1]; simp
    · rw [x1.df]; rfl

theorem stepR_scope {b : Frame} {a : Act} {k : List Item} {cs : List Frame} {w : World} {c : Code} : step P (lone (b.atR a (.code (.scope c) :: k)) cs w) = .next (lone (b.atR a (.code c :: .inScope c :: k)) cs w) :=
  step_lone_go (by simp [stepG, stepG.exec, Frame.atR])
theorem stepR_inScope {b : Frame} {a : Act} {k : List Item} {cs : List Frame} {w : World} {c : Code} : step P (lone (b.atR a (.inScope c :: k)) cs w) = .next (lone (b.atR a k) cs w) :=
  step_lone_go (by simp [stepG, stepG.exec, Frame.atR])

/-- A scope that no goto leaves. -/
theorem wpIn_scope {F : Fence} {Q : Exit → Act → World → Prop} {a : Act} {w : World} {c : Code} (hng : ∀ l a w, ¬ Q (.goto l) a w) (h : c.wpIn F n P Q a w) : (Code.scope c).wpIn F n P Q a w := by
  intro b k cs hro hb hr
  have h0 : (lone (b.atR a (.code (.scope c) :: k)) cs w).fenced P F := fenced_calm hb hr rfl
  obtain ⟨e, a₁, w₁, hq, harr⟩ := h b (.inScope c :: k) cs hro hb hr
  cases e with
  | normal => exact ⟨.normal, a₁, w₁, hq, .head h0 stepR_scope (StepsIn.trans harr (.one (fenced_calm hb hr rfl) stepR_inScope))⟩
  | exit id =>
    have hx : exitTo id (.inScope c :: k) = exitTo id k := by simp [exitTo]
    exact ⟨.exit id, a₁, w₁, hq, fun k' hk => .head h0 stepR_scope (harr.1 k' (by rw [hx]; exact hk)),
      fun hr' hk => let ⟨k₁, h1, h2⟩ := harr.2 hr' (by rw [hx]; exact hk); ⟨k₁, h1, .head h0 stepR_scope h2⟩⟩
  | goto l => exact absurd hq (hng l _ _)
  | ret => exact ⟨_, a₁, w₁, hq, .of_steps (.one h0 stepR_scope) harr⟩
  | panic ch => exact ⟨_, a₁, w₁, hq, .of_steps (.one h0 stepR_scope) harr⟩
  | outgrown => exact ⟨_, a₁, w₁, hq, .of_steps (.one h0 stepR_scope) harr⟩

variable (hTab : TabOK P T) (hC : CallOK (KK P T gl) P G gl cl) (hR : RoundOK (KK P T gl) P G gl rd) (hL : LenOK cl rd)
include hTab hC hR hL

theorem evC_wp : ∀ (a : C) (y : Code) (e e' : Env) (s s' : St) (x : Ex) (c : Cf) (act : Act) (D : List Nat), evC m cl rd G hh a e s = some (x, e', s') → KK P T gl N a y → Inv (KK P T gl) c s →
    Ev c.vw G gl e act → act.tmps.size = N → hh < s.length → (∀ b, ro = some b → ∃ r : Loop, c.w.heap[b]? = some (.loop r)) → act.defers = D.map markOf → c.df = D ++ D0 →
    y.wpIn (Fw ro) n P (Post (KK P T gl) G gl N ro c D D0 x e' s') act c.w
  | .skip, y, e, e', s, s', x, c, act, D, hv, hk, hI, hE, hN, hlt, hro, hd, hdf => by
    simp only [evC, Option.some.injEq, Prod.mk.injEq] at hv
    obtain ⟨rfl, rfl, rfl⟩ := hv
    have hp : Post (KK P T gl) G gl N ro c D D0 .nrm e s .normal act c.w := ⟨rfl, c, D, rfl, hI, .refl c, hE, hN, hd, hdf, fun _ => rfl⟩
    simp only [KK, chkC] at hk
    split at hk
    · exact wpIn_skip hp
    · exact wpIn_label hp
    · cases hk
  | .exit i, y, e, e', s, s', x, c, act, D, hv, hk, hI, hE, hN, hlt, hro, hd, hdf => by
    simp only [evC, Option.some.injEq, Prod.mk.injEq] at hv
    obtain ⟨rfl, rfl, rfl⟩ := hv
    simp only [KK, chkC] at hk
    split at hk
    case h_2 => cases hk
    rw [beq_iff_eq] at hk
    subst hk
    exact wpIn_exit ⟨rfl, c, D, rfl, hI, .refl c, hE, hN, hd, hdf, fun _ => rfl⟩
  | .ret, y, e, e', s, s', x, c, act, D, hv, hk, hI, hE, hN, hlt, hro, hd, hdf => by
    simp only [evC, Option.some.injEq, Prod.mk.injEq] at hv
    obtain ⟨rfl, rfl, rfl⟩ := hv
    simp only [KK, chkC] at hk
    split at hk
    case h_2 => cases hk
    exact wpIn_ret ⟨rfl, c, D, rfl, hI, .refl c, hE, hN, hd, hdf, fun _ => rfl⟩
  | .ops l, y, e, e', s, s', x, c, act, D, hv, hk, hI, hE, hN, hlt, hro, hd, hdf => by
    simp only [evC, Option.map_eq_some_iff, Prod.mk.injEq, Prod.exists] at hv
    obtain ⟨e1, s1, h1, rfl, rfl, rfl⟩ := hv
    simp only [KK, chkC] at hk
    unfold chkR at hk
    split at hk
    case h_2 => cases hk
    rename_i id ops draw
    simp only [Bool.and_eq_true] at hk
    obtain ⟨k1, k2⟩ := hk
    obtain ⟨k3, k4⟩ := opsOK_ok k1
    have k5 : l.length = ops.size := by simpa using k3
    have hQ : ∀ a' c', Inv (KK P T gl) c' s1 → Ext c c' → Ev c'.vw G gl e1 a' → a'.tmps.size = N → a'.defers = act.defers → Post (KK P T gl) G gl N ro c D D0 .nrm e1 s1 .normal a' c'.w :=
      fun a' c' i1 x1 v1 n1 d1 => ⟨rfl, c', D, rfl, i1, x1.toExtB, v1, n1, d1.trans hd, x1.df.trans hdf, fun _ => rfl⟩
    cases draw with
    | false =>
      refine wpIn_region (ops_wp hTab hC hR (List.range ops.size) l c s e act (by simp [k5]) (fun k i q hi hq => ?_) h1 hI hE hN hlt (fun e s e1 s1 q _ h => step_len hL h) hQ)
      have hkl : k < l.length := by
        rcases Nat.lt_or_ge k l.length with h | h
        · exact h
        · rw [List.getElem?_eq_none h] at hq; cases hq
      rw [List.getElem?_range (by omega)] at hi
      cases hi
      exact ⟨ops[k], Array.getElem?_eq_getElem (by omega), k4 k q _ hq (by rw [Array.getElem?_toList, Array.getElem?_eq_getElem (by omega)])⟩
    | true =>
      simp only [Bool.not_true, Bool.false_or, Bool.and_eq_true] at k2
      obtain ⟨R, hR'⟩ := Option.isSome_iff_exists.1 k2.2
      have hO := ordT_ok hR'
      rw [List.reverse_reverse] at hO
      exact draw_wp hTab hC hR k2.1 k5 hO (fun i q o hq ho => k4 i q o hq (by simpa using ho)) (fun e s e1 s1 q _ h => step_len hL h) h1 hI hE hN hlt hQ
  | .seq a b, y, e, e', s, s', x, c, act, D, hv, hk, hI, hE, hN, hlt, hro, hd, hdf => by
    simp only [evC, Option.bind_eq_some_iff, Prod.exists] at hv
    obtain ⟨x1, e1, s1, h1, h2⟩ := hv
    simp only [KK, chkC] at hk
    split at hk
    case h_2 => cases hk
    rename_i u v
    rw [Bool.and_eq_true] at hk
    have hlen := evC_len hL m a _ _ _ _ _ h1
    refine wpIn_seq (wpIn_mono (evC_wp a u e e1 s s1 x1 c act D h1 hk.1 hI hE hN hlt hro hd hdf) ?_)
    rintro ex a' w' ⟨rfl, c', D', rfl, i1, xx, v1, n1, d1, df1, r1⟩
    cases x1 with
    | nrm =>
      refine wpIn_mono (evC_wp b v e1 e' s1 s' x c' a' D' h2 hk.2 i1 v1 n1 (by omega) (fun b hb => ?_) d1 df1) fun ex a2 w2 hp => hp.from xx r1
      obtain ⟨r, hr⟩ := hro b hb
      exact xx.lp b r hr
    | exit i =>
      simp only [Option.some.injEq, Prod.mk.injEq] at h2
      obtain ⟨rfl, rfl, rfl⟩ := h2
      exact ⟨rfl, c', D', rfl, i1, xx, v1, n1, d1, df1, r1⟩
    | ret =>
      simp only [Option.some.injEq, Prod.mk.injEq] at h2
      obtain ⟨rfl, rfl, rfl⟩ := h2
      exact ⟨rfl, c', D', rfl, i1, xx, v1, n1, d1, df1, r1⟩
  | .cond q a b, y, e, e', s, s', x, c, act, D, hv, hk, hI, hE, hN, hlt, hro, hd, hdf => by
    simp only [KK, chkC] at hk
    split at hk
    case h_2 => cases hk
    rename_i o u v
    simp only [Bool.and_eq_true] at hk
    have hx := hE.x hk.1.1
    simp only [evC] at hv
    split at hv
    case h_2 => cases hv
    rename_i t ht
    rw [ht] at hx
    generalize hev : act.eval o = ov at hx
    cases hx
    cases t with
    | true => exact wpIn_cond_true hev (evC_wp a u e e' s s' x c act D hv hk.1.2 hI hE hN hlt hro hd hdf)
    | false => exact wpIn_cond_false hev (evC_wp b v e e' s s' x c act D hv hk.2 hI hE hN hlt hro hd hdf)
  | .block i a, y, e, e', s, s', x, c, act, D, hv, hk, hI, hE, hN, hlt, hro, hd, hdf => by
    simp only [evC, Option.map_eq_some_iff, Prod.mk.injEq, Prod.exists] at hv
    obtain ⟨x1, e1, s1, h1, rfl, rfl, rfl⟩ := hv
    simp only [KK, chkC] at hk
    split at hk
    case h_2 => cases hk
    rename_i j u
    rw [Bool.and_eq_true, beq_iff_eq] at hk
    obtain ⟨rfl, hk⟩ := hk
    refine wpIn_block (wpIn_mono (evC_wp a u e e1 s s1 x1 c act D h1 hk hI hE hN hlt hro hd hdf) ?_)
    rintro ex a' w' ⟨rfl, hrest⟩
    cases x1 with
    | nrm => exact ⟨by simp [exOf], hrest⟩
    | ret => exact ⟨by simp [exOf], hrest⟩
    | exit j =>
      simp only [exOf, Exit.inBlock]
      by_cases hji : j = i
      · subst hji
        rw [if_pos rfl, if_pos rfl]
        exact ⟨rfl, hrest⟩
      · rw [if_neg hji, if_neg (fun h => hji (by injection h))]
        exact ⟨rfl, hrest⟩
  | .scope a, y, e, e', s, s', x, c, act, D, hv, hk, hI, hE, hN, hlt, hro, hd, hdf => by
    simp only [evC] at hv
    simp only [KK, chkC] at hk
    split at hk
    case h_2 => cases hk
    rename_i u
    refine wpIn_scope (fun l a w hq => ?_) (evC_wp a u e e' s s' x c act D hv hk hI hE hN hlt hro hd hdf)
    have := hq.1
    cases x <;> simp [exOf] at this
  | .rsv ns a, y, e, e', s, s', x, c, act, D, hv, hk, hI, hE, hN, hlt, hro, hd, hdf => by
    simp only [evC, Option.bind_eq_some_iff] at hv
    obtain ⟨s1, h1, h2⟩ := hv
    exact evC_wp a y e e' s1 s' x c act D h2 hk (inv_rsv hI h1) hE hN (by rw [(rsv_get h1).1]; exact hlt) hro hd hdf
  | .loop lv a, y, e, e', s, s', x, c, act, D, hv, hk, hI, hE, hN, hlt, hro, hd, hdf => by
    simp only [KK, chkC] at hk
    split at hk
    case h_2 => cases hk
    rename_i u
    rw [evC, Option.bind_eq_some_iff] at hv
    obtain ⟨e0, hk0, hv⟩ := hv
    refine wpIn_loop_rounds m ?_
    have key : ∀ (k : Nat) (e : Env) (s : St) (c : Cf) (act : Act) (D : List Nat), iter (fun e s => (evC m cl rd G hh a e (⟨[], []⟩ :: s)).bind fun (x, e, s) =>
        match s with
        | _ :: s' => (keepLive (s'.length - 1) e lv).map fun e => (x, e, s')
        | [] => none) k e s = some (x, e', s') → Inv (KK P T gl) c s → Ev c.vw G gl e act → act.tmps.size = N → hh < s.length → (∀ b, ro = some b → ∃ r : Loop, c.w.heap[b]? = some (.loop r)) → act.defers = D.map markOf → c.df = D ++ D0 →
        Code.roundsIn (Fw ro) n P u (Post (KK P T gl) G gl N ro c D D0 x e' s') k act c.w := by
      intro k
      induction k with
      | zero => intro e s c act D hv; simp [iter] at hv
      | succ k ih =>
        intro e s c act D hv hI hE hN hlt hro hd hdf
        simp only [iter, Option.bind_eq_some_iff, Prod.exists] at hv
        obtain ⟨x2, e2, s2, ⟨x1, e1, s1, h1, h2⟩, h3⟩ := hv
        have hlen := evC_len hL m a _ _ _ _ _ h1
        split at h2
        case h_2 => cases h2
        rename_i f s1'
        simp only [Option.map_eq_some_iff, Prod.mk.injEq] at h2
        obtain ⟨e3, h4, rfl, rfl, rfl⟩ := h2
        have hl1 : s1'.length = s.length := by simpa using hlen
        rw [roundsIn_succ]
        refine wpIn_mono (evC_wp a u e e1 (⟨[], []⟩ :: s) (f :: s1') x1 c act D h1 hk (inv_push hI) hE hN (by simp; omega) hro hd hdf) ?_
        rintro ex a' w' ⟨rfl, c', D', rfl, i1, xx, v1, n1, d1, df1, r1⟩
        have hpop := inv_pop i1
        have hx2 := extB_pop hI xx
        rw [← hl1] at hx2
        have hev2 : Ev (c'.below s1'.length).vw G gl e3 a' := ⟨keep_ev (by omega) h4 v1, glb_below v1.gl⟩
        cases x1 with
        | nrm =>
          have hnext := ih e3 s1' (c'.below s1'.length) a' D' h3 hpop hev2 n1 (by omega) (fun b hb => by obtain ⟨r, hr⟩ := hro b hb; exact hx2.lp b r hr) d1 df1
          have hmono : ∀ (k : Nat) (a2 : Act) (w2 : World), Code.roundsIn (Fw ro) n P u (Post (KK P T gl) G gl N ro (c'.below s1'.length) D' D0 x e' s') k a2 w2 → Code.roundsIn (Fw ro) n P u (Post (KK P T gl) G gl N ro c D D0 x e' s') k a2 w2 := by
            intro k
            induction k with
            | zero => intro a2 w2 h; exact h
            | succ k ihk =>
              intro a2 w2 h
              rw [roundsIn_succ] at h ⊢
              refine wpIn_mono h fun ex a3 w3 hp => ?_
              cases ex with
              | normal => exact ihk a3 w3 hp
              | _ => exact Post.from hx2 r1 hp
          exact hmono k a' _ hnext
        | exit i =>
          simp only [Option.some.injEq, Prod.mk.injEq] at h3
          obtain ⟨rfl, rfl, rfl⟩ := h3
          exact ⟨rfl, c'.below s1'.length, D', rfl, hpop, hx2, hev2, n1, d1, df1, r1⟩
        | ret =>
          simp only [Option.some.injEq, Prod.mk.injEq] at h3
          obtain ⟨rfl, rfl, rfl⟩ := h3
          exact ⟨rfl, c'.below s1'.length, D', rfl, hpop, hx2, hev2, n1, d1, df1, r1⟩
    exact key m e0 s c act D hv hI ⟨keep_ev0 hk0 hE, hE.gl⟩ hN hlt hro hd hdf
  | .range f ps asg body, y, e, e', s, s', x, c, act, D, hv, hk, hI, hE, hN, hlt, hro, hd, hdf => by
    simp only [KK, chkC] at hk
    split at hk
    case h_2 => cases hk
    rename_i g qs u v
    simp only [Bool.and_eq_true, decide_eq_true_eq, List.all_eq_true] at hk
    obtain ⟨⟨⟨⟨hg, rfl⟩, hps⟩, hku⟩, hkv⟩ := hk
    simp only [evC, Option.bind_eq_some_iff, Prod.exists] at hv
    obtain ⟨l, i, s1, h1, hv⟩ := hv
    have hfv := hE.x hg
    split at hv
    case h_2 => cases hv
    rename_i k first caps hfe
    rw [hfe] at hfv
    generalize hgv : act.eval g = gv at hfv
    cases hfv
    rename_i fc cc g1 g3 g2 g4
    simp only [Option.bind_eq_some_iff, Prod.exists] at hv
    obtain ⟨r, s2, h2, hv⟩ := hv
    refine wpIn_rangeFunc fun fn _ => ?_
    obtain ⟨l0, Dn, c1, hent, i1, x1, hsg, hdf1, hDn⟩ := enter_cfg (fn := fn) hI hE hN hlt hro h1 hku hkv hps
    have hVf : VRs c1.vw (erases first) fc := (VRs.erases ⟨g1, g3⟩ : VRs c.vw (erases first) fc) |> fun h => ⟨h.1, fun j w hj => (h.2 j w hj).extB x1⟩
    have hVc : VRs c1.vw caps cc := ⟨g2, fun j w hj => (g4 j w hj).extB x1⟩
    have hVy : VRs c1.vw [.yl l i] #[.func (.yield l0) #[] #[]] := ⟨rfl, fun j w hj => by
      cases j with
      | zero => simp at hj; subst hj; exact .yl l i l0 hsg
      | succ j => simp at hj⟩
    obtain ⟨hlen2, hfn, hcall⟩ := hC _ _ _ _ _ c1 _ h2 i1 ((hVf.append hVy).append hVc) (fun g hg => (hE.gl g hg).extB x1)
    obtain ⟨fn0, f1, f2, f3⟩ := hfn
    refine ⟨l0, Dn.map markOf, c1.w, { target := .fn (.func (k % 1000)) cc, args := fc ++ #[.func (.yield l0) #[] #[]] }, c1.w, k % 1000, _, c1.w, hent, ?_, fun _ _ => trivial, ?_, fun h => (by cases h), fw_calls (Calls.mono hcall ?_)⟩
    · unfold resolve
      simp only [hgv, Deferred.ofValue, Sem.run_pure]
      simp [Act.eval]
    · simp [invoke, callFunc, f1, f3]
      intro hb
      rw [hb] at f2; cases f2
    · intro en w3 hr
      cases en with
      | panicked _ => exact hr.elim
      | outgrown => exact hr.elim
      | returned cv =>
        obtain ⟨c2, rfl, i2, x2, _⟩ := hr
        have fin : ∀ (env : Env) (h0 : Nat) (ps0 : List Nat) (a0 b0 : C) (rdy : Bool) (pend : Ex), getObj s2 l i = some (.loop env h0 ps0 a0 b0 rdy pend) → (rdy = false → pend ≠ .nrm) →
            ∃ w4 c4, (Instr.endLoop l0).run P c2.w = .ok (exCode pend) w4 ∧ c4.w = w4 ∧ Inv (KK P T gl) c4 (setObj s2 l i .dead) ∧ Ext c2 c4 := by
          intro env h0 ps0 a0 b0 rdy pend hob hbz
          obtain ⟨b, hb, L, k1, k2, k3, k4, _⟩ := i2.obj l i _ hob rfl
          have : b = l0 := by have := x2.sg l i l0 hsg; rw [hb] at this; cases this; rfl
          subst this
          have k1' : c2.w.heap[b]? = some (.loop L) := k1
          have hnb : L.state ≠ .busy := by
            rw [k2]
            cases rdy with
            | true => simp
            | false => simp [hbz rfl]
          obtain ⟨i4, x4⟩ := inv_set (w' := c2.w.putObj b (.loop { L with state := .exhausted })) i2 (o := .dead) trivial (by simp) hb hob (sameIO_put k1' (by simp) (by simp)) (fun b' hne => World.putObj_heap_other hne) World.putObj_size
            (fun r _ => ⟨_, World.putObj_heap_same (heap_lt k1')⟩) (fun _ => trivial)
          exact ⟨_, _, by rw [run_endLoop k1' hnb, k3], rfl, i4, x4⟩
        have done : ∀ (pend : Ex) (w4 : World) (c4 : Cf), (Instr.endLoop l0).run P c2.w = .ok (exCode pend) w4 → c4.w = w4 → Inv (KK P T gl) c4 (setObj s2 l i .dead) → Ext c2 c4 →
            rangePost (Fw ro) n P l0 (Post (KK P T gl) G gl N ro c D D0 pend e (setObj s2 l i .dead)) { act with defers := Dn.map markOf ++ act.defers } (.returned cv) c2.w := by
          intro pend w4 c4 hend hw i4 x4
          subst hw
          have hp : Post (KK P T gl) G gl N ro c D D0 pend e (setObj s2 l i .dead) (exOf pend) { act with defers := Dn.map markOf ++ act.defers } c4.w :=
            ⟨rfl, c4, Dn ++ D, rfl, i4, (x1.trans x2.toExtB).trans x4.toExtB, ((hE.extB x1).extB x2.toExtB).extB x4.toExtB |> Ev.defs, hN, by simp [hd], by rw [x4.df, x2.df, hdf1, hdf, List.append_assoc], fun hr => by rw [hDn hr]; rfl⟩
          refine ⟨exCode pend, c4.w, hend, ?_⟩
          cases pend with
          | nrm => exact hp
          | exit j => exact wpIn_exit hp
          | ret => exact wpIn_ret hp
        split at hv
        · rename_i env h0 ps0 a0 b0 pend hob
          split at hv
          case isFalse => cases hv
          rename_i hpn
          simp only [Option.some.injEq, Prod.mk.injEq] at hv
          obtain ⟨rfl, rfl, rfl⟩ := hv
          subst hpn
          obtain ⟨w4, c4, q1, q2, q3, q4⟩ := fin _ _ _ _ _ _ _ hob (by simp)
          exact done .nrm w4 c4 q1 q2 q3 q4
        · rename_i env h0 ps0 a0 b0 pend hob
          split at hv
          case isTrue => cases hv
          rename_i hpn
          simp only [Option.some.injEq, Prod.mk.injEq] at hv
          obtain ⟨rfl, rfl, rfl⟩ := hv
          obtain ⟨w4, c4, q1, q2, q3, q4⟩ := fin _ _ _ _ _ _ _ hob (fun _ => hpn)
          exact done pend w4 c4 q1 q2 q3 q4
        · cases hv
end
end Go.Ab
