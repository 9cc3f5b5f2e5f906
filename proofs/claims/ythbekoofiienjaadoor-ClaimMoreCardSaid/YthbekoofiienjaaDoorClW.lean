/-
  The claims, the walk: the best value of the boxes from some on.
-/
import Derived.Test.YthbekoofiienjaaDoorClP
namespace Go.Ab.Cl
open Go.Ab

/-- Frames in which what is remembered lies at a place, and what is given is as it is. -/
structure YOK (Y : List (AV × AV) → St) (D l ki : Nat) (gv : AV) (ge : List (AV × AV)) : Prop where
  len : ∀ e, D = (Y e).length
  lt : l < D
  get : ∀ e, getObj (Y e) l ki = some (.map e)
  set : ∀ e e', setObj (Y e) l ki (.map e') = Y e'
  giv : ∀ e, mapAt (Y e) gv = some ge
  gp : gv = .nilM ∨ ∃ lg ig, gv = .mp lg ig ∧ lg < D

theorem YOK.push {Y : List (AV × AV) → St} {D l ki : Nat} {gv : AV} {ge : List (AV × AV)} (h : YOK Y D l ki gv ge) (fr : List Fr) : YOK (fun e => fr ++ Y e) (D + fr.length) l ki gv ge where
  len e := by rw [List.length_append, ← h.len e]; omega
  lt := by have := h.lt; omega
  get e := by rw [getObj_over (by rw [← h.len e]; exact h.lt)]; exact h.get e
  set e e' := by rw [setObj_over (by rw [← h.len e]; exact h.lt), h.set e e']
  giv e := by
    have hg := h.giv e
    rcases h.gp with h1 | ⟨lg, ig, h1, h2⟩
    · subst h1; exact hg
    · subst h1
      simp only [mapAt] at hg ⊢
      rw [getObj_over (by rw [← h.len e]; exact h2)]; exact hg
  gp := by
    rcases h.gp with h1 | ⟨lg, ig, h1, h2⟩
    · exact .inl h1
    · exact .inr ⟨lg, ig, h1, by omega⟩

theorem meant_ev {n : Nat} (hn : 1 ≤ n) (d : Desk) (hd : d.ok) (zi zt : Int) : (evKR Bk Gx fsT n).1 0 65 [d.v, .int .i64 zi, .int .i64 zt] [] ansK = some (.fn 84 [] [.rp d.c, .rp [.int .i64 zi], .rp [.int .i64 zt]], []) := by
  refine call_open (show fsT.find 65 = some a65 from rfl) (by omega) fun n' B cl rd hn' hB hcl hrd => ?_
  have hz : frz [⟨[.cells d.c, .cells [.int .i64 zi], .cells [.int .i64 zt]], []⟩] 0 1000 (.fn 84 [] [.ptr 0 0 0, .ptr 0 1 0, .ptr 0 2 0]) = some (.fn 84 [] [.rp d.c, .rp [.int .i64 zi], .rp [.int .i64 zt]]) := by
    simp [frz, frzs, getObj, getFr, getO, Desk.c, purs, pur, eraseTok_pur hd.tp, eraseTok_pur hd.tb, hd.tp, hd.tb]
  conv => lhs; whnf
  repeat' ((first | refine Qw hB ?_ | refine Qm hB hz ?_ | refine Q0 hB rfl ?_ | refine Q1 hB (by decide) ?_ | refine Q2 hB (by decide) ?_ | refine Q3 hB (by decide) ?_ | refine Q4 hB (by decide) ?_ | refine Q5 hB (by decide) ?_ | refine Q6 hB (by decide) ?_ | refine Q7 hB (by omega) (by omega) ?_ | refine Q8 hB ?_ | refine Q9 hB ?_ | refine Qa hB ?_ | refine Qb hB (fun _ => ?_) (fun _ => ?_) | refine Qc hB ?_ | refine Qd hB ?_ | refine Qe hB ?_ | refine Qf hB ?_ | refine Qg hB ?_ | refine Qh hB ?_ | refine Qi hB ?_ | refine Qj hB rfl ?_ | refine Qk hB rfl ?_ | refine Ql hB (by first | omega | decide) ?_ | refine Qm hB rfl ?_ | refine Qn hB ?_ | refine Qo hB rfl ?_ | refine Qo hB (Qp rfl) ?_ | refine Qq hB rfl ?_ | refine Qr hB ?_ | refine Qs hB ?_ | refine Qt hB ?_ | refine Qu hB ?_ | refine Qv hB rfl ?_) <;> conv => lhs; whnf)
  all_goals rfl

/-- The frame of a call of worth, on others. -/
def SW (a0 a1 lo : AObj) (Y : List (AV × AV) → St) (x : Int × List (AV × AV)) : St := ⟨[a0, a1, .cells [.int .i64 x.1], lo], []⟩ :: Y x.2
section
variable {a0 a1 lo : AObj} {Y : List (AV × AV) → St} {D l ki : Nat} {gv : AV} {ge : List (AV × AV)} (hY : YOK Y D l ki gv ge) {o : Int} {e : List (AV × AV)} {fr : List Fr}
include hY
theorem SW_len : D + 1 + fr.length = (fr ++ SW a0 a1 lo Y (o, e)).length := by
  have := hY.len e
  simp [SW]; omega
theorem SW_get0 : getObj (fr ++ SW a0 a1 lo Y (o, e)) D 0 = some a0 := (getObj_over (by have := hY.len e; simp [SW]; omega)).trans (getObj_top (hY.len _))
theorem SW_get1 : getObj (fr ++ SW a0 a1 lo Y (o, e)) D 1 = some a1 := (getObj_over (by have := hY.len e; simp [SW]; omega)).trans (getObj_top (hY.len _))
theorem SW_get2 : getObj (fr ++ SW a0 a1 lo Y (o, e)) D 2 = some (.cells [.int .i64 o]) := (getObj_over (by have := hY.len e; simp [SW]; omega)).trans (getObj_top (hY.len _))
theorem SW_get3 : getObj (fr ++ SW a0 a1 lo Y (o, e)) D 3 = some lo := (getObj_over (by have := hY.len e; simp [SW]; omega)).trans (getObj_top (hY.len _))
theorem SW_set2 {o' : Int} : setObj (fr ++ SW a0 a1 lo Y (o, e)) D 2 (.cells [.int .i64 o']) = fr ++ SW a0 a1 lo Y (o', e) := by
  rw [setObj_over (by have := hY.len e; simp [SW]; omega)]
  exact congrArg (fr ++ ·) (setTop2 (hY.len _))
theorem SW_set3 {lo' : AObj} : setObj (fr ++ SW a0 a1 lo Y (o, e)) D 3 lo' = fr ++ SW a0 a1 lo' Y (o, e) := by
  rw [setObj_over (by have := hY.len e; simp [SW]; omega)]
  exact congrArg (fr ++ ·) (setTop3 (hY.len _))
theorem SW_ok {out : Int} : YOK (fun e => fr ++ SW a0 a1 lo Y (out, e)) (D + 1 + fr.length) l ki gv ge := (hY.push [⟨[a0, a1, .cells [.int .i64 out], lo], []⟩]).push fr
end

theorem runs_fold {P : Int × List (AV × AV) → Prop} {f : Int → Int → Int} {l : List Int} {x y : {x // P x}} (h : Runs (fun z (x : {x // P x}) b (x' : {x // P x}) => b = true ∧ x'.1.1 = f x.1.1 z) l x y) : y.1.1 = l.foldl f x.1.1 := by
  induction h with
  | nil x => rfl
  | stop h => cases h.1
  | more h _ ih => rw [ih, h.2]; rfl

theorem meantW {n : Nat} (hn : 1000000000000006 ≤ n) (d : Desk) (hd : d.ok) (hf : d.fine) (i t : Nat) {zi zt : Int} (hzi : zi = (i : Int)) (hzt : zt = (t : Int)) (ht : t < 256) (hi : i < d.bs.length)
    {a0 a1 lo : AObj} {Y : List (AV × AV) → St} {D : Nat} (hlen : ∀ e, D = (Y e).length) (P : Int × List (AV × AV) → Prop) (R : Int → {x // P x} → Bool → {x // P x} → Prop) (out : Int) (es : List (AV × AV)) (hP : P (out, es)) (kont : AV → St → Ans) (r : Ans)
    (HR : ∀ z ∈ opts d i t, RoundIs (evKR Bk Gx fsT n).2 (D + 1) D 3 (fun x : {x // P x} => SW a0 a1 lo Y x.1) (fun _ => True) R z) (K : ∀ x', Runs R (opts d i t) ⟨(out, es), hP⟩ x' → kont (.tup []) (⟨[a0, a1, .cells [.int .i64 x'.1.1], lo], []⟩ :: Y x'.1.2) = r) :
    (evKR Bk Gx fsT (n + 1)).1 (D + 1) 84 [.yl D 3, .rp d.c, .rp [.int .i64 zi], .rp [.int .i64 zt]] (⟨[a0, a1, .cells [.int .i64 out], lo], []⟩ :: Y es) kont = r :=
  meant1_ev hn d hd hf i t hzi hzt ht hi (fun x : {x // P x} => SW a0 a1 lo Y x.1) (fun x => by simp [SW, ← hlen]) (by omega) (fun _ => True) R (fun _ _ _ _ => trivial) ⟨(out, es), hP⟩ trivial kont r HR K

theorem step_odd {d : Desk} {by_ : Int → Int → Int} {g : Nat → Option Int} {i t : Nat} {st : Int} {rest : Nat → Int → Int} {out : Int} :
    stepW d by_ g i t st rest out (-1) = if clash g i (-1) = true then out else if d.strange < st + 1 then out else comb by_ out (rest t (st + 1)) 0 := by simp [stepW]
theorem step_parcel {d : Desk} {by_ : Int → Int → Int} {g : Nat → Option Int} {i t : Nat} {st : Int} {rest : Nat → Int → Int} {out : Int} {k : Nat} :
    stepW d by_ g i t st rest out (k : Int) = if clash g i (k : Int) = true then out else comb by_ out (rest (t ||| 1 <<< k) st) (valueOf d k) := by
  have h : ¬ ((k : Int) = -1) := by omega
  simp [stepW, h]
theorem check_strange {d : Desk} (hc : d.check = true) : 0 ≤ d.strange ∧ d.strange ≤ 6 := by
  simp only [Desk.check, Bool.and_eq_true, decide_eq_true_eq, within] at hc
  omega

/-- The search's value. -/
def srch (d : Desk) (gv : AV) (l ki byf : Nat) : AV := .agg (d.c ++ [gv, .mp l ki, .fn byf [] []])

set_option maxHeartbeats 20000000 in
theorem worth_ev {byf : Nat} {by_ : Int → Int → Int} (hby : ∀ a b, by_ a b = a ∨ by_ a b = b)
    (HBy : ∀ (n : Nat) (a b : Int), 1000000000000000 ≤ n → -1000000000 ≤ a → a ≤ 1000000000 → -1000000000 ≤ b → b ≤ 1000000000 → (evKR Bk Gx fsT n).1 0 byf [.int .i64 a, .int .i64 b] [] ansK = some (.int .i64 (by_ a b), []))
    (d : Desk) (hd : d.ok) (hc : d.check = true) (ge : List (Int × Int)) {gv : AV} :
    ∀ (m : Nat) {n : Nat}, m ≤ d.bs.length → 1000000000000020 + 4 * m ≤ n → ∀ (t : Nat), t < 256 → ∀ (st : Int), 0 ≤ st → st ≤ 6 → ∀ {zi zt : Int}, zi = ((d.bs.length - m : Nat) : Int) → zt = (t : Int) →
    ∀ (Y : List (AV × AV) → St) {D l ki : Nat}, YOK Y D l ki gv (intsE ge) → ∀ (es : List (AV × AV)), Memo d by_ (fun i => look ge i) es → ∀ (kont : AV → St → Ans) (r : Ans),
    (∀ es', Memo d by_ (fun i => look ge i) es' → kont (.int .i64 (W d by_ (fun i => look ge i) m t st)) (Y es') = r) →
    (evKR Bk Gx fsT n).1 D 68 [srch d gv l ki byf, keyV zi zt st] (Y es) kont = r := by
  intro m
  induction m with
  | zero =>
    intro n hm hn t ht st hs0 hs6 zi zt hzi hzt Y D l ki hY es hes kont r K
    refine call_open (show fsT.find 68 = some a68 from rfl) (by omega) fun n' B cl rd hn' hB hcl hrd => ?_
    have hlen := hY.len
    conv => lhs; whnf
    repeat' ((first | refine Qw hB ?_ | refine Qz hB (congrArg (· + 1) (hlen _)) ((getObj_top (hlen _)).trans rfl) ?_ | refine Q5 hB (by simp only [Int.ofNat_eq_natCast]; omega) ?_ | refine Q0 hB rfl ?_ | refine Q1 hB (by decide) ?_ | refine Q2 hB (by decide) ?_ | refine Q3 hB (by decide) ?_ | refine Q4 hB (by decide) ?_ | refine Q5 hB (by decide) ?_ | refine Q6 hB (by decide) ?_ | refine Q7 hB (by omega) (by omega) ?_ | refine Q8 hB ?_ | refine Q9 hB ?_ | refine Qa hB ?_ | refine Qb hB (fun _ => ?_) (fun _ => ?_) | refine Qc hB ?_ | refine Qd hB ?_ | refine Qe hB ?_ | refine Qf hB ?_ | refine Qg hB ?_ | refine Qh hB ?_ | refine Qi hB ?_ | refine Qj hB rfl ?_ | refine Qk hB rfl ?_ | refine Ql hB (by first | omega | decide) ?_ | refine Qm hB rfl ?_ | refine Qn hB ?_ | refine Qo hB rfl ?_ | refine Qo hB (Qp rfl) ?_ | refine Qq hB rfl ?_ | refine Qr hB ?_ | refine Qs hB ?_ | refine Qt hB ?_ | refine Qu hB ?_ | refine Qv hB rfl ?_) <;> conv => lhs; whnf)
    exact K es hes
  | succ m ih =>
    intro n hm hn t ht st hs0 hs6 zi zt hzi hzt Y D l ki hY es hes kont r K
    refine call_open (show fsT.find 68 = some a68 from rfl) (by omega) fun n' B cl rd hn' hB hcl hrd => ?_
    have hf := check_fine hc
    have hlen := hY.len
    have hlt := hY.lt
    subst hzt
    rcases memo_look hes hm t st with hlk | hlk
    all_goals rw [← hzi] at hlk
    · have H65 := meant_ev (n := n') (by omega) d hd zi (t : Int)
      rw [← hcl] at H65
      conv => lhs; whnf
      repeat' ((first | refine Qw hB ?_ | refine Qz hB (congrArg (· + 1) (hlen _)) ((getObj_top (hlen _)).trans rfl) ?_ | refine Q6 hB (by simp only [Int.ofNat_eq_natCast]; omega) ?_ | refine Qq hB (lookup_ok (mapAt_mp ((getObj_sub (hlen es ▸ hlt)).trans (hY.get es))) rfl hlk) ?_ | refine fbool_same hB (by first | rfl | omega) ?_ | refine QA hB (congrArg (· + 1) (hlen _)) (setTop2 (hlen _)) ?_ | refine Qv hB hd.tp ?_ | refine Qv hB hd.tb ?_ | refine Q0 hB (by simp [purs, pur, hd.tp, hd.tb]) ?_ | refine Qx hB H65 ?_ | refine Q0 hB rfl ?_ | refine Q1 hB (by decide) ?_ | refine Q2 hB (by decide) ?_ | refine Q3 hB (by decide) ?_ | refine Q4 hB (by decide) ?_ | refine Q5 hB (by decide) ?_ | refine Q6 hB (by decide) ?_ | refine Q7 hB (by omega) (by omega) ?_ | refine Q8 hB ?_ | refine Q9 hB ?_ | refine Qa hB ?_ | refine Qb hB (fun _ => ?_) (fun _ => ?_) | refine Qc hB ?_ | refine Qd hB ?_ | refine Qe hB ?_ | refine Qf hB ?_ | refine Qg hB ?_ | refine Qh hB ?_ | refine Qi hB ?_ | refine Qj hB rfl ?_ | refine Qk hB rfl ?_ | refine Ql hB (by first | omega | decide) ?_ | refine Qm hB rfl ?_ | refine Qn hB ?_ | refine Qo hB rfl ?_ | refine Qo hB (Qp rfl) ?_ | refine Qq hB rfl ?_ | refine Qr hB ?_ | refine Qs hB ?_ | refine Qt hB ?_ | refine Qu hB ?_ | refine Qv hB rfl ?_) <;> conv => lhs; whnf)
      obtain ⟨n2, rfl⟩ : ∃ n2, n' = n2 + 1 := ⟨n' - 1, by omega⟩
      subst hcl
      have hW := W_in hby hc (fun i => look ge i) m
      refine meantW (n := n2) (by omega) d hd hf (d.bs.length - (m + 1)) t hzi rfl ht (by omega) hlen
        (fun x => Memo d by_ (fun i => look ge i) x.2 ∧ -1 ≤ x.1 ∧ x.1 ≤ 100000 * (m : Int) + 100000)
        (fun z x b x' => b = true ∧ x'.1.1 = stepW d by_ (fun i => look ge i) (d.bs.length - (m + 1)) t st (W d by_ (fun i => look ge i) m) x.1.1 z) (-1) es ⟨hes, by omega, by omega⟩ _ _ (fun z hz => ?_) (fun x' hR => ?_)
      · intro fr x kont2 r2 _ K2
        obtain ⟨⟨out, es2⟩, hes2, ho1, ho2⟩ := x
        dsimp only at hes2 ho1 ho2
        refine round_open (by have := hlen es2; simp [SW, ← this]; omega) (SW_get3 hY) (by omega) rfl fun n3 B2 cl2 rd2 hn3 hB2 hcl2 hrd2 => ?_
        clear hB
        have hB := hB2
        have hs : ∀ (lo : AObj) (o : Int) (e : List (AV × AV)), D < (fr ++ SW (.cells (d.c ++ [gv, .mp l ki, .fn byf [] []])) (.cells [.int .i64 zi, .int .i64 t, .int .i64 st]) lo Y (o, e)).length := fun lo o e => by rw [← SW_len hY]; omega
        have IH : ∀ (t' : Nat) (st' : Int) (f : Fr) (lo : AObj) (kont : AV → St → Ans) (r : Ans), t' < 256 → 0 ≤ st' → st' ≤ 6 → (∀ es', Memo d by_ (fun i => look ge i) es' → kont (.int .i64 (W d by_ (fun i => look ge i) m t' st')) (f :: (fr ++ SW (.cells (d.c ++ [gv, .mp l ki, .fn byf [] []])) (.cells [.int .i64 zi, .int .i64 t, .int .i64 st]) lo Y (out, es'))) = r) →
            cl2 (D + 1 + fr.length + 1) 68 [srch d gv l ki byf, keyV (zi + 1) t' st'] (f :: (fr ++ SW (.cells (d.c ++ [gv, .mp l ki, .fn byf [] []])) (.cells [.int .i64 zi, .int .i64 t, .int .i64 st]) lo Y (out, es2))) kont = r := by
          intro t' st' f lo kont r h1 h2 h3 h4
          subst hcl2
          exact ih (n := n3) (by omega) (by omega) t' h1 st' h2 h3 (by omega) rfl (fun e => f :: (fr ++ SW (.cells (d.c ++ [gv, .mp l ki, .fn byf [] []])) (.cells [.int .i64 zi, .int .i64 t, .int .i64 st]) lo Y (out, e))) ((SW_ok hY).push [f]) es2 hes2 kont r h4
        have hBy := fun a b => HBy n3 a b (by omega)
        rw [← hcl2] at hBy
        have hin := step_in hby hc (fun i => look ge i) (d.bs.length - (m + 1)) t st hW (out := out) (by omega) z
        have hm6 := hf.nb
        have hstr : 0 ≤ d.strange ∧ d.strange ≤ 6 := check_strange hc
        have fin := fun (o : Int) (e : List (AV × AV)) (ho : o = stepW d by_ (fun i => look ge i) (d.bs.length - (m + 1)) t st (W d by_ (fun i => look ge i) m) out z) (he : Memo d by_ (fun i => look ge i) e) => K2 true ⟨(o, e), he, by omega, by omega⟩ ⟨rfl, ho⟩
        dsimp only at fin
        subst hzi
        rcases hY.gp with rfl | ⟨lg, ig, rfl, hlg⟩
        all_goals
          rcases opts_mem hz with rfl | ⟨k, rfl, hk, hfit⟩
          · have hb1 := hW t (st + 1)
            cases hg : look ge ((d.bs.length - (m + 1) : Nat) : Int) with
            | none =>
              have hlk2 := look_ok ge ((d.bs.length - (m + 1) : Nat) : Int)
              rw [hg] at hlk2
              have hcl : ∀ z, clash (fun i => look ge i) (d.bs.length - (m + 1)) z = false := fun z => by simp [clash, hg]
              conv => lhs; whnf
              repeat' ((first | refine Qw hB ?_ | refine Qz hB (congrArg (· + 1) (SW_len hY)) ((getObj_top (SW_len hY)).trans rfl) ?_ | refine Qz hB (congrArg (· + 1) (SW_len hY)) ((getObj_sub (hs _ _ _)).trans (SW_get0 hY)) ?_ | refine Qz hB (congrArg (· + 1) (SW_len hY)) ((getObj_sub (hs _ _ _)).trans (SW_get1 hY)) ?_ | refine Qz hB (congrArg (· + 1) (SW_len hY)) ((getObj_sub (hs _ _ _)).trans (SW_get2 hY)) ?_ | refine Qz hB (congrArg (· + 1) (SW_len hY)) ((getObj_sub (hs _ _ _)).trans (SW_get3 hY)) ?_ | refine QA hB (congrArg (· + 1) (SW_len hY)) ((setObj_sub (hs _ _ _)).trans (congrArg (_ :: ·) (SW_set3 hY))) ?_ | refine QA hB (congrArg (· + 1) (SW_len hY)) ((setObj_sub (hs _ _ _)).trans (congrArg (_ :: ·) (SW_set2 hY))) ?_ | refine QA hB (congrArg (· + 1) (SW_len hY)) (setTop0 (SW_len hY)) ?_ | refine Qq hB (lookup_ok (((SW_ok hY (fr := fr) (out := out)).push [_]).giv es2) rfl hlk2) ?_ | refine fbool_same hB (by first | rfl | omega) ?_ | refine fbool_other hB (by omega) ?_ | refine add_step hB (by omega) (by omega) ?_ | refine lt_split hB (fun hlt2 => ?_) (fun hlt2 => ?_) | refine Qv hB hd.tp ?_ | refine Qv hB hd.tb ?_ | refine IH _ _ _ _ _ _ ht (by omega) (by omega) (fun es' hes' => ?_) | refine Q5 hB (by decide) ?_ | refine Q6 hB (by decide) ?_ | refine eq_split hB (fun heq => ?_) (fun heq => ?_) | refine Qx hB (hBy _ _ (by omega) (by omega) (by omega) (by omega)) ?_ | refine Q0 hB rfl ?_ | refine Q1 hB (by decide) ?_ | refine Q2 hB (by decide) ?_ | refine Q3 hB (by decide) ?_ | refine Q4 hB (by decide) ?_ | refine Q5 hB (by decide) ?_ | refine Q6 hB (by decide) ?_ | refine Q7 hB (by omega) (by omega) ?_ | refine Q8 hB ?_ | refine Q9 hB ?_ | refine Qa hB ?_ | refine Qb hB (fun _ => ?_) (fun _ => ?_) | refine Qc hB ?_ | refine Qd hB ?_ | refine Qe hB ?_ | refine Qf hB ?_ | refine Qg hB ?_ | refine Qh hB ?_ | refine Qi hB ?_ | refine Qj hB rfl ?_ | refine Qk hB rfl ?_ | refine Ql hB (by first | omega | decide) ?_ | refine Qm hB rfl ?_ | refine Qn hB ?_ | refine Qo hB rfl ?_ | refine Qo hB (Qp rfl) ?_ | refine Qq hB rfl ?_ | refine Qr hB ?_ | refine Qs hB ?_ | refine Qt hB ?_ | refine Qu hB ?_ | refine Qv hB rfl ?_) <;> conv => lhs; whnf)
              all_goals
                refine fin _ _ ?_ (by assumption)
                rw [step_odd, hcl]
                unfold comb
                (repeat' split) <;> first | rfl | omega | simp_all
            | some y =>
              have hlk2 := look_ok ge ((d.bs.length - (m + 1) : Nat) : Int)
              rw [hg] at hlk2
              have hcl : ∀ z, clash (fun i => look ge i) (d.bs.length - (m + 1)) z = decide (y ≠ z) := fun z => by simp [clash, hg]
              conv => lhs; whnf
              repeat' ((first | refine Qw hB ?_ | refine Qz hB (congrArg (· + 1) (SW_len hY)) ((getObj_top (SW_len hY)).trans rfl) ?_ | refine Qz hB (congrArg (· + 1) (SW_len hY)) ((getObj_sub (hs _ _ _)).trans (SW_get0 hY)) ?_ | refine Qz hB (congrArg (· + 1) (SW_len hY)) ((getObj_sub (hs _ _ _)).trans (SW_get1 hY)) ?_ | refine Qz hB (congrArg (· + 1) (SW_len hY)) ((getObj_sub (hs _ _ _)).trans (SW_get2 hY)) ?_ | refine Qz hB (congrArg (· + 1) (SW_len hY)) ((getObj_sub (hs _ _ _)).trans (SW_get3 hY)) ?_ | refine QA hB (congrArg (· + 1) (SW_len hY)) ((setObj_sub (hs _ _ _)).trans (congrArg (_ :: ·) (SW_set3 hY))) ?_ | refine QA hB (congrArg (· + 1) (SW_len hY)) ((setObj_sub (hs _ _ _)).trans (congrArg (_ :: ·) (SW_set2 hY))) ?_ | refine QA hB (congrArg (· + 1) (SW_len hY)) (setTop0 (SW_len hY)) ?_ | refine Qq hB (lookup_ok (((SW_ok hY (fr := fr) (out := out)).push [_]).giv es2) rfl hlk2) ?_ | refine fbool_same hB (by first | rfl | omega) ?_ | refine fbool_other hB (by omega) ?_ | refine add_step hB (by omega) (by omega) ?_ | refine lt_split hB (fun hlt2 => ?_) (fun hlt2 => ?_) | refine Qv hB hd.tp ?_ | refine Qv hB hd.tb ?_ | refine IH _ _ _ _ _ _ ht (by omega) (by omega) (fun es' hes' => ?_) | refine Q5 hB (by decide) ?_ | refine Q6 hB (by decide) ?_ | refine eq_split hB (fun heq => ?_) (fun heq => ?_) | refine Qx hB (hBy _ _ (by omega) (by omega) (by omega) (by omega)) ?_ | refine Q0 hB rfl ?_ | refine Q1 hB (by decide) ?_ | refine Q2 hB (by decide) ?_ | refine Q3 hB (by decide) ?_ | refine Q4 hB (by decide) ?_ | refine Q5 hB (by decide) ?_ | refine Q6 hB (by decide) ?_ | refine Q7 hB (by omega) (by omega) ?_ | refine Q8 hB ?_ | refine Q9 hB ?_ | refine Qa hB ?_ | refine Qb hB (fun _ => ?_) (fun _ => ?_) | refine Qc hB ?_ | refine Qd hB ?_ | refine Qe hB ?_ | refine Qf hB ?_ | refine Qg hB ?_ | refine Qh hB ?_ | refine Qi hB ?_ | refine Qj hB rfl ?_ | refine Qk hB rfl ?_ | refine Ql hB (by first | omega | decide) ?_ | refine Qm hB rfl ?_ | refine Qn hB ?_ | refine Qo hB rfl ?_ | refine Qo hB (Qp rfl) ?_ | refine Qq hB rfl ?_ | refine Qr hB ?_ | refine Qs hB ?_ | refine Qt hB ?_ | refine Qu hB ?_ | refine Qv hB rfl ?_) <;> conv => lhs; whnf)
              all_goals
                refine fin _ _ ?_ (by assumption)
                rw [step_odd, hcl]
                unfold comb
                (repeat' split) <;> first | rfl | omega | simp_all
          · obtain ⟨p, hp⟩ := meantRow d hk
            have hxp : (d.ps.map Parcel.c)[k]? = some p.c := by simp [hp]
            have hval : valueOf d k = p.value := by simp [valueOf, hp]
            have hv := value_in hc k
            rw [hval] at hv
            have h8 := hf.np
            have hb1 := hW (t ||| 1 <<< k) st
            cases hg : look ge ((d.bs.length - (m + 1) : Nat) : Int) with
            | none =>
              have hlk2 := look_ok ge ((d.bs.length - (m + 1) : Nat) : Int)
              rw [hg] at hlk2
              have hcl : ∀ z, clash (fun i => look ge i) (d.bs.length - (m + 1)) z = false := fun z => by simp [clash, hg]
              conv => lhs; whnf
              repeat' ((first | refine Qw hB ?_ | refine Qz hB (congrArg (· + 1) (SW_len hY)) ((getObj_top (SW_len hY)).trans rfl) ?_ | refine Qz hB (congrArg (· + 1) (SW_len hY)) ((getObj_sub (hs _ _ _)).trans (SW_get0 hY)) ?_ | refine Qz hB (congrArg (· + 1) (SW_len hY)) ((getObj_sub (hs _ _ _)).trans (SW_get1 hY)) ?_ | refine Qz hB (congrArg (· + 1) (SW_len hY)) ((getObj_sub (hs _ _ _)).trans (SW_get2 hY)) ?_ | refine Qz hB (congrArg (· + 1) (SW_len hY)) ((getObj_sub (hs _ _ _)).trans (SW_get3 hY)) ?_ | refine QA hB (congrArg (· + 1) (SW_len hY)) ((setObj_sub (hs _ _ _)).trans (congrArg (_ :: ·) (SW_set3 hY))) ?_ | refine QA hB (congrArg (· + 1) (SW_len hY)) ((setObj_sub (hs _ _ _)).trans (congrArg (_ :: ·) (SW_set2 hY))) ?_ | refine QA hB (congrArg (· + 1) (SW_len hY)) (setTop0 (SW_len hY)) ?_ | refine Qq hB (lookup_ok (((SW_ok hY (fr := fr) (out := out)).push [_]).giv es2) rfl hlk2) ?_ | refine fbool_same hB (by first | rfl | omega) ?_ | refine fbool_other hB (by omega) ?_ | refine add_step hB (by omega) (by omega) ?_ | refine lt_split hB (fun hlt2 => ?_) (fun hlt2 => ?_) | refine Qv hB hd.tp ?_ | refine Qv hB hd.tb ?_ | refine IH _ _ _ _ _ _ (bits_lt ht (by omega)) (by omega) (by omega) (fun es' hes' => ?_) | refine Q5 hB (by decide) ?_ | refine Q6 hB (by decide) ?_ | refine Q6 hB (by omega) ?_ | refine QC hB (m := k) rfl ?_ | refine QB hB hxp ?_ | refine Qm hB (shl_ok rfl (by omega)) ?_ | refine Qm hB (or_ok rfl ht (by omega)) ?_ | refine eq_split hB (fun heq => ?_) (fun heq => ?_) | refine Qx hB (hBy _ _ (by omega) (by omega) (by omega) (by omega)) ?_ | refine Q0 hB rfl ?_ | refine Q1 hB (by decide) ?_ | refine Q2 hB (by decide) ?_ | refine Q3 hB (by decide) ?_ | refine Q4 hB (by decide) ?_ | refine Q5 hB (by decide) ?_ | refine Q6 hB (by decide) ?_ | refine Q7 hB (by omega) (by omega) ?_ | refine Q8 hB ?_ | refine Q9 hB ?_ | refine Qa hB ?_ | refine Qb hB (fun _ => ?_) (fun _ => ?_) | refine Qc hB ?_ | refine Qd hB ?_ | refine Qe hB ?_ | refine Qf hB ?_ | refine Qg hB ?_ | refine Qh hB ?_ | refine Qi hB ?_ | refine Qj hB rfl ?_ | refine Qk hB rfl ?_ | refine Ql hB (by first | omega | decide) ?_ | refine Qm hB rfl ?_ | refine Qn hB ?_ | refine Qo hB rfl ?_ | refine Qo hB (Qp rfl) ?_ | refine Qq hB rfl ?_ | refine Qr hB ?_ | refine Qs hB ?_ | refine Qt hB ?_ | refine Qu hB ?_ | refine Qv hB rfl ?_) <;> conv => lhs; whnf)
              all_goals
                refine fin _ _ ?_ (by assumption)
                rw [step_parcel, hval, hcl]
                unfold comb
                (repeat' split) <;> first | rfl | omega | simp_all
            | some y =>
              have hlk2 := look_ok ge ((d.bs.length - (m + 1) : Nat) : Int)
              rw [hg] at hlk2
              have hcl : ∀ z, clash (fun i => look ge i) (d.bs.length - (m + 1)) z = decide (y ≠ z) := fun z => by simp [clash, hg]
              conv => lhs; whnf
              repeat' ((first | refine Qw hB ?_ | refine Qz hB (congrArg (· + 1) (SW_len hY)) ((getObj_top (SW_len hY)).trans rfl) ?_ | refine Qz hB (congrArg (· + 1) (SW_len hY)) ((getObj_sub (hs _ _ _)).trans (SW_get0 hY)) ?_ | refine Qz hB (congrArg (· + 1) (SW_len hY)) ((getObj_sub (hs _ _ _)).trans (SW_get1 hY)) ?_ | refine Qz hB (congrArg (· + 1) (SW_len hY)) ((getObj_sub (hs _ _ _)).trans (SW_get2 hY)) ?_ | refine Qz hB (congrArg (· + 1) (SW_len hY)) ((getObj_sub (hs _ _ _)).trans (SW_get3 hY)) ?_ | refine QA hB (congrArg (· + 1) (SW_len hY)) ((setObj_sub (hs _ _ _)).trans (congrArg (_ :: ·) (SW_set3 hY))) ?_ | refine QA hB (congrArg (· + 1) (SW_len hY)) ((setObj_sub (hs _ _ _)).trans (congrArg (_ :: ·) (SW_set2 hY))) ?_ | refine QA hB (congrArg (· + 1) (SW_len hY)) (setTop0 (SW_len hY)) ?_ | refine Qq hB (lookup_ok (((SW_ok hY (fr := fr) (out := out)).push [_]).giv es2) rfl hlk2) ?_ | refine fbool_same hB (by first | rfl | omega) ?_ | refine fbool_other hB (by omega) ?_ | refine add_step hB (by omega) (by omega) ?_ | refine lt_split hB (fun hlt2 => ?_) (fun hlt2 => ?_) | refine Qv hB hd.tp ?_ | refine Qv hB hd.tb ?_ | refine IH _ _ _ _ _ _ (bits_lt ht (by omega)) (by omega) (by omega) (fun es' hes' => ?_) | refine Q5 hB (by decide) ?_ | refine Q6 hB (by decide) ?_ | refine Q6 hB (by omega) ?_ | refine QC hB (m := k) rfl ?_ | refine QB hB hxp ?_ | refine Qm hB (shl_ok rfl (by omega)) ?_ | refine Qm hB (or_ok rfl ht (by omega)) ?_ | refine eq_split hB (fun heq => ?_) (fun heq => ?_) | refine Qx hB (hBy _ _ (by omega) (by omega) (by omega) (by omega)) ?_ | refine Q0 hB rfl ?_ | refine Q1 hB (by decide) ?_ | refine Q2 hB (by decide) ?_ | refine Q3 hB (by decide) ?_ | refine Q4 hB (by decide) ?_ | refine Q5 hB (by decide) ?_ | refine Q6 hB (by decide) ?_ | refine Q7 hB (by omega) (by omega) ?_ | refine Q8 hB ?_ | refine Q9 hB ?_ | refine Qa hB ?_ | refine Qb hB (fun _ => ?_) (fun _ => ?_) | refine Qc hB ?_ | refine Qd hB ?_ | refine Qe hB ?_ | refine Qf hB ?_ | refine Qg hB ?_ | refine Qh hB ?_ | refine Qi hB ?_ | refine Qj hB rfl ?_ | refine Qk hB rfl ?_ | refine Ql hB (by first | omega | decide) ?_ | refine Qm hB rfl ?_ | refine Qn hB ?_ | refine Qo hB rfl ?_ | refine Qo hB (Qp rfl) ?_ | refine Qq hB rfl ?_ | refine Qr hB ?_ | refine Qs hB ?_ | refine Qt hB ?_ | refine Qu hB ?_ | refine Qv hB rfl ?_) <;> conv => lhs; whnf)
              all_goals
                refine fin _ _ ?_ (by assumption)
                rw [step_parcel, hval, hcl]
                unfold comb
                (repeat' split) <;> first | rfl | omega | simp_all
      · have ho := runs_fold hR
        obtain ⟨⟨out, e'⟩, he', hb'⟩ := x'
        dsimp only at ho he'
        have ho : out = W d by_ (fun i => look ge i) (m + 1) t st := ho
        subst ho
        obtain ⟨es'', hset, hes''⟩ := memo_set he' hm t st
        rw [← hzi] at hset
        dsimp only
        conv => lhs; whnf
        repeat' ((first | refine Qw hB ?_ | refine Qz hB (congrArg (· + 1) (hlen _)) ((getObj_top (hlen _)).trans rfl) ?_ | refine QA hB (congrArg (· + 1) (hlen _)) (setTop3 (hlen _)) ?_ | refine Qq hB (upd_ok rfl ((getObj_sub (hlen e' ▸ hlt)).trans (hY.get e')) rfl rfl hset) ?_ | refine fst_step hB ((setObj_sub (hlen e' ▸ hlt)).trans (congrArg (_ :: ·) (hY.set _ _))) ?_ | refine Q0 hB rfl ?_ | refine Q1 hB (by decide) ?_ | refine Q2 hB (by decide) ?_ | refine Q3 hB (by decide) ?_ | refine Q4 hB (by decide) ?_ | refine Q5 hB (by decide) ?_ | refine Q6 hB (by decide) ?_ | refine Q7 hB (by omega) (by omega) ?_ | refine Q8 hB ?_ | refine Q9 hB ?_ | refine Qa hB ?_ | refine Qb hB (fun _ => ?_) (fun _ => ?_) | refine Qc hB ?_ | refine Qd hB ?_ | refine Qe hB ?_ | refine Qf hB ?_ | refine Qg hB ?_ | refine Qh hB ?_ | refine Qi hB ?_ | refine Qj hB rfl ?_ | refine Qk hB rfl ?_ | refine Ql hB (by first | omega | decide) ?_ | refine Qm hB rfl ?_ | refine Qn hB ?_ | refine Qo hB rfl ?_ | refine Qo hB (Qp rfl) ?_ | refine Qq hB rfl ?_ | refine Qr hB ?_ | refine Qs hB ?_ | refine Qt hB ?_ | refine Qu hB ?_ | refine Qv hB rfl ?_) <;> conv => lhs; whnf)
        exact K es'' hes''
    · conv => lhs; whnf
      repeat' ((first | refine Qw hB ?_ | refine Qz hB (congrArg (· + 1) (hlen _)) ((getObj_top (hlen _)).trans rfl) ?_ | refine Q6 hB (by simp only [Int.ofNat_eq_natCast]; omega) ?_ | refine Qq hB (lookup_ok (mapAt_mp ((getObj_sub (hlen es ▸ hlt)).trans (hY.get es))) rfl hlk) ?_ | refine Q0 hB rfl ?_ | refine Q1 hB (by decide) ?_ | refine Q2 hB (by decide) ?_ | refine Q3 hB (by decide) ?_ | refine Q4 hB (by decide) ?_ | refine Q5 hB (by decide) ?_ | refine Q6 hB (by decide) ?_ | refine Q7 hB (by omega) (by omega) ?_ | refine Q8 hB ?_ | refine Q9 hB ?_ | refine Qa hB ?_ | refine Qb hB (fun _ => ?_) (fun _ => ?_) | refine Qc hB ?_ | refine Qd hB ?_ | refine Qe hB ?_ | refine Qf hB ?_ | refine Qg hB ?_ | refine Qh hB ?_ | refine Qi hB ?_ | refine Qj hB rfl ?_ | refine Qk hB rfl ?_ | refine Ql hB (by first | omega | decide) ?_ | refine Qm hB rfl ?_ | refine Qn hB ?_ | refine Qo hB rfl ?_ | refine Qo hB (Qp rfl) ?_ | refine Qq hB rfl ?_ | refine Qr hB ?_ | refine Qs hB ?_ | refine Qt hB ?_ | refine Qu hB ?_ | refine Qv hB rfl ?_) <;> conv => lhs; whnf)
      exact K es hes
end Go.Ab.Cl
