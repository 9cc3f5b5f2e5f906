/-
  The claims: IsTruth.
-/
import Derived.Test.YthbekoofiienjaaDoorClZ
namespace Go.Ab.Cl
open Go.Ab

/-! ### sets of eight -/
def flagsB (t : Nat) : List Bool := (List.range 8).map t.testBit
def flags (t : Nat) : List AV := (flagsB t).map .bool
theorem flags_all : ∀ t : Fin 256, ∀ k : Fin 8, (flagsB t.val).set k.val true = flagsB (t.val ||| 1 <<< k.val) := by decide +kernel
theorem flags_len (t : Nat) : (flags t).length = 8 := rfl
theorem putAt_set {c : List AV} {o : Nat} {x : AV} (h : o < c.length) : putAt c o [x] = c.set o x := by
  simp [putAt, List.set_eq_take_append_cons_drop, h]
theorem flags_put {t k : Nat} (ht : t < 256) (hk : k < 8) : putAt (flags t) k [.bool true] = flags (t ||| 1 <<< k) := by
  rw [putAt_set (by rw [flags_len]; exact hk)]
  unfold flags
  rw [← List.map_set]
  exact congrArg _ (flags_all ⟨t, ht⟩ ⟨k, hk⟩)
theorem flags_drop {t k : Nat} (hk : k < 8) : (flags t).drop k = .bool (t.testBit k) :: (flags t).drop (k + 1) := by
  rw [List.drop_eq_getElem_cons (by rw [flags_len]; exact hk)]
  simp [flags, flagsB]
theorem flags_drop_is {t k : Nat} {b : Bool} (hk : k < 8) (hb : t.testBit k = b) : (flags t).drop k = .bool b :: (flags t).drop (k + 1) := by rw [flags_drop hk, hb]
theorem iarr_ok {cl : Call} {rd : Round} {G : Nat → List AV} {h : Nat} {e : Env} {s : St} {n : Nat} {x i : X} {l j : Nat} {z : Int} {k : Nat} (hx : x.ev G e = .ptr l j 0) (hi : i.ev G e = .int .i64 z) (hz : z = (k : Int)) (hk : k < n) :
    evO cl rd G h e s (.iarr n 1 x i) = some (.ptr l j k, s) := by
  have h0 : (0 : Int) ≤ (k : Int) := by omega
  subst hz
  simp [evO, hx, hi, iarrAV, h0, hk]

def truthGo (d : Desk) : List Int → Nat → Nat → Int → Option Int
  | [], _, _, o => some o
  | k :: l, i, t, o => if k = -1 then (if oddB d i = true then truthGo d l (i + 1) t (o + 1) else none)
    else if 0 ≤ k ∧ fitsB d i t k.toNat = true then truthGo d l (i + 1) (t ||| 1 <<< k.toNat) o else none
def truthE (d : Desk) : Int := if d.check = true then 0 else 90
def truthV (d : Desk) (l : List Int) : Bool := if d.check = true ∧ l.length = d.bs.length then (match truthGo d l 0 0 0 with
  | some o => decide (o ≤ d.strange)
  | none => false) else false

theorem a17_L1_step {B : Bnd} (hB : B = Bk) {cl : CallK} {rd : RoundK} (d : Desk) (hd : d.ok) (hf : d.fine) (ps : List Int) {tp : Tok} (htp : purTok tp = true) (hlen : ps.length = d.bs.length)
    (H53 : ∀ k : Int, cl 0 53 [d.v, .int .i64 k] [] ansK = some (.bool (within k 0 ((d.ps.length : Int) - 1)), []))
    (H54 : ∀ (i k : Nat) (zi zk : Int) (b : Box) (p : Parcel), zi = (i : Int) → zk = (k : Int) → d.bs[i]? = some b → d.ps[k]? = some p → cl 0 54 [d.v, .int .i64 zi, .int .i64 zk] [] ansK = some (.bool (couldB d b p), []))
    (n : Nat) (k : Ex → Env → St → Ans) (r : Ans) :
    ∀ (j i0 t : Nat) (o : Int), ps.length < i0 + j → i0 ≤ ps.length → t < 256 → 0 ≤ o → o ≤ (i0 : Int) →
    (∀ (o' : Int) (t' : Nat), truthGo d (ps.drop i0) i0 t o = some o' → k (.exit 0) [(4, .bool false), (5, .int .i64 0), (7, .ptr 0 1 0), (8, .ptr 0 2 0), (9, .int .i64 o'), (27, .sl (rowsI ps) tp), (28, .int .i64 (.ofNat ps.length)), (29, .int .i64 (.ofNat ps.length))] [⟨[.cells d.c, .cells d.c, .cells (flags t')], []⟩] = r) →
    (∀ (e : Env) (t' : Nat), truthGo d (ps.drop i0) i0 t o = none → k .ret ((4, .bool false) :: (5, .int .i64 0) :: e) [⟨[.cells d.c, .cells d.c, .cells (flags t')], []⟩] = r) →
    B.loop (evCK B a17_L1) [4, 5, 7, 8, 9, 27, 28, 29] n j cl rd Gx 0 1 [(4, .bool false), (5, .int .i64 0), (7, .ptr 0 1 0), (8, .ptr 0 2 0), (9, .int .i64 o), (27, .sl (rowsI ps) tp), (28, .int .i64 (.ofNat ps.length)), (29, .int .i64 (.ofNat i0))] [⟨[.cells d.c, .cells d.c, .cells (flags t)], []⟩] k = r := by
  intro j
  induction j with
  | zero => intro i0 t o h1 h2; omega
  | succ j ih =>
    intro i0 t o h1 h2 ht ho0 hoi k1 k2
    refine loop_succ hB ?_
    conv => lhs; whnf
    refine lt_nat hB (fun h => ?_) (fun h => ?_) <;> conv => lhs; whnf
    · have hx : (rowsI ps)[i0]? = some [.int .i64 ps[i0]] := by simp [rowsI, h]
      have hdr : ps.drop i0 = ps[i0] :: ps.drop (i0 + 1) := List.drop_eq_getElem_cons h
      rw [hdr] at k1 k2
      generalize ps[i0] = z at hx hdr k1 k2
      obtain ⟨b, hb⟩ : ∃ b, d.bs[i0]? = some b := ⟨d.bs[i0], by simp [← hlen, h]⟩
      have hxb : (d.bs.map Box.c)[i0]? = some b.c := by simp [hb]
      have hodd : oddB d i0 = !b.stamp := by simp [oddB, hb]
      have hnb := hf.nb
      have hnp := hf.np
      by_cases hz1 : z = -1
      · subst hz1
        rcases b with ⟨b1, b2, b3, b4, b5⟩
        cases b5
        · repeat' ((first | refine Qw hB ?_ | refine QC hB (m := i0) rfl ?_ | refine QB hB hx ?_ | refine QB hB hxb ?_ | refine add_step hB (by omega) (by omega) ?_ | refine Qv hB hd.tp ?_ | refine Qv hB hd.tb ?_ | refine Q0 hB rfl ?_ | refine Q1 hB (by decide) ?_ | refine Q2 hB (by decide) ?_ | refine Q3 hB (by decide) ?_ | refine Q4 hB (by decide) ?_ | refine Q5 hB (by decide) ?_ | refine Q6 hB (by decide) ?_ | refine Q7 hB (by omega) (by omega) ?_ | refine Q8 hB ?_ | refine Q9 hB ?_ | refine Qa hB ?_ | refine Qb hB (fun _ => ?_) (fun _ => ?_) | refine Qc hB ?_ | refine Qd hB ?_ | refine Qe hB ?_ | refine Qf hB ?_ | refine Qg hB ?_ | refine Qh hB ?_ | refine Qi hB ?_ | refine Qj hB rfl ?_ | refine Qk hB rfl ?_ | refine Ql hB (by first | omega | decide) ?_ | refine Qm hB rfl ?_ | refine Qn hB ?_ | refine Qo hB rfl ?_ | refine Qo hB (Qp rfl) ?_ | refine Qq hB rfl ?_ | refine Qr hB ?_ | refine Qs hB ?_ | refine Qt hB ?_ | refine Qu hB ?_ | refine Qv hB rfl ?_) <;> conv => lhs; whnf)
          rw [clampTok_pur htp]
          refine ih (i0 + 1) t (o + 1) (by omega) (by omega) ht (by omega) (by omega) (fun o' t' h => k1 o' t' ?_) (fun e t' h => k2 e t' ?_)
          · simpa [truthGo, hodd] using h
          · simpa [truthGo, hodd] using h
        · repeat' ((first | refine Qw hB ?_ | refine QC hB (m := i0) rfl ?_ | refine QB hB hx ?_ | refine QB hB hxb ?_ | refine add_step hB (by omega) (by omega) ?_ | refine Qv hB hd.tp ?_ | refine Qv hB hd.tb ?_ | refine Q0 hB rfl ?_ | refine Q1 hB (by decide) ?_ | refine Q2 hB (by decide) ?_ | refine Q3 hB (by decide) ?_ | refine Q4 hB (by decide) ?_ | refine Q5 hB (by decide) ?_ | refine Q6 hB (by decide) ?_ | refine Q7 hB (by omega) (by omega) ?_ | refine Q8 hB ?_ | refine Q9 hB ?_ | refine Qa hB ?_ | refine Qb hB (fun _ => ?_) (fun _ => ?_) | refine Qc hB ?_ | refine Qd hB ?_ | refine Qe hB ?_ | refine Qf hB ?_ | refine Qg hB ?_ | refine Qh hB ?_ | refine Qi hB ?_ | refine Qj hB rfl ?_ | refine Qk hB rfl ?_ | refine Ql hB (by first | omega | decide) ?_ | refine Qm hB rfl ?_ | refine Qn hB ?_ | refine Qo hB rfl ?_ | refine Qo hB (Qp rfl) ?_ | refine Qq hB rfl ?_ | refine Qr hB ?_ | refine Qs hB ?_ | refine Qt hB ?_ | refine Qu hB ?_ | refine Qv hB rfl ?_) <;> conv => lhs; whnf)
          exact k2 _ t (by simp [truthGo, hodd])
      · have HW := H53 z
        cases hw : within z 0 ((d.ps.length : Int) - 1)
        · rw [hw] at HW
          have hno : ¬ (0 ≤ z ∧ fitsB d i0 t z.toNat = true) := by
            rintro ⟨h0, hfit⟩
            have : ¬ z.toNat < d.ps.length := by
              intro h9
              have : within z 0 ((d.ps.length : Int) - 1) = true := by simp [within]; omega
              rw [hw] at this; cases this
            have h9 : d.ps[z.toNat]? = none := by simp; omega
            simp [fitsB, h9] at hfit
          repeat' ((first | refine Qw hB ?_ | refine QC hB (m := i0) rfl ?_ | refine QB hB hx ?_ | refine QB hB hxb ?_ | refine add_step hB (by omega) (by omega) ?_ | refine Qv hB hd.tp ?_ | refine Qv hB hd.tb ?_ | refine Q0 hB (by simp [purs, pur, hd.tp, hd.tb]) ?_ | refine Q6 hB hz1 ?_ | refine Qx hB HW ?_ | refine Q0 hB rfl ?_ | refine Q1 hB (by decide) ?_ | refine Q2 hB (by decide) ?_ | refine Q3 hB (by decide) ?_ | refine Q4 hB (by decide) ?_ | refine Q5 hB (by decide) ?_ | refine Q6 hB (by decide) ?_ | refine Q7 hB (by omega) (by omega) ?_ | refine Q8 hB ?_ | refine Q9 hB ?_ | refine Qa hB ?_ | refine Qb hB (fun _ => ?_) (fun _ => ?_) | refine Qc hB ?_ | refine Qd hB ?_ | refine Qe hB ?_ | refine Qf hB ?_ | refine Qg hB ?_ | refine Qh hB ?_ | refine Qi hB ?_ | refine Qj hB rfl ?_ | refine Qk hB rfl ?_ | refine Ql hB (by first | omega | decide) ?_ | refine Qm hB rfl ?_ | refine Qn hB ?_ | refine Qo hB rfl ?_ | refine Qo hB (Qp rfl) ?_ | refine Qq hB rfl ?_ | refine Qr hB ?_ | refine Qs hB ?_ | refine Qt hB ?_ | refine Qu hB ?_ | refine Qv hB rfl ?_) <;> conv => lhs; whnf)
          exact k2 _ t (by simp [truthGo, hz1, hno])
        · rw [hw] at HW
          obtain ⟨k', rfl, hk'⟩ := within_nat hw
          obtain ⟨p, hp⟩ := meantRow d hk'
          have hfit : fitsB d i0 t k' = (!t.testBit k' && couldB d b p) := by simp [fitsB, hb, hp]
          cases hbit : t.testBit k'
          · have HC := H54 i0 k' _ _ b p rfl rfl hb hp
            cases hcb : couldB d b p
            · rw [hcb] at HC
              repeat' ((first | refine Qw hB ?_ | refine QC hB (m := i0) rfl ?_ | refine QB hB hx ?_ | refine QB hB hxb ?_ | refine add_step hB (by omega) (by omega) ?_ | refine Qv hB hd.tp ?_ | refine Qv hB hd.tb ?_ | refine Q0 hB (by simp [purs, pur, hd.tp, hd.tb]) ?_ | refine Q6 hB hz1 ?_ | refine Qx hB HW ?_ | refine Qq hB (iarr_ok rfl rfl rfl (by omega)) ?_ | refine Qj hB ((flags_drop_is (by omega) hbit)) ?_ | refine Qx hB HC ?_ | refine Qk hB (flags_put ht (by omega)) ?_ | refine Qo hB (by rw [Nat.ble_eq, lenK_eq, flags_len]; show k' + 1 ≤ 8; omega) ?_ | refine Q0 hB rfl ?_ | refine Q1 hB (by decide) ?_ | refine Q2 hB (by decide) ?_ | refine Q3 hB (by decide) ?_ | refine Q4 hB (by decide) ?_ | refine Q5 hB (by decide) ?_ | refine Q6 hB (by decide) ?_ | refine Q7 hB (by omega) (by omega) ?_ | refine Q8 hB ?_ | refine Q9 hB ?_ | refine Qa hB ?_ | refine Qb hB (fun _ => ?_) (fun _ => ?_) | refine Qc hB ?_ | refine Qd hB ?_ | refine Qe hB ?_ | refine Qf hB ?_ | refine Qg hB ?_ | refine Qh hB ?_ | refine Qi hB ?_ | refine Qj hB rfl ?_ | refine Qk hB rfl ?_ | refine Ql hB (by first | omega | decide) ?_ | refine Qm hB rfl ?_ | refine Qn hB ?_ | refine Qo hB rfl ?_ | refine Qo hB (Qp rfl) ?_ | refine Qq hB rfl ?_ | refine Qr hB ?_ | refine Qs hB ?_ | refine Qt hB ?_ | refine Qu hB ?_ | refine Qv hB rfl ?_) <;> conv => lhs; whnf)
              exact k2 _ t (by simp [truthGo, hz1, hfit, hbit, hcb])
            · rw [hcb] at HC
              repeat' ((first | refine Qw hB ?_ | refine QC hB (m := i0) rfl ?_ | refine QB hB hx ?_ | refine QB hB hxb ?_ | refine add_step hB (by omega) (by omega) ?_ | refine Qv hB hd.tp ?_ | refine Qv hB hd.tb ?_ | refine Q0 hB (by simp [purs, pur, hd.tp, hd.tb]) ?_ | refine Q6 hB hz1 ?_ | refine Qx hB HW ?_ | refine Qq hB (iarr_ok rfl rfl rfl (by omega)) ?_ | refine Qj hB ((flags_drop_is (by omega) hbit)) ?_ | refine Qx hB HC ?_ | refine Qk hB (flags_put ht (by omega)) ?_ | refine Qo hB (by rw [Nat.ble_eq, lenK_eq, flags_len]; show k' + 1 ≤ 8; omega) ?_ | refine Q0 hB rfl ?_ | refine Q1 hB (by decide) ?_ | refine Q2 hB (by decide) ?_ | refine Q3 hB (by decide) ?_ | refine Q4 hB (by decide) ?_ | refine Q5 hB (by decide) ?_ | refine Q6 hB (by decide) ?_ | refine Q7 hB (by omega) (by omega) ?_ | refine Q8 hB ?_ | refine Q9 hB ?_ | refine Qa hB ?_ | refine Qb hB (fun _ => ?_) (fun _ => ?_) | refine Qc hB ?_ | refine Qd hB ?_ | refine Qe hB ?_ | refine Qf hB ?_ | refine Qg hB ?_ | refine Qh hB ?_ | refine Qi hB ?_ | refine Qj hB rfl ?_ | refine Qk hB rfl ?_ | refine Ql hB (by first | omega | decide) ?_ | refine Qm hB rfl ?_ | refine Qn hB ?_ | refine Qo hB rfl ?_ | refine Qo hB (Qp rfl) ?_ | refine Qq hB rfl ?_ | refine Qr hB ?_ | refine Qs hB ?_ | refine Qt hB ?_ | refine Qu hB ?_ | refine Qv hB rfl ?_) <;> conv => lhs; whnf)
              rw [clampTok_pur htp]
              have hgo : truthGo d ((k' : Int) :: ps.drop (i0 + 1)) i0 t o = truthGo d (ps.drop (i0 + 1)) (i0 + 1) (t ||| 1 <<< k') o := by simp [truthGo, hz1, hfit, hbit, hcb]
              rw [hgo] at k1 k2
              exact ih (i0 + 1) _ o (by omega) (by omega) (bits_lt ht (by omega)) ho0 (by omega) k1 k2
          · repeat' ((first | refine Qw hB ?_ | refine QC hB (m := i0) rfl ?_ | refine QB hB hx ?_ | refine QB hB hxb ?_ | refine add_step hB (by omega) (by omega) ?_ | refine Qv hB hd.tp ?_ | refine Qv hB hd.tb ?_ | refine Q0 hB (by simp [purs, pur, hd.tp, hd.tb]) ?_ | refine Q6 hB hz1 ?_ | refine Qx hB HW ?_ | refine Qq hB (iarr_ok rfl rfl rfl (by omega)) ?_ | refine Qj hB ((flags_drop_is (by omega) hbit)) ?_ | refine Q0 hB rfl ?_ | refine Q1 hB (by decide) ?_ | refine Q2 hB (by decide) ?_ | refine Q3 hB (by decide) ?_ | refine Q4 hB (by decide) ?_ | refine Q5 hB (by decide) ?_ | refine Q6 hB (by decide) ?_ | refine Q7 hB (by omega) (by omega) ?_ | refine Q8 hB ?_ | refine Q9 hB ?_ | refine Qa hB ?_ | refine Qb hB (fun _ => ?_) (fun _ => ?_) | refine Qc hB ?_ | refine Qd hB ?_ | refine Qe hB ?_ | refine Qf hB ?_ | refine Qg hB ?_ | refine Qh hB ?_ | refine Qi hB ?_ | refine Qj hB rfl ?_ | refine Qk hB rfl ?_ | refine Ql hB (by first | omega | decide) ?_ | refine Qm hB rfl ?_ | refine Qn hB ?_ | refine Qo hB rfl ?_ | refine Qo hB (Qp rfl) ?_ | refine Qq hB rfl ?_ | refine Qr hB ?_ | refine Qs hB ?_ | refine Qt hB ?_ | refine Qu hB ?_ | refine Qv hB rfl ?_) <;> conv => lhs; whnf)
            exact k2 _ t (by simp [truthGo, hz1, hfit, hbit])
    · repeat' ((first | refine Q0 hB rfl ?_ | refine Q1 hB (by decide) ?_ | refine Q2 hB (by decide) ?_ | refine Q3 hB (by decide) ?_ | refine Q4 hB (by decide) ?_ | refine Q5 hB (by decide) ?_ | refine Q6 hB (by decide) ?_ | refine Q7 hB (by omega) (by omega) ?_ | refine Q8 hB ?_ | refine Q9 hB ?_ | refine Qa hB ?_ | refine Qb hB (fun _ => ?_) (fun _ => ?_) | refine Qc hB ?_ | refine Qd hB ?_ | refine Qe hB ?_ | refine Qf hB ?_ | refine Qg hB ?_ | refine Qh hB ?_ | refine Qi hB ?_ | refine Qj hB rfl ?_ | refine Qk hB rfl ?_ | refine Ql hB (by first | omega | decide) ?_ | refine Qm hB rfl ?_ | refine Qn hB ?_ | refine Qo hB rfl ?_ | refine Qo hB (Qp rfl) ?_ | refine Qq hB rfl ?_ | refine Qr hB ?_ | refine Qs hB ?_ | refine Qt hB ?_ | refine Qu hB ?_ | refine Qv hB rfl ?_) <;> conv => lhs; whnf)
      have hi : i0 = ps.length := by omega
      subst hi
      rw [clampTok_pur htp]
      refine k1 o t ?_
      simp [truthGo]

theorem none_ev {n : Nat} (hn : 2 ≤ n) : (evKR Bk Gx fsT n).1 0 62 [] [] ansK = some (.agg (flags 0), []) := by
  refine call_open (show fsT.find 62 = some a62 from rfl) (by omega) fun n' B cl rd hn' hB hcl hrd => ?_
  conv => lhs; whnf
  repeat' ((first | refine Qw hB ?_ | refine Q0 hB rfl ?_ | refine Q1 hB (by decide) ?_ | refine Q2 hB (by decide) ?_ | refine Q3 hB (by decide) ?_ | refine Q4 hB (by decide) ?_ | refine Q5 hB (by decide) ?_ | refine Q6 hB (by decide) ?_ | refine Q7 hB (by omega) (by omega) ?_ | refine Q8 hB ?_ | refine Q9 hB ?_ | refine Qa hB ?_ | refine Qb hB (fun _ => ?_) (fun _ => ?_) | refine Qc hB ?_ | refine Qd hB ?_ | refine Qe hB ?_ | refine Qf hB ?_ | refine Qg hB ?_ | refine Qh hB ?_ | refine Qi hB ?_ | refine Qj hB rfl ?_ | refine Qk hB rfl ?_ | refine Ql hB (by first | omega | decide) ?_ | refine Qm hB rfl ?_ | refine Qn hB ?_ | refine Qo hB rfl ?_ | refine Qo hB (Qp rfl) ?_ | refine Qq hB rfl ?_ | refine Qr hB ?_ | refine Qs hB ?_ | refine Qt hB ?_ | refine Qu hB ?_ | refine Qv hB rfl ?_) <;> conv => lhs; whnf)
  all_goals rfl
theorem IsTruth_ev {n : Nat} (hn : 1000000000000500 ≤ n) (d : Desk) (hd : d.ok) (ps : List Int) {tp : Tok} (htp : purTok tp = true) (hps : ps.length ≤ 200000000000000) : (evKR Bk Gx fsT n).1 0 17 [d.v, .sl (rowsI ps) tp] [] ansK = some (.tup [.bool (truthV d ps), .int .i64 (truthE d)], []) := by
  refine call_open (show fsT.find 17 = some a17 from rfl) (by omega) fun n' B cl rd hn' hB hcl hrd => ?_
  have HC := Check_ev (G := Gx) (n := n') d hd (by omega)
  rw [← hcl] at HC
  have hdb := hd.bs
  cases hc : d.check
  · rw [hc] at HC
    conv => lhs; whnf
    repeat' ((first | refine Qw hB ?_ | refine Qv hB hd.tp ?_ | refine Qv hB hd.tb ?_ | refine Q0 hB (by simp [purs, pur, hd.tp, hd.tb]) ?_ | refine Qx hB HC ?_ | refine Q0 hB rfl ?_ | refine Q1 hB (by decide) ?_ | refine Q2 hB (by decide) ?_ | refine Q3 hB (by decide) ?_ | refine Q4 hB (by decide) ?_ | refine Q5 hB (by decide) ?_ | refine Q6 hB (by decide) ?_ | refine Q7 hB (by omega) (by omega) ?_ | refine Q8 hB ?_ | refine Q9 hB ?_ | refine Qa hB ?_ | refine Qb hB (fun _ => ?_) (fun _ => ?_) | refine Qc hB ?_ | refine Qd hB ?_ | refine Qe hB ?_ | refine Qf hB ?_ | refine Qg hB ?_ | refine Qh hB ?_ | refine Qi hB ?_ | refine Qj hB rfl ?_ | refine Qk hB rfl ?_ | refine Ql hB (by first | omega | decide) ?_ | refine Qm hB rfl ?_ | refine Qn hB ?_ | refine Qo hB rfl ?_ | refine Qo hB (Qp rfl) ?_ | refine Qq hB rfl ?_ | refine Qr hB ?_ | refine Qs hB ?_ | refine Qt hB ?_ | refine Qu hB ?_ | refine Qv hB rfl ?_) <;> conv => lhs; whnf)
    simp [truthV, truthE, hc]
  · rw [hc] at HC
    have hf := check_fine hc
    have H62 := none_ev (n := n') (by omega)
    have H53 := fun k => isParcel_ev (G := Gx) (n := n') (by omega) d hd k
    have H54 : ∀ (i k : Nat) (zi zk : Int) (b : Box) (p : Parcel), zi = (i : Int) → zk = (k : Int) → d.bs[i]? = some b → d.ps[k]? = some p → (evKR Bk Gx fsT n').1 0 54 [d.v, .int .i64 zi, .int .i64 zk] [] ansK = some (.bool (couldB d b p), []) := by
      intro i k zi zk b p hzi hzk hb hp
      have fb := hf.b b (List.mem_of_getElem? hb)
      have fp := hf.p p (List.mem_of_getElem? hp)
      exact could_ev d hd i k hzi hzk b p hb hp fb.1 fp.1 fp.2.1 hf.wear fp.2.2.1 fb.2.2.2.2 (by omega)
    rw [← hcl] at H53 H54 H62
    by_cases hl : ps.length = d.bs.length
    · conv => lhs; whnf
      repeat' ((first | refine Qw hB ?_ | refine Qv hB hd.tp ?_ | refine Qv hB hd.tb ?_ | refine Qv hB htp ?_ | refine Q0 hB (by simp [purs, pur, hd.tp, hd.tb]) ?_ | refine Qx hB HC ?_ | refine Qx hB H62 ?_ | refine Q5 hB (by simp only [Int.ofNat_eq_natCast]; omega) ?_ | refine a17_L1_step hB d hd hf ps (purTok_clamp htp) hl H53 H54 _ _ _ _ 0 0 0 (by omega) (by omega) (by omega) (by omega) (by omega) (fun o' t' ho => ?_) (fun e t' ho => ?_) | refine le_split hB (fun hle => ?_) (fun hle => ?_) | refine Q0 hB rfl ?_ | refine Q1 hB (by decide) ?_ | refine Q2 hB (by decide) ?_ | refine Q3 hB (by decide) ?_ | refine Q4 hB (by decide) ?_ | refine Q5 hB (by decide) ?_ | refine Q6 hB (by decide) ?_ | refine Q7 hB (by omega) (by omega) ?_ | refine Q8 hB ?_ | refine Q9 hB ?_ | refine Qa hB ?_ | refine Qb hB (fun _ => ?_) (fun _ => ?_) | refine Qc hB ?_ | refine Qd hB ?_ | refine Qe hB ?_ | refine Qf hB ?_ | refine Qg hB ?_ | refine Qh hB ?_ | refine Qi hB ?_ | refine Qj hB rfl ?_ | refine Qk hB rfl ?_ | refine Ql hB (by first | omega | decide) ?_ | refine Qm hB rfl ?_ | refine Qn hB ?_ | refine Qo hB rfl ?_ | refine Qo hB (Qp rfl) ?_ | refine Qq hB rfl ?_ | refine Qr hB ?_ | refine Qs hB ?_ | refine Qt hB ?_ | refine Qu hB ?_ | refine Qv hB rfl ?_) <;> conv => lhs; whnf)
      all_goals rw [List.drop_zero] at ho
      · simp [truthV, truthE, hc, hl, ho, hle]
      · simp [truthV, truthE, hc, hl, ho, hle]
      · simp [truthV, truthE, hc, hl, ho]
    · conv => lhs; whnf
      repeat' ((first | refine Qw hB ?_ | refine Qv hB hd.tp ?_ | refine Qv hB hd.tb ?_ | refine Qv hB htp ?_ | refine Q0 hB (by simp [purs, pur, hd.tp, hd.tb]) ?_ | refine Qx hB HC ?_ | refine Qx hB H62 ?_ | refine Q6 hB (by simp only [Int.ofNat_eq_natCast]; omega) ?_ | refine Q0 hB rfl ?_ | refine Q1 hB (by decide) ?_ | refine Q2 hB (by decide) ?_ | refine Q3 hB (by decide) ?_ | refine Q4 hB (by decide) ?_ | refine Q5 hB (by decide) ?_ | refine Q6 hB (by decide) ?_ | refine Q7 hB (by omega) (by omega) ?_ | refine Q8 hB ?_ | refine Q9 hB ?_ | refine Qa hB ?_ | refine Qb hB (fun _ => ?_) (fun _ => ?_) | refine Qc hB ?_ | refine Qd hB ?_ | refine Qe hB ?_ | refine Qf hB ?_ | refine Qg hB ?_ | refine Qh hB ?_ | refine Qi hB ?_ | refine Qj hB rfl ?_ | refine Qk hB rfl ?_ | refine Ql hB (by first | omega | decide) ?_ | refine Qm hB rfl ?_ | refine Qn hB ?_ | refine Qo hB rfl ?_ | refine Qo hB (Qp rfl) ?_ | refine Qq hB rfl ?_ | refine Qr hB ?_ | refine Qs hB ?_ | refine Qt hB ?_ | refine Qu hB ?_ | refine Qv hB rfl ?_) <;> conv => lhs; whnf)
      simp [truthV, truthE, hc, hl]
end Go.Ab.Cl
