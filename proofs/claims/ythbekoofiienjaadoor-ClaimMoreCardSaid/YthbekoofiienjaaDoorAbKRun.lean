/-
  What the machine that is laid out for the kernel says is what evF says: code, calls.
-/
import Derived.Test.YthbekoofiienjaaDoorAbKOk
namespace Go.Ab

mutual
theorem clK_eq {B : Bnd} (hB : B.ifk = ifK) (lv : Nat) : ∀ (v : AV) (k : AV → Ans), clK v B lv k = (clamp lv v).bind k
  | .undef, k | .int .., k | .bool _, k | .str _, k | .nilP, k | .nilM, k | .nilF, k | .nilI, k | .rp _, k | .pm _, k | .sl .., k => rfl
  | .ptr l i o, k => by
    show B.ifk (Nat.ble l lv) (k (.ptr l i o)) = _
    rw [hB, ifK_eq]
    simp only [clamp, Nat.ble_eq]
    split <;> rfl
  | .os l i o n e, k => by
    show B.ifk (Nat.ble l lv) (k (.os l i o n e)) = _
    rw [hB, ifK_eq]
    simp only [clamp, Nat.ble_eq]
    split <;> rfl
  | .mp l i, k => by
    show B.ifk (Nat.ble l lv) (k (.mp l i)) = _
    rw [hB, ifK_eq]
    simp only [clamp, Nat.ble_eq]
    split <;> rfl
  | .yl l i, k => by
    show B.ifk (Nat.ble l lv) (k (.yl l i)) = _
    rw [hB, ifK_eq]
    simp only [clamp, Nat.ble_eq]
    split <;> rfl
  | .fn f a b, k => by
    show clKL a B lv (fun p => clKL b B lv fun q => k (.fn f p q)) = _
    rw [clKL_eq hB lv a]
    simp only [clamp]
    cases clamps lv a with
    | none => rfl
    | some a' =>
      simp only [Option.bind_some]
      rw [clKL_eq hB lv b]
      cases clamps lv b <;> rfl
  | .agg c, k => by
    show clKL c B lv (fun p => k (.agg p)) = _
    rw [clKL_eq hB lv c]
    simp only [clamp]
    cases clamps lv c <;> rfl
  | .tup c, k => by
    show clKL c B lv (fun p => k (.tup p)) = _
    rw [clKL_eq hB lv c]
    simp only [clamp]
    cases clamps lv c <;> rfl
theorem clKL_eq {B : Bnd} (hB : B.ifk = ifK) (lv : Nat) : ∀ (l : List AV) (k : List AV → Ans), clKL l B lv k = (clamps lv l).bind k
  | [], k => rfl
  | v :: l, k => by
    show clK v B lv (fun v => clKL l B lv fun r => k (v :: r)) = _
    rw [clK_eq hB lv v]
    simp only [clamps]
    cases clamp lv v with
    | none => rfl
    | some v' =>
      simp only [Option.bind_some]
      rw [clKL_eq hB lv l]
      cases clamps lv l <;> rfl
end
theorem keepK_ne {B : Bnd} (hB : B.ifk = ifK) {v : AV} (hv : v ≠ .undef) (lv : Nat) (k : AV → Ans) (u : Ans) : keepK v B lv k u = (clamp lv v).bind k := by
  rw [← clK_eq hB]
  cases v
  case undef => exact absurd rfl hv
  all_goals rfl
theorem liveK_eq {B : Bnd} (hB : B.ifk = ifK) (lv : Nat) (e : Env) : ∀ (l : List Nat) (k : Env → Ans), liveK B lv e l k = (keepLive lv e l).bind k
  | [], k => rfl
  | t :: l, k => by
    show keepK (getE e t) B lv (fun v => liveK B lv e l fun r => k ((t, v) :: r)) (liveK B lv e l k) = _
    rw [getE_eq]
    by_cases hu : e.get t = .undef
    · rw [hu]
      show liveK B lv e l k = _
      rw [liveK_eq hB lv e l]
      simp only [keepLive, hu]
    · rw [keepK_ne hB hu]
      have : keepLive lv e (t :: l) = (clamp lv (e.get t)).bind fun v => (keepLive lv e l).map ((t, v) :: ·) := by
        simp only [keepLive]
      rw [this]
      cases clamp lv (e.get t) with
      | none => rfl
      | some v =>
        simp only [Option.bind_some]
        rw [liveK_eq hB lv e l]
        cases keepLive lv e l <;> rfl
theorem tailK_eq {f : Fr} {s : St} (k : St → Ans) : tailK (f :: s) k = k s := rfl
theorem condK_eq (v : AV) (a b : Ans) : condK v a b = (match v with | .bool t => if t = true then a else b | _ => none) := by
  cases v <;> try rfl
  case bool b => cases b <;> rfl

theorem iterK_eq {f : Env → St → (Ex → Env → St → Ans) → Ans} {f0 : Env → St → Option (Ex × Env × St)} {d : Nat} (hf : ∀ e s k, d = s.length → f e s k = (f0 e s).bind fun p => k p.1 p.2.1 p.2.2)
    (hl : ∀ e s x e' s', f0 e s = some (x, e', s') → s'.length = s.length) : ∀ (n : Nat) (e : Env) (s : St) (k : Ex → Env → St → Ans), d = s.length → iterK f n e s k = (iter f0 n e s).bind fun p => k p.1 p.2.1 p.2.2
  | 0, e, s, k, _ => rfl
  | n + 1, e, s, k, hd => by
    show f e s (fun x e s => Ex.rec (motive := fun _ => Ans) (iterK f n e s k) (fun i => k (.exit i) e s) (k .ret e s) x) = _
    rw [hf _ _ _ hd]
    simp only [iter]
    cases h : f0 e s with
    | none => rfl
    | some p =>
      obtain ⟨x, e', s'⟩ := p
      simp only [Option.bind_some]
      cases x with
      | nrm => exact iterK_eq hf hl n e' s' k (by rw [hl _ _ _ _ _ h]; exact hd)
      | exit i => rfl
      | ret => rfl

section
variable {cl : Call} {rd : Round} {cl' : CallK} {rd' : RoundK} (hc : ∀ (d f : Nat) (args : List AV) (s : St) (k : AV → St → Ans), d = s.length → cl' d f args s k = (cl f args s).bind fun p => k p.1 p.2)
    (hr : ∀ (d l i : Nat) (args : List AV) (s : St) (k : AV → St → Ans), d = s.length → rd' d l i args s k = (rd l i args s).bind fun p => k p.1 p.2) (hL : LenOK cl rd) (G : Nat → List AV) (h : Nat)

theorem rangeK_eq (hc : ∀ (d f : Nat) (args : List AV) (s : St) (k : AV → St → Ans), d = s.length → cl' d f args s k = (cl f args s).bind fun p => k p.1 p.2) (hL : LenOK cl rd) (v : AV) (l i d : Nat) (e : Env) (s : St) (hd : d = s.length) (k : Ex → Env → St → Ans) : rangeK v Bk cl' l i d e s k = (match (v : AV) with
      | .fn f first caps => (cl f (erases first ++ [AV.yl l i] ++ caps) s).bind fun (_, s) =>
        match getObj s l i with
        | some (.loop _ _ _ _ _ true x) => if x = Ex.nrm then some (Ex.nrm, e, setObj s l i .dead) else none
        | some (.loop _ _ _ _ _ false x) => if x = Ex.nrm then none else some (x, e, setObj s l i .dead)
        | _ => none
      | _ => none).bind fun p => k p.1 p.2.1 p.2.2 := by
  cases v <;> try rfl
  case fn f first caps =>
    show mapsK (fun v => erK v Bk) first (fun first => cl' d f (catK first (AV.yl l i :: caps)) s fun _ s => objK d s l i fun (o : AObj) => match o with
        | .loop _ _ _ _ _ true .nrm => setObjK d s l i .dead fun s => k .nrm e s
        | .loop _ _ _ _ _ false (.exit j) => setObjK d s l i .dead fun s => k (.exit j) e s
        | .loop _ _ _ _ _ false .ret => setObjK d s l i .dead fun s => k .ret e s
        | _ => none) = _
    rw [ersK_eq, catK_eq, hc _ _ _ _ _ hd]
    have ha : erases first ++ [AV.yl l i] ++ caps = erases first ++ (.yl l i :: caps) := by simp
    simp only
    rw [ha]
    cases hv : cl f (erases first ++ (.yl l i :: caps)) s with
    | none => rfl
    | some p =>
      obtain ⟨v, s'⟩ := p
      have hd' : d = s'.length := by rw [hL.1 _ _ _ _ _ hv]; exact hd
      simp only [Option.bind_some]
      rw [objK_eq hd']
      cases getObj s' l i with
      | none => rfl
      | some o =>
        simp only [Option.bind_some]
        cases o
        case loop env h ps asg body r x => cases r <;> cases x <;> first | rfl | exact setObjK_eq hd' _ _ _ _
        all_goals rfl

include hc hr hL in
theorem evCK_eq : ∀ (c : C) (n d : Nat) (e : Env) (s : St) (k : Ex → Env → St → Ans), d = s.length → evCK Bk c n cl' rd' G h d e s k = (evC n cl rd G h c e s).bind fun p => k p.1 p.2.1 p.2.2
  | .skip, n, d, e, s, k, _ => rfl
  | .exit i, n, d, e, s, k, _ => rfl
  | .ret, n, d, e, s, k, _ => rfl
  | .ops l, n, d, e, s, k, hd => by
    show evOpsK Bk l cl' rd' G h d e s (fun e s => k .nrm e s) = _
    rw [evOpsK_eq hc hr hL G h d l e s hd, evC]
    cases evOps cl rd G h l e s <;> rfl
  | .seq a b, n, d, e, s, k, hd => by
    show evCK Bk a n cl' rd' G h d e s (fun x e s => Ex.rec (motive := fun _ => Ans) (evCK Bk b n cl' rd' G h d e s k) (fun i => k (.exit i) e s) (k .ret e s) x) = _
    rw [evCK_eq a n d e s _ hd, evC]
    cases hv : evC n cl rd G h a e s with
    | none => rfl
    | some p =>
      obtain ⟨x, e', s'⟩ := p
      simp only [Option.bind_some]
      cases x with
      | nrm => exact evCK_eq b n d e' s' k (by rw [evC_len hL n _ _ _ _ _ _ hv]; exact hd)
      | exit i => rfl
      | ret => rfl
  | .cond x a b, n, d, e, s, k, hd => by
    show condK (xK x G e) (evCK Bk a n cl' rd' G h d e s k) (evCK Bk b n cl' rd' G h d e s k) = _
    rw [condK_eq, xK_eq, evCK_eq a n d e s k hd, evCK_eq b n d e s k hd, evC]
    cases x.ev G e <;> try rfl
    case bool t => cases t <;> rfl
  | .block i a, n, d, e, s, k, hd => by
    show evCK Bk a n cl' rd' G h d e s (fun x e s => Ex.rec (motive := fun _ => Ans) (k .nrm e s) (fun j => Bool.rec (k (.exit j) e s) (k .nrm e s) (Nat.beq j i)) (k .ret e s) x) = _
    rw [evCK_eq a n d e s _ hd, evC]
    cases hv : evC n cl rd G h a e s with
    | none => rfl
    | some p =>
      obtain ⟨x, e', s'⟩ := p
      simp only [Option.bind_some, Option.map_some]
      cases x with
      | nrm => rfl
      | ret => rfl
      | exit j =>
        show (Bool.rec (k (.exit j) e' s') (k .nrm e' s') (Nat.beq j i) : Ans) = _
        by_cases hj : j = i
        · subst hj; rw [if_pos rfl, Nat.beq_refl]
        · have : Nat.beq j i = false := by cases hb : Nat.beq j i; rfl; exact absurd (Nat.eq_of_beq_eq_true hb) hj
          rw [this, if_neg (by simpa using hj)]
  | .loop live a, n, d, e, s, k, hd => by
    show liveK Bk (Nat.pred d) e live (fun e => loopJ Bk0 (evCK Bk a) live n n cl' rd' G h d e s k) = _
    rw [evC, liveK_eq rfl, show Nat.pred d = s.length - 1 by rw [hd]; rfl]
    cases keepLive (s.length - 1) e live with
    | none => rfl
    | some e0 =>
    simp only [Option.bind_some]
    refine iterK_eq (d := d) (fun e s k hd => ?_) (fun e s x e' s' hv => ?_) n e0 s k hd
    · rw [natK_eq, evCK_eq a n (Nat.succ d) e (⟨[], []⟩ :: s) _ (by simp [hd])]
      cases hv : evC n cl rd G h a e (⟨[], []⟩ :: s) with
      | none => rfl
      | some p =>
        obtain ⟨x, e', s'⟩ := p
        have hl := evC_len hL n _ _ _ _ _ _ hv
        simp only [Option.bind_some]
        cases s' with
        | nil => simp at hl
        | cons f s' =>
          have hd' : Nat.pred d = s'.length - 1 := by simp at hl; rw [hd, ← hl]; rfl
          rw [tailK_eq, liveK_eq rfl, hd']
          show _ = (Option.map (fun e => (x, e, s')) (keepLive (s'.length - 1) e' live)).bind _
          cases keepLive (s'.length - 1) e' live <;> rfl
    · simp only [Option.bind_eq_some_iff] at hv
      obtain ⟨⟨x1, e1, s1⟩, h1, h2⟩ := hv
      have hl := evC_len hL n _ _ _ _ _ _ h1
      cases s1 with
      | nil => simp at hl
      | cons f s1 =>
        simp only [Option.map_eq_some_iff, Prod.mk.injEq] at h2
        obtain ⟨_, _, _, _, rfl⟩ := h2
        simpa using hl
  | .range f ps asg body, n, d, e, s, k, hd => by
    show newK Bk d s (.loop e h ps asg body true .nrm) (fun l i s => rangeK (xK f G e) Bk cl' l i d e s k) = _
    rw [newK_eq hd, evC, xK_eq]
    cases hv : newObj s (.loop e h ps asg body true .nrm) with
    | none => rfl
    | some p =>
      obtain ⟨l, i, s'⟩ := p
      simp only [Option.bind_some]
      exact rangeK_eq hc hL (f.ev G e) l i d e s' (by rw [(newObj_some hv).1]; exact hd) k
  | .rsv ns a, n, d, e, s, k, hd => by
    show optK (rsvAt ns s) (fun s => fSt s fun s => evCK Bk a n cl' rd' G h d e s k) = _
    rw [optK_eq, evC]
    cases hv : rsvAt ns s with
    | none => rfl
    | some s' =>
      simp only [Option.bind_some]
      rw [fSt_eq, evCK_eq a n d e s' k]
      cases s with
      | nil => simp [rsvAt] at hv
      | cons f s => simp only [rsvAt, Option.some.injEq] at hv; subst hv; simpa using hd
  | .scope a, n, d, e, s, k, hd => by
    show evCK Bk a n cl' rd' G h d e s k = _
    rw [evCK_eq a n d e s k hd, evC]
end

theorem envK_eq (args : List AV) (k : Env → Ans) : envK args k = k (args.zipIdx.map fun (v, i) => (i, v)) := by
  have : ∀ (args : List AV) (n : Nat) (k : Env → Ans), (List.rec (motive := fun _ => Nat → (Env → Ans) → Ans) (fun _ k => k []) (fun v _ ih n k => natK (Nat.succ n) fun n2 => ih n2 fun r => k ((n, v) :: r)) args n k : Ans) = k ((args.zipIdx n).map fun (v, i) => (i, v)) := by
    intro args
    induction args with
    | nil => intro n k; rfl
    | cons v args ih =>
      intro n k
      show natK (Nat.succ n) (fun n2 => (List.rec (motive := fun _ => Nat → (Env → Ans) → Ans) (fun _ k => k []) (fun v _ ih n k => natK (Nat.succ n) fun n2 => ih n2 fun r => k ((n, v) :: r)) args n2 (fun r => k ((n, v) :: r)) : Ans)) = _
      rw [natK_eq, ih]; rfl
  exact this args 0 k

theorem resK_eq {d : Nat} {s : St} (hd : d = s.length) (e : Env) : ∀ (l : List RV) (k : List AV → Ans), resK Bk d s e l k = (resV s e l).bind k
  | [], k => rfl
  | .tmp t :: l, k => by
    show hdK (getE e t) (fun v => resK Bk d s e l fun r => k (v :: r)) = _
    rw [hdK_eq, resK_eq hd e l, getE_eq]
    simp only [resV]
    cases resV s e l <;> rfl
  | .cell t n ag :: l, k => by
    show cellsK (getE e t) Bk d s (fun c => ofCellsK n ag c fun v => resK Bk d s e l fun r => k (v :: r)) = _
    rw [cellsK_eq hd, getE_eq]
    simp only [resV]
    cases cellsAt s (e.get t) with
    | none => rfl
    | some c =>
      simp only [Option.bind_some]
      rw [ofCellsK_eq]
      cases ofCells n ag c with
      | none => rfl
      | some v =>
        simp only [Option.bind_some]
        rw [resK_eq hd e l]
        cases resV s e l <;> rfl

theorem frz_sim {s : St} {l : Nat} {v : AV} (h : simK v = true) (n : Nat) : frz s l (n + 1) v = some (erase v) := by
  cases v <;> first | rfl | exact absurd (show false = true from h) Bool.false_ne_true
theorem frzs_sim {s : St} {l : Nat} : ∀ (c : List AV) (n : Nat), c.length < n → allK simK c = true → frzs s l n c = some (erases c)
  | [], n, _, _ => by cases n <;> simp [frzs, erases]
  | v :: c, 0, h, _ => by simp at h
  | v :: c, 1, h, _ => by simp at h
  | v :: c, n + 2, h, ha => by
    have h1 : simK v = true ∧ allK simK c = true := by
      have ha : (Bool.rec false (allK simK c) (simK v) : Bool) = true := ha
      cases hv : simK v with
      | false => rw [hv] at ha; cases ha
      | true => rw [hv] at ha; exact ⟨rfl, ha⟩
    simp only [frzs]
    rw [frz_sim h1.1, frzs_sim c (n + 1) (by simp at h; omega) h1.2]
    rfl
theorem simsK_ok {c : List AV} (h : simsK c = true) : c.length < 999 ∧ allK simK c = true := by
  unfold simsK at h
  rw [lenK_eq] at h
  cases hb : allK simK c with
  | false => rw [hb] at h; cases h
  | true =>
    rw [hb] at h
    have h2 : Nat.ble c.length 900 = true := h
    exact ⟨by have := Nat.le_of_ble_eq_true h2; omega, rfl⟩

theorem frzK_eq {l : Nat} {f : Fr} {s : St} (v : AV) (k : AV → St → Ans) : frzK Bk l (f :: s) v k = (leave false l (f :: s) v).bind fun p => k p.1 p.2 := by
  show optK (frz (f :: s) l 1000 v) (fun v => fvK v Bk fun v => k v s) = _
  rw [optK_eq]
  simp only [leave, Bool.false_eq_true, if_false, List.tail_cons]
  cases frz (f :: s) l 1000 v with
  | none => rfl
  | some v => simp only [Option.bind_some]; exact fvK_eq _ _
theorem frK1_eq {l : Nat} {f : Fr} {s : St} (v : AV) (k : AV → St → Ans) : frK1 v Bk l (f :: s) k = (leave false l (f :: s) v).bind fun p => k p.1 p.2 := by
  have sim : ∀ v, simK v = true → (leave false l (f :: s) v).bind (fun p => k p.1 p.2) = k (erase v) s := by
    intro v hv
    simp only [leave, Bool.false_eq_true, if_false, List.tail_cons]
    rw [frz_sim hv 999]; rfl
  cases v
  case int q n => exact (sim (.int q n) rfl).symm
  case bool b => exact (sim (.bool b) rfl).symm
  case str x => exact (sim (.str x) rfl).symm
  case nilP => exact (sim (.nilP) rfl).symm
  case nilM => exact (sim (.nilM) rfl).symm
  case nilF => exact (sim (.nilF) rfl).symm
  case nilI => exact (sim (.nilI) rfl).symm
  case sl r t => rw [sim (.sl r t) rfl]; exact tokK_eq t fun t => k (.sl r t) s
  case agg c =>
    show (Bool.rec (frzK Bk l (f :: s) (.agg c) k) (mapsK (fun v => erK v Bk) c fun c => k (.agg c) s) (simsK c) : Ans) = _
    cases h : simsK c with
    | false => exact frzK_eq _ _
    | true =>
      show mapsK (fun v => erK v Bk) c (fun c => k (.agg c) s) = _
      obtain ⟨h1, h2⟩ := simsK_ok h
      rw [ersK_eq]
      simp only [leave, Bool.false_eq_true, if_false, List.tail_cons]
      have : frz (f :: s) l 1000 (.agg c) = some (.agg (erases c)) := by
        show frz (f :: s) l (999 + 1) (.agg c) = _
        simp only [frz]
        rw [frzs_sim c 999 h1 h2]; rfl
      rw [this]; rfl
  case tup c =>
    show (Bool.rec (frzK Bk l (f :: s) (.tup c) k) (mapsK (fun v => erK v Bk) c fun c => k (.tup c) s) (simsK c) : Ans) = _
    cases h : simsK c with
    | false => exact frzK_eq _ _
    | true =>
      show mapsK (fun v => erK v Bk) c (fun c => k (.tup c) s) = _
      obtain ⟨h1, h2⟩ := simsK_ok h
      rw [ersK_eq]
      simp only [leave, Bool.false_eq_true, if_false, List.tail_cons]
      have : frz (f :: s) l 1000 (.tup c) = some (.tup (erases c)) := by
        show frz (f :: s) l (999 + 1) (.tup c) = _
        simp only [frz]
        rw [frzs_sim c 999 h1 h2]; rfl
      rw [this]; rfl
  all_goals exact frzK_eq _ _
theorem leaveK_eq {mv : Bool} {l : Nat} {f : Fr} {s : St} (v : AV) (k : AV → St → Ans) : leaveK Bk mv l (f :: s) v k = (leave mv l (f :: s) v).bind fun p => k p.1 p.2 := by
  cases mv with
  | false => exact frK1_eq v k
  | true =>
    show optK (leave true l (f :: s) v) (fun p => fvK p.1 Bk fun v => fSt p.2 fun s => k v s) = _
    rw [optK_eq]
    congr 1; funext p; rw [fvK_eq, fSt_eq]

theorem evKR_eq (G : Nat → List AV) (T : Tr) : ∀ n : Nat,
    (∀ (d f : Nat) (args : List AV) (s : St) (k : AV → St → Ans), d = s.length → (evKR Bk G T n).1 d f args s k = ((evFR G T.find n).1 f args s).bind fun p => k p.1 p.2) ∧
    (∀ (d l i : Nat) (args : List AV) (s : St) (k : AV → St → Ans), d = s.length → (evKR Bk G T n).2 d l i args s k = ((evFR G T.find n).2 l i args s).bind fun p => k p.1 p.2)
  | 0 => ⟨fun _ _ _ _ _ _ => rfl, fun _ _ _ _ _ _ _ => rfl⟩
  | n + 1 => by
    obtain ⟨hc, hr⟩ := evKR_eq G T n
    have hL := fr_len (G := G) T.find n
    refine ⟨fun d f args s k hd => ?_, fun d l i args s k hd => ?_⟩
    · show optK (T.find f) (fun fn => F.rec (fun res body mv np => ifK (Nat.beq (lenK args) np)
        (envK args fun e => natK (Nat.succ d) fun d2 => evCK Bk body n (evKR Bk G T n).1 (evKR Bk G T n).2 G d d2 e (⟨[], []⟩ :: s) fun x e s2 =>
          Ex.rec (motive := fun _ => Ans) (resK Bk d2 s2 e res fun vs => leaveK Bk mv d s2 (oneV vs) k) (fun _ => none) (resK Bk d2 s2 e res fun vs => leaveK Bk mv d s2 (oneV vs) k) x)) fn) = _
      rw [optK_eq]
      simp only [evFR]
      cases T.find f with
      | none => rfl
      | some fn =>
        obtain ⟨res, body, mv, np⟩ := fn
        simp only [Option.bind_some]
        rw [ifK_eq, lenK_eq]
        by_cases hnp : args.length = np
        · rw [if_pos (by simpa using hnp), if_pos hnp, envK_eq, natK_eq, evCK_eq hc hr hL G d body n (Nat.succ d) _ (⟨[], []⟩ :: s) _ (by simp [hd]), ← hd]
          cases hv : evC n (evFR G T.find n).1 (evFR G T.find n).2 G d body (args.zipIdx.map fun (v, i) => (i, v)) (⟨[], []⟩ :: s) with
          | none => rfl
          | some p =>
            obtain ⟨x, e, s2⟩ := p
            have hl := evC_len hL n _ _ _ _ _ _ hv
            have fin : resK Bk (Nat.succ d) s2 e res (fun vs => leaveK Bk mv d s2 (oneV vs) k) = ((resV s2 e res).bind fun vs => leave mv d s2 (oneV vs)).bind fun p => k p.1 p.2 := by
              rw [resK_eq (by rw [hl, hd]; rfl)]
              cases resV s2 e res with
              | none => rfl
              | some vs =>
                simp only [Option.bind_some]
                cases s2 with
                | nil => simp at hl
                | cons f s2 => exact leaveK_eq _ _
            simp only [Option.bind_some]
            cases x with
            | nrm => exact fin
            | exit i => rfl
            | ret => exact fin
        · rw [if_neg (by simpa using hnp), if_neg hnp]; rfl
    · show objK d s l i (fun o => match o with
        | .loop env h ps asg body true .nrm => ifK (Nat.beq (lenK ps) (lenK args))
          (natK (Nat.succ d) fun d2 => evCK Bk asg n (evKR Bk G T n).1 (evKR Bk G T n).2 G h d2 ((ps.zip args).reverse ++ env) (⟨[], []⟩ :: s) fun x e s1 => objK d2 s1 l i fun o1 => match x, o1 with
            | .nrm, .loop env2 h2 ps2 asg2 body2 true .nrm => setObjK d2 s1 l i (.loop env2 h2 ps2 asg2 body2 false .nrm) fun s1 =>
              evCK Bk body n (evKR Bk G T n).1 (evKR Bk G T n).2 G h d2 e s1 fun x _ s2 => objK d2 s2 l i fun o2 => match o2 with
                | .loop env2 h2 ps2 asg2 body2 false .nrm => Ex.rec (motive := fun _ => Ans)
                  (setObjK d2 s2 l i (.loop env2 h2 ps2 asg2 body2 true .nrm) fun s3 => tailK s3 fun s3 => k (.bool true) s3)
                  (fun j => setObjK d2 s2 l i (.loop env2 h2 ps2 asg2 body2 false (.exit j)) fun s3 => tailK s3 fun s3 => k (.bool false) s3)
                  (setObjK d2 s2 l i (.loop env2 h2 ps2 asg2 body2 false .ret) fun s3 => tailK s3 fun s3 => k (.bool false) s3) x
                | _ => none
            | _, _ => none)
        | _ => none) = _
      rw [objK_eq hd]
      simp only [evFR]
      cases getObj s l i with
      | none => rfl
      | some o =>
        simp only [Option.bind_some]
        cases o
        case loop env h ps asg body r x =>
          cases r <;> cases x <;> try rfl
          simp only
          rw [ifK_eq, lenK_eq, lenK_eq]
          by_cases hp : ps.length = args.length
          · rw [if_pos (by simpa using hp), if_pos hp, natK_eq, evCK_eq hc hr hL G h asg n (Nat.succ d) _ (⟨[], []⟩ :: s) _ (by simp [hd])]
            cases hv : evC n (evFR G T.find n).1 (evFR G T.find n).2 G h asg ((ps.zip args).reverse ++ env) (⟨[], []⟩ :: s) with
            | none => rfl
            | some p =>
              obtain ⟨x, e, s1⟩ := p
              have hl := evC_len hL n _ _ _ _ _ _ hv
              have hd1 : Nat.succ d = s1.length := by rw [hl, hd]; rfl
              simp only [Option.bind_some]
              rw [objK_eq hd1]
              cases getObj s1 l i with
              | none => cases x <;> rfl
              | some o1 =>
                simp only [Option.bind_some]
                cases x <;> try rfl
                cases o1 <;> try rfl
                case loop env2 h2 ps2 asg2 body2 r2 x2 =>
                  cases r2 <;> cases x2 <;> try rfl
                  simp only
                  rw [setObjK_eq hd1, evCK_eq hc hr hL G h body n (Nat.succ d) _ _ _ (by rw [setObj_length]; exact hd1)]
                  cases hv2 : evC n (evFR G T.find n).1 (evFR G T.find n).2 G h body e (setObj s1 l i (.loop env2 h2 ps2 asg2 body2 false .nrm)) with
                  | none => rfl
                  | some p =>
                    obtain ⟨x3, e3, s3⟩ := p
                    have hl3 := evC_len hL n _ _ _ _ _ _ hv2
                    rw [setObj_length] at hl3
                    have hd3 : Nat.succ d = s3.length := by rw [hl3]; exact hd1
                    simp only [Option.bind_some]
                    rw [objK_eq hd3]
                    cases getObj s3 l i with
                    | none => rfl
                    | some o3 =>
                      simp only [Option.bind_some]
                      cases o3 <;> try rfl
                      case loop env4 h4 ps4 asg4 body4 r4 x4 =>
                        cases r4 <;> cases x4 <;> try rfl
                        simp only
                        have tl : ∀ (o : AObj) (b : Bool), tailK (setObj s3 l i o) (fun s3 => k (.bool b) s3) = k (.bool b) (setObj s3 l i o).tail := by
                          intro o b
                          have hlen : (setObj s3 l i o).length = d + 1 := by rw [setObj_length]; exact hd3.symm
                          cases hs : setObj s3 l i o with
                          | nil => rw [hs] at hlen; simp at hlen
                          | cons f r => rfl
                        cases x3 with
                        | nrm => show setObjK _ _ _ _ _ _ = _; rw [setObjK_eq hd3, tl]; rfl
                        | exit j => show setObjK _ _ _ _ _ _ = _; rw [setObjK_eq hd3, tl]; rfl
                        | ret => show setObjK _ _ _ _ _ _ = _; rw [setObjK_eq hd3, tl]; rfl
          · rw [if_neg (by simpa using hp), if_neg hp]; rfl
        all_goals rfl

/-- Something holds of each function of a table. -/
def Tr.all (p : Nat → F → Prop) : Tr → Prop
  | .leaf k f => p k f
  | .node _ l r => l.all p ∧ r.all p
theorem Tr.find_all {p : Nat → F → Prop} : ∀ {T : Tr} {k : Nat} {f : F}, T.find k = some f → T.all p → p k f
  | .leaf k f, k', f', h, ha => by
    have h : (Bool.rec none (some f) (Nat.beq k k') : Option F) = some f' := h
    cases hb : Nat.beq k k' with
    | false => rw [hb] at h; cases h
    | true => rw [hb] at h; cases h; rw [← Nat.eq_of_beq_eq_true hb]; exact ha
  | .node m l r, k', f', h, ha => by
    have h : (Bool.rec (r.find k') (l.find k') (Nat.ble k' m) : Option F) = some f' := h
    cases hb : Nat.ble k' m with
    | false => rw [hb] at h; exact Tr.find_all (T := r) h ha.2
    | true => rw [hb] at h; exact Tr.find_all (T := l) h ha.1

theorem evK_eq (G : Nat → List AV) (T : Tr) (n f : Nat) (args : List AV) : evK G T n f args = evF G T.find n f args [] := by
  unfold evK evF
  rw [(evKR_eq G T n).1 0 f args [] ansK rfl]
  cases (evFR G T.find n).1 f args [] <;> rfl
end Go.Ab
