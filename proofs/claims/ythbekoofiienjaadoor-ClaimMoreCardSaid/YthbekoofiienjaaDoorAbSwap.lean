/-
  Operations of one statement in another order: when two that are not ordered may change places.
-/
import Derived.Test.YthbekoofiienjaaDoorAb
import Derived.Test.YthbekoofiienjaaDoorAbSlot
namespace Go.Ab

/-! ### what an operation reads of the temporaries -/

def xt : X → List Nat
  | .t n => [n]
  | _ => []
def xts (l : List X) : List Nat := l.flatMap xt
def oxt : Option X → List Nat
  | some x => xt x
  | none => []

def rdO : O → List Nat
  | .mv x => xt x
  | .pick c a b => xt c ++ xt a ++ xt b
  | .alloc _ => []
  | .box x => xt x
  | .build _ ps => xts (ps.map (·.2.2))
  | .bsl _ _ ps => xts (ps.map (·.2))
  | .bslo _ _ ps => xts (ps.map (·.2))
  | .load _ _ x => xt x
  | .store _ a x => xt a ++ xt x
  | .bin _ x y => xt x ++ xt y
  | .eq _ _ x y => xt x ++ xt y
  | .not x => xt x
  | .neg x => xt x
  | .cvt _ x => xt x
  | .mkfn _ a b => xts a ++ xts b
  | .mkmap => []
  | .mksl _ _ n c => xt n ++ xt c
  | .slice _ x a b c => xt x ++ oxt a ++ oxt b ++ oxt c
  | .slstr x a b => xt x ++ oxt a ++ oxt b
  | .nilfull => []
  | .slarr _ _ x a b c => xt x ++ oxt a ++ oxt b ++ oxt c
  | .fad _ x => xt x
  | .field _ _ _ x => xt x
  | .iad _ x i => xt x ++ xt i
  | .iarr _ _ x i => xt x ++ xt i
  | .ixa _ _ _ x i => xt x ++ xt i
  | .ixs x i => xt x ++ xt i
  | .lookup _ _ _ m k => xt m ++ xt k
  | .upd _ m k v => xt m ++ xt k ++ xt v
  | .ext x _ => xt x
  | .call f l => xt f ++ xts l
  | .pcall f l => xt f ++ xts l
  | .callk f l ks => xt f ++ xts l ++ ks
  | .len x => xt x
  | .lens x => xt x
  | .lenm x => xt x
  | .lena _ => []
  | .app _ _ _ x y => xt x ++ xt y
  | .appo _ _ x y => xt x ++ xt y
  | .mn x l => xt x ++ xts l
  | .mx x l => xt x ++ xts l
  | .copy _ x y => xt x ++ xt y
  | .als _ _ => []
  | .fst _ a x => xt a ++ xt x

variable {cl : Call} {rd : Round} {G : Nat → List AV} {h : Nat}

theorem xt_congr {e e' : Env} {x : X} (hx : ∀ t ∈ xt x, e.get t = e'.get t) : X.ev G e x = X.ev G e' x := by
  cases x <;> simp [X.ev]
  exact hx _ (by simp [xt])
theorem xts_congr {e e' : Env} {l : List X} (hx : ∀ t ∈ xts l, e.get t = e'.get t) : l.map (X.ev G e) = l.map (X.ev G e') :=
  List.map_congr_left fun x hm => xt_congr fun t ht => hx t (List.mem_flatMap.2 ⟨x, hm, ht⟩)
theorem oxt_congr {e e' : Env} {x : Option X} (hx : ∀ t ∈ oxt x, e.get t = e'.get t) : x.map (X.ev G e) = x.map (X.ev G e') := by
  cases x <;> simp
  exact xt_congr hx

theorem kept_congr {e e' : Env} {s s' : St} : ∀ {ks : List Nat}, (∀ t ∈ ks, e.get t = e'.get t) → kept s s' e ks = kept s s' e' ks
  | [], _ => rfl
  | k :: ks, h => by
    unfold kept
    rw [h k (by simp), kept_congr (ks := ks) fun t ht => h t (by simp [ht])]

theorem evO_congr {e e' : Env} {s : St} {q : O} (hq : ∀ t ∈ rdO q, e.get t = e'.get t) : evO cl rd G h e s q = evO cl rd G h e' s q := by
  cases q with
  | build z ps =>
    have : (ps.map fun (o, n, x) => (o, n, X.ev G e x)) = ps.map fun (o, n, x) => (o, n, X.ev G e' x) :=
      List.map_congr_left fun p hm => by
        obtain ⟨o, n, x⟩ := p
        dsimp only
        rw [show X.ev G e x = X.ev G e' x from xt_congr fun t ht => hq t (List.mem_flatMap.2 ⟨x, List.mem_map.2 ⟨_, hm, rfl⟩, ht⟩)]
    simp only [evO, this]
  | bsl z k ps =>
    have : (ps.map fun (i, x) => (i * z.length, z.length, X.ev G e x)) = ps.map fun (i, x) => (i * z.length, z.length, X.ev G e' x) :=
      List.map_congr_left fun p hm => by
        obtain ⟨o, x⟩ := p
        dsimp only
        rw [show X.ev G e x = X.ev G e' x from xt_congr fun t ht => hq t (List.mem_flatMap.2 ⟨x, List.mem_map.2 ⟨_, hm, rfl⟩, ht⟩)]
    simp only [evO, this]
  | bslo z k ps =>
    have : (ps.map fun (i, x) => (i * z.length, z.length, X.ev G e x)) = ps.map fun (i, x) => (i * z.length, z.length, X.ev G e' x) :=
      List.map_congr_left fun p hm => by
        obtain ⟨o, x⟩ := p
        dsimp only
        rw [show X.ev G e x = X.ev G e' x from xt_congr fun t ht => hq t (List.mem_flatMap.2 ⟨x, List.mem_map.2 ⟨_, hm, rfl⟩, ht⟩)]
    simp only [evO, this]
  | mkfn f a b =>
    have h1 := xts_congr (G := G) (l := a) fun t ht => hq t (List.mem_append.2 (.inl ht))
    have h2 := xts_congr (G := G) (l := b) fun t ht => hq t (List.mem_append.2 (.inr ht))
    simp only [evO]; rw [h1, h2]
  | call f l =>
    have h1 := xt_congr (G := G) (x := f) fun t ht => hq t (List.mem_append.2 (.inl ht))
    have h2 := xts_congr (G := G) (l := l) fun t ht => hq t (List.mem_append.2 (.inr ht))
    simp only [evO]; rw [h1, h2]
  | pcall f l =>
    have h1 := xt_congr (G := G) (x := f) fun t ht => hq t (List.mem_append.2 (.inl ht))
    have h2 := xts_congr (G := G) (l := l) fun t ht => hq t (List.mem_append.2 (.inr ht))
    simp only [evO]; rw [h1, h2]
  | callk f l ks =>
    have h1 := xt_congr (G := G) (x := f) fun t ht => hq t (List.mem_append.2 (.inl (List.mem_append.2 (.inl ht))))
    have h2 := xts_congr (G := G) (l := l) fun t ht => hq t (List.mem_append.2 (.inl (List.mem_append.2 (.inr ht))))
    have h3 : ∀ s', kept s s' e ks = kept s s' e' ks := fun s' => kept_congr fun t ht => hq t (List.mem_append.2 (.inr ht))
    simp only [evO]; rw [h1, h2]; simp only [h3]
  | mn f l =>
    have h1 := xt_congr (G := G) (x := f) fun t ht => hq t (List.mem_append.2 (.inl ht))
    have h2 := xts_congr (G := G) (l := l) fun t ht => hq t (List.mem_append.2 (.inr ht))
    simp only [evO]; rw [h1, h2]
  | mx f l =>
    have h1 := xt_congr (G := G) (x := f) fun t ht => hq t (List.mem_append.2 (.inl ht))
    have h2 := xts_congr (G := G) (l := l) fun t ht => hq t (List.mem_append.2 (.inr ht))
    simp only [evO]; rw [h1, h2]
  | slice el x a b c =>
    have h1 := xt_congr (G := G) (x := x) fun t ht => hq t (by simp [rdO, ht])
    have h2 := oxt_congr (G := G) (x := a) fun t ht => hq t (by simp [rdO, ht])
    have h3 := oxt_congr (G := G) (x := b) fun t ht => hq t (by simp [rdO, ht])
    have h4 := oxt_congr (G := G) (x := c) fun t ht => hq t (by simp [rdO, ht])
    simp only [evO]; rw [h1, h2, h3, h4]
  | slarr n el x a b c =>
    have h1 := xt_congr (G := G) (x := x) fun t ht => hq t (by simp [rdO, ht])
    have h2 := oxt_congr (G := G) (x := a) fun t ht => hq t (by simp [rdO, ht])
    have h3 := oxt_congr (G := G) (x := b) fun t ht => hq t (by simp [rdO, ht])
    have h4 := oxt_congr (G := G) (x := c) fun t ht => hq t (by simp [rdO, ht])
    simp only [evO]; rw [h1, h2, h3, h4]
  | slstr x a b =>
    have h1 := xt_congr (G := G) (x := x) fun t ht => hq t (by simp [rdO, ht])
    have h2 := oxt_congr (G := G) (x := a) fun t ht => hq t (by simp [rdO, ht])
    have h3 := oxt_congr (G := G) (x := b) fun t ht => hq t (by simp [rdO, ht])
    simp only [evO]; rw [h1, h2, h3]
  | pick x y z =>
    simp only [evO]
    rw [xt_congr (x := x) fun t ht => hq t (by simp [rdO, ht]), xt_congr (x := y) fun t ht => hq t (by simp [rdO, ht]), xt_congr (x := z) fun t ht => hq t (by simp [rdO, ht])]
  | upd kk x y z =>
    simp only [evO]
    rw [xt_congr (x := x) fun t ht => hq t (by simp [rdO, ht]), xt_congr (x := y) fun t ht => hq t (by simp [rdO, ht]), xt_congr (x := z) fun t ht => hq t (by simp [rdO, ht])]
  | mv x => simp only [evO]; rw [xt_congr (x := x) fun t ht => hq t ht]
  | box x => simp only [evO]; rw [xt_congr (x := x) fun t ht => hq t ht]
  | load _ _ x => simp only [evO]; rw [xt_congr (x := x) fun t ht => hq t ht]
  | not x => simp only [evO]; rw [xt_congr (x := x) fun t ht => hq t ht]
  | neg x => simp only [evO]; rw [xt_congr (x := x) fun t ht => hq t ht]
  | cvt _ x => simp only [evO]; rw [xt_congr (x := x) fun t ht => hq t ht]
  | fad _ x => simp only [evO]; rw [xt_congr (x := x) fun t ht => hq t ht]
  | field _ _ _ x => simp only [evO]; rw [xt_congr (x := x) fun t ht => hq t ht]
  | ext x _ => simp only [evO]; rw [xt_congr (x := x) fun t ht => hq t ht]
  | len x => simp only [evO]; rw [xt_congr (x := x) fun t ht => hq t ht]
  | lens x => simp only [evO]; rw [xt_congr (x := x) fun t ht => hq t ht]
  | lenm x => simp only [evO]; rw [xt_congr (x := x) fun t ht => hq t ht]
  | store _ x y => simp only [evO]; rw [xt_congr (x := x) fun t ht => hq t (by simp [rdO, ht]), xt_congr (x := y) fun t ht => hq t (by simp [rdO, ht])]
  | bin _ x y => simp only [evO]; rw [xt_congr (x := x) fun t ht => hq t (by simp [rdO, ht]), xt_congr (x := y) fun t ht => hq t (by simp [rdO, ht])]
  | eq _ _ x y => simp only [evO]; rw [xt_congr (x := x) fun t ht => hq t (by simp [rdO, ht]), xt_congr (x := y) fun t ht => hq t (by simp [rdO, ht])]
  | mksl _ _ x y => simp only [evO]; rw [xt_congr (x := x) fun t ht => hq t (by simp [rdO, ht]), xt_congr (x := y) fun t ht => hq t (by simp [rdO, ht])]
  | iad _ x y => simp only [evO]; rw [xt_congr (x := x) fun t ht => hq t (by simp [rdO, ht]), xt_congr (x := y) fun t ht => hq t (by simp [rdO, ht])]
  | iarr _ _ x y => simp only [evO]; rw [xt_congr (x := x) fun t ht => hq t (by simp [rdO, ht]), xt_congr (x := y) fun t ht => hq t (by simp [rdO, ht])]
  | ixa _ _ _ x y => simp only [evO]; rw [xt_congr (x := x) fun t ht => hq t (by simp [rdO, ht]), xt_congr (x := y) fun t ht => hq t (by simp [rdO, ht])]
  | ixs x y => simp only [evO]; rw [xt_congr (x := x) fun t ht => hq t (by simp [rdO, ht]), xt_congr (x := y) fun t ht => hq t (by simp [rdO, ht])]
  | lookup _ _ _ x y => simp only [evO]; rw [xt_congr (x := x) fun t ht => hq t (by simp [rdO, ht]), xt_congr (x := y) fun t ht => hq t (by simp [rdO, ht])]
  | app _ _ _ x y => simp only [evO]; rw [xt_congr (x := x) fun t ht => hq t (by simp [rdO, ht]), xt_congr (x := y) fun t ht => hq t (by simp [rdO, ht])]
  | appo _ _ x y => simp only [evO]; rw [xt_congr (x := x) fun t ht => hq t (by simp [rdO, ht]), xt_congr (x := y) fun t ht => hq t (by simp [rdO, ht])]
  | fst _ x y => simp only [evO]; rw [xt_congr (x := x) fun t ht => hq t (by simp [rdO, ht]), xt_congr (x := y) fun t ht => hq t (by simp [rdO, ht])]
  | _ => rfl

/-! ### what an operation does to the frames -/

inductive Eff where
  | n | rc | rm | a | ab | fs | wm | wt | x
  deriving DecidableEq

def effP : X → List X → Eff
  | .f _, [] => .n
  | _, _ => .rc
theorem effP_cases (f : X) (l : List X) : (∃ k, f = .f k ∧ l = []) ∧ effP f l = .n ∨ effP f l = .rc := by
  unfold effP
  split
  · exact .inl ⟨⟨_, rfl, rfl⟩, rfl⟩
  · exact .inr rfl

def eff : O → Eff
  | .load .. => .rc
  | .pcall f l => effP f l
  | .lookup .. => .rm
  | .lenm .. => .rm
  | .alloc .. => .a
  | .box .. => .a
  | .bslo .. => .a
  | .mkmap => .a
  | .mksl .. => .a
  | .als .. => .ab
  | .fst .. => .fs
  | .upd .. => .wm
  | .app .. => .wt
  | .store .. => .x
  | .call .. => .x
  | .callk .. => .x
  | .appo .. => .x
  | .copy .. => .x
  | _ => .n

/-- One, then another: may they change places? -/
def effOK : Eff → Eff → Bool
  | .n, _ => true
  | _, .n => true
  | .rc, .rc => true
  | .rc, .rm => true
  | .rm, .rc => true
  | .rm, .rm => true
  | .rc, .a => true
  | .rm, .a => true
  | .rc, .ab => true
  | .rm, .ab => true
  | .ab, .rc => true
  | .ab, .rm => true
  | .rc, .fs => true
  | .rm, .fs => true
  | .rc, .wm => true
  | .wm, .rc => true
  | .rc, .wt => true
  | .rm, .wt => true
  | .wt, .rc => true
  | .wt, .rm => true
  | .ab, .ab => true
  | _, _ => false

theorem n_map {α : Type} {s s' : St} {v : α} {o : Option α} (hv : o.map (·, s) = some (v, s')) : s' = s ∧ ∀ t : St, o.map (·, t) = some (v, t) := by
  cases o <;> simp at hv
  obtain ⟨rfl, rfl⟩ := hv
  exact ⟨rfl, fun t => rfl⟩
theorem n_mapf {α β : Type} {s s' : St} {v : β} {f : α → β} {o : Option α} (hv : o.map (fun c => (f c, s)) = some (v, s')) : s' = s ∧ ∀ t : St, o.map (fun c => (f c, t)) = some (v, t) := by
  cases o <;> simp at hv
  obtain ⟨rfl, rfl⟩ := hv
  exact ⟨rfl, fun t => rfl⟩
theorem n_some {α : Type} {s s' : St} {v x : α} (hv : some (x, s) = some (v, s')) : s' = s ∧ ∀ t : St, some (x, t) = some (v, t) := by
  simp at hv
  obtain ⟨rfl, rfl⟩ := hv
  exact ⟨rfl, fun t => rfl⟩

theorem eff_n {e : Env} {s s' : St} {v : AV} {q : O} (hq : eff q = .n) (hv : evO cl rd G h e s q = some (v, s')) : s' = s ∧ ∀ t, evO cl rd G h e t q = some (v, t) := by
  cases q <;> simp only [eff, reduceCtorEq] at hq
  case pcall f l =>
    rcases effP_cases f l with ⟨⟨k, rfl, rfl⟩, _⟩ | h
    · simp only [evO, X.ev, List.map_nil, pcallV, List.append_nil, hands, Option.bind_some, purs, Bool.and_self, if_true, borrowss, Bool.not_false, Bool.or_true] at hv ⊢
      cases hc : cl k [] [] with
      | none => simp [hc] at hv
      | some p =>
        obtain ⟨v', s0⟩ := p
        simp only [hc, Option.bind_some, Option.some.injEq, Prod.mk.injEq] at hv ⊢
        obtain ⟨h1, rfl, rfl⟩ := hv
        exact ⟨rfl, fun t => by simp [h1]⟩
    · rw [h] at hq; cases hq
  case bsl z n ps =>
    simp only [evO] at hv ⊢
    generalize fillAt _ _ = o at hv ⊢
    cases o with
    | none => simp at hv
    | some c =>
      simp only [Option.bind_some] at hv ⊢
      split at hv
      · simp only [Option.some.injEq, Prod.mk.injEq] at hv
        obtain ⟨rfl, rfl⟩ := hv
        rename_i hc
        exact ⟨rfl, fun t => by rw [if_pos hc]⟩
      · cases hv
  all_goals
    simp only [evO] at hv ⊢
    first | exact n_map hv | exact n_mapf hv | exact n_some hv

/-- What can be read of the one can be read of the other. -/
def CellsIn (s t : St) : Prop := ∀ (l i : Nat) (c : List AV), getObj s l i = some (.cells c) → getObj t l i = some (.cells c)
def MapsIn (s t : St) : Prop := ∀ (l i : Nat) (c : List (AV × AV)), getObj s l i = some (.map c) → getObj t l i = some (.map c)

theorem cellsAt_in {s t : St} (hc : CellsIn s t) {x : AV} {c : List AV} (hx : cellsAt s x = some c) : cellsAt t x = some c := by
  cases x <;> simp only [cellsAt, reduceCtorEq] at hx ⊢
  · exact hx
  · rename_i l i o
    cases hg : getObj s l i with
    | none => simp [hg] at hx
    | some ob =>
      cases ob <;> simp only [hg, reduceCtorEq] at hx
      rw [hc _ _ _ hg]; exact hx

mutual
theorem hand_in {s t : St} (hc : CellsIn s t) (v v' : AV) (hx : hand s v = some v') : hand t v = some v' := by
  cases v with
  | os l i o n e =>
    simp only [hand] at hx ⊢
    cases hg : getObj s l i with
    | none => simp [hg] at hx
    | some ob =>
      cases ob <;> simp only [hg, reduceCtorEq] at hx
      rw [hc _ _ _ hg]; exact hx
  | fn f a b =>
    simp only [hand, Option.bind_eq_some_iff, Option.map_eq_some_iff] at hx ⊢
    obtain ⟨a', h1, b', h2, rfl⟩ := hx
    exact ⟨a', hands_in hc a a' h1, b', hands_in hc b b' h2, rfl⟩
  | agg l =>
    simp only [hand, Option.map_eq_some_iff] at hx ⊢
    obtain ⟨a', h1, rfl⟩ := hx
    exact ⟨a', hands_in hc l a' h1, rfl⟩
  | tup l =>
    simp only [hand, Option.map_eq_some_iff] at hx ⊢
    obtain ⟨a', h1, rfl⟩ := hx
    exact ⟨a', hands_in hc l a' h1, rfl⟩
  | undef => simp [hand] at hx
  | _ => simpa [hand] using hx
theorem hands_in {s t : St} (hc : CellsIn s t) (l l' : List AV) (hx : hands s l = some l') : hands t l = some l' := by
  cases l with
  | nil => simpa [hands] using hx
  | cons v r =>
    simp only [hands, Option.bind_eq_some_iff, Option.map_eq_some_iff] at hx ⊢
    obtain ⟨v', h1, r', h2, rfl⟩ := hx
    exact ⟨v', hand_in hc v v' h1, r', hands_in hc r r' h2, rfl⟩
end

theorem eff_rc {e : Env} {s s' t : St} {v : AV} {q : O} (hq : eff q = .rc) (hv : evO cl rd G h e s q = some (v, s')) : s' = s ∧ (CellsIn s t → evO cl rd G h e t q = some (v, t)) := by
  cases q <;> simp only [eff, reduceCtorEq] at hq
  case load n ag x =>
    simp only [evO, Option.bind_eq_some_iff, Option.map_eq_some_iff, Prod.mk.injEq] at hv
    obtain ⟨c, h1, v', h2, rfl, rfl⟩ := hv
    exact ⟨rfl, fun hc => by simp only [evO]; rw [cellsAt_in hc h1]; simp [h2]⟩
  case pcall f l =>
    simp only [evO] at hv ⊢
    unfold pcallV at hv ⊢
    split at hv
    case h_2 => cases hv
    rename_i f' first caps hf
    simp only [Option.bind_eq_some_iff, Option.ite_none_right_eq_some, Option.some.injEq, Prod.mk.injEq, Prod.exists] at hv
    obtain ⟨as, h1, h2, v', s0, h3, h4, rfl, rfl⟩ := hv
    exact ⟨rfl, fun hc => by
      rw [hands_in hc _ _ h1, Option.bind_some, if_pos h2, h3, Option.bind_some]
      dsimp only
      rw [if_pos h4]⟩

theorem mapAt_in {s t : St} (hc : MapsIn s t) {x : AV} {c : List (AV × AV)} (hx : mapAt s x = some c) : mapAt t x = some c := by
  cases x <;> simp only [mapAt, reduceCtorEq] at hx ⊢
  · exact hx
  · rename_i l i
    cases hg : getObj s l i with
    | none => simp [hg] at hx
    | some ob =>
      cases ob <;> simp only [hg, reduceCtorEq] at hx
      rw [hc _ _ _ hg]; exact hx
  · exact hx

theorem eff_rm {e : Env} {s s' t : St} {v : AV} {q : O} (hq : eff q = .rm) (hv : evO cl rd G h e s q = some (v, s')) : s' = s ∧ (MapsIn s t → evO cl rd G h e t q = some (v, t)) := by
  cases q <;> simp only [eff, reduceCtorEq] at hq
  case pcall f l => rcases effP_cases f l with ⟨_, h⟩ | h <;> (rw [h] at hq; cases hq)
  case lookup kk z ok m k =>
    simp only [evO, Option.bind_eq_some_iff, Option.map_eq_some_iff, Option.ite_none_right_eq_some, Prod.mk.injEq] at hv
    obtain ⟨es, h1, h2, r, h3, rfl, rfl⟩ := hv
    exact ⟨rfl, fun hc => by simp only [evO]; rw [mapAt_in hc h1, Option.bind_some, if_pos h2, h3]; rfl⟩
  case lenm x =>
    simp only [evO, lenmAt, Option.map_eq_some_iff, Prod.mk.injEq] at hv
    obtain ⟨v', ⟨es, h1, h2⟩, rfl, rfl⟩ := hv
    exact ⟨rfl, fun hc => by simp only [evO, lenmAt]; rw [mapAt_in hc h1]; simp [h2]⟩

theorem new_in {s s' : St} {o : AObj} {l i : Nat} (hn : newObj s o = some (l, i, s')) : CellsIn s s' ∧ MapsIn s s' := by
  obtain ⟨_, _, h3, h4, _⟩ := newObj_some hn
  constructor <;>
  · intro l' i' c hc
    rw [h4]
    split
    · rename_i he; rw [← he.1, ← he.2, h3] at hc; cases hc
    · exact hc

theorem eff_a {e : Env} {s s' : St} {v : AV} {q : O} (hq : eff q = .a) (hv : evO cl rd G h e s q = some (v, s')) : CellsIn s s' ∧ MapsIn s s' := by
  cases q <;> simp only [eff, reduceCtorEq] at hq
  case pcall f l => rcases effP_cases f l with ⟨_, h⟩ | h <;> (rw [h] at hq; cases hq)
  all_goals simp only [evO, mkslAt, Option.bind_eq_some_iff, Option.map_eq_some_iff, Prod.mk.injEq, Prod.exists] at hv
  · obtain ⟨l, i, s1, h1, _, rfl⟩ := hv; exact new_in h1
  · obtain ⟨_, _, l, i, s1, h1, _, rfl⟩ := hv; exact new_in h1
  · obtain ⟨_, _, l, i, s1, h1, _, rfl⟩ := hv; exact new_in h1
  · obtain ⟨l, i, s1, h1, _, rfl⟩ := hv; exact new_in h1
  · split at hv
    · split at hv
      · simp only [Option.map_eq_some_iff, Prod.mk.injEq, Prod.exists] at hv
        obtain ⟨l, i, s1, h1, _, rfl⟩ := hv; exact new_in h1
      · cases hv
    · cases hv

theorem set_in {s : St} {l i : Nat} {o o' : AObj} (h0 : getObj s l i = some o) (hc : ∀ c, o ≠ .cells c) (hm : ∀ c, o ≠ .map c) : CellsIn s (setObj s l i o') ∧ MapsIn s (setObj s l i o') := by
  constructor <;>
  · intro l' i' c hx
    rw [getObj_setObj]
    split
    · rename_i he
      rw [← he.1, ← he.2, h0] at hx
      cases hx
      first | exact absurd rfl (hc _) | exact absurd rfl (hm _)
    · exact hx

/-- A place taken. -/
theorem als_some {k n : Nat} {s s' : St} {v : AV} (hv : alsAt k n s = some (v, s')) :
    ∃ i, getObj s (s.length - 1) i = some (.free n) ∧ 0 < s.length ∧ (∃ f r, s = f :: r ∧ i = f.objs.length - 1 - k) ∧ v = .ptr (s.length - 1) i 0 ∧ s' = setObj s (s.length - 1) i (.got n) := by
  unfold alsAt at hv
  split at hv
  · cases hv
  rename_i os t r
  split at hv
  case h_2 => cases hv
  rename_i m hg
  split at hv
  case isFalse => cases hv
  rename_i hm
  subst hm
  simp only [fNat_eq, Option.some.injEq, Prod.mk.injEq] at hv
  obtain ⟨rfl, rfl⟩ := hv
  refine ⟨os.length - 1 - k, ?_, by simp, ⟨_, _, rfl, rfl⟩, by simp, by simp⟩
  simp only [List.length_cons, Nat.add_sub_cancel, getObj, getFr, if_true, Option.bind_some]
  exact hg

theorem als_of {k n : Nat} {s : St} {f : Fr} {r : St} (hs : s = f :: r) (hg : getObj s (s.length - 1) (f.objs.length - 1 - k) = some (.free n)) :
    alsAt k n s = some (.ptr (s.length - 1) (f.objs.length - 1 - k) 0, setObj s (s.length - 1) (f.objs.length - 1 - k) (.got n)) := by
  subst hs
  obtain ⟨os, t⟩ := f
  simp only [List.length_cons, Nat.add_sub_cancel, getObj, getFr, if_true, Option.bind_some] at hg
  simp [alsAt, hg]

theorem eff_ab {e : Env} {s s' : St} {v : AV} {q : O} (hq : eff q = .ab) (hv : evO cl rd G h e s q = some (v, s')) : (CellsIn s s' ∧ MapsIn s s') ∧ (CellsIn s' s ∧ MapsIn s' s) := by
  cases q <;> simp only [eff, reduceCtorEq] at hq
  case pcall f l => rcases effP_cases f l with ⟨_, h⟩ | h <;> (rw [h] at hq; cases hq)
  simp only [evO] at hv
  obtain ⟨i, h1, _, _, rfl, rfl⟩ := als_some hv
  refine ⟨set_in h1 (by simp) (by simp), ?_⟩
  constructor <;>
  · intro l' i' c hx
    rw [getObj_setObj] at hx
    split at hx
    · rename_i he; rw [← he.1, ← he.2, h1] at hx; cases hx
    · exact hx

theorem eff_fs {e : Env} {s s' : St} {v : AV} {q : O} (hq : eff q = .fs) (hv : evO cl rd G h e s q = some (v, s')) : CellsIn s s' ∧ MapsIn s s' := by
  cases q <;> simp only [eff, reduceCtorEq] at hq
  case pcall f l => rcases effP_cases f l with ⟨_, h⟩ | h <;> (rw [h] at hq; cases hq)
  simp only [evO, fstAt, Option.map_eq_some_iff, Prod.mk.injEq] at hv
  obtain ⟨s1, h1, rfl, rfl⟩ := hv
  split at h1
  case h_2 => cases h1
  split at h1
  case h_2 => cases h1
  rename_i hg
  simp only [Option.bind_eq_some_iff, Option.ite_none_right_eq_some, Option.some.injEq] at h1
  obtain ⟨_, _, _, rfl⟩ := h1
  exact set_in hg (by simp) (by simp)

theorem eff_wm {e : Env} {s s' : St} {v : AV} {q : O} (hq : eff q = .wm) (hv : evO cl rd G h e s q = some (v, s')) : CellsIn s s' ∧ CellsIn s' s := by
  cases q <;> simp only [eff, reduceCtorEq] at hq
  case pcall f l => rcases effP_cases f l with ⟨_, h⟩ | h <;> (rw [h] at hq; cases hq)
  simp only [evO, Option.map_eq_some_iff, Prod.mk.injEq] at hv
  obtain ⟨s1, h1, rfl, rfl⟩ := hv
  unfold updAt at h1
  split at h1
  case h_2 => cases h1
  split at h1
  case h_2 => cases h1
  rename_i hg
  simp only [Option.bind_eq_some_iff, Option.map_eq_some_iff, Option.ite_none_right_eq_some] at h1
  obtain ⟨_, _, _, _, _, rfl⟩ := h1
  constructor
  · intro l' i' c hx
    rw [getObj_setObj]
    split
    · rename_i he; rw [← he.1, ← he.2, hg] at hx; cases hx
    · exact hx
  · intro l' i' c hx
    rw [getObj_setObj] at hx
    split at hx
    · rename_i he; rw [← he.1, ← he.2, hg] at hx; cases hx
    · exact hx

theorem tok_in {s : St} {l p : Nat} {x : Nat × Nat} : (CellsIn s (setTok s l p x) ∧ MapsIn s (setTok s l p x)) ∧ (CellsIn (setTok s l p x) s ∧ MapsIn (setTok s l p x) s) := by
  refine ⟨⟨?_, ?_⟩, ?_, ?_⟩ <;> intro l' i' c hx
  · rw [getObj_setTok]; exact hx
  · rw [getObj_setTok]; exact hx
  · rw [getObj_setTok] at hx; exact hx
  · rw [getObj_setTok] at hx; exact hx

theorem eff_wt {e : Env} {s s' : St} {v : AV} {q : O} (hq : eff q = .wt) (hv : evO cl rd G h e s q = some (v, s')) : (CellsIn s s' ∧ MapsIn s s') ∧ (CellsIn s' s ∧ MapsIn s' s) := by
  cases q <;> simp only [eff, reduceCtorEq] at hq
  case pcall f l => rcases effP_cases f l with ⟨_, h⟩ | h <;> (rw [h] at hq; cases hq)
  simp only [evO] at hv
  unfold appAt at hv
  split at hv
  case h_2 => cases hv
  simp only [Option.bind_eq_some_iff] at hv
  obtain ⟨ys, _, hv⟩ := hv
  split at hv
  · simp only [Option.some.injEq, Prod.mk.injEq] at hv
    obtain ⟨_, rfl⟩ := hv
    exact ⟨⟨fun _ _ _ h => h, fun _ _ _ h => h⟩, fun _ _ _ h => h, fun _ _ _ h => h⟩
  rw [Option.ite_none_right_eq_some] at hv
  obtain ⟨_, hv⟩ := hv
  split at hv
  · simp only [Option.some.injEq, Prod.mk.injEq] at hv; obtain ⟨_, rfl⟩ := hv; exact tok_in
  · simp only [Option.some.injEq, Prod.mk.injEq] at hv; obtain ⟨_, rfl⟩ := hv; exact tok_in
  · rw [Option.ite_none_right_eq_some] at hv; obtain ⟨_, hv⟩ := hv; simp only [Option.some.injEq, Prod.mk.injEq] at hv; obtain ⟨_, rfl⟩ := hv; exact tok_in
  · cases hv

theorem set_set_comm {s : St} {l i j : Nat} {o o' : AObj} (hij : i ≠ j) : setObj (setObj s l i o) l j o' = setObj (setObj s l j o') l i o := by
  induction s with
  | nil => rfl
  | cons f s ih =>
    simp only [setObj, modFr] at ih ⊢
    by_cases h : l = s.length
    · subst h
      simp only [if_true, modFr, setO_eq]
      rw [List.set_comm _ _ hij]
    · simp only [h, if_false, modFr, modFr_length]
      rw [ih]

/-- Two operations change places: the second one is carried out first. -/
theorem eff_swap {e : Env} {s s1 s2 : St} {v1 v2 : AV} {q1 q2 : O} (hok : effOK (eff q1) (eff q2) = true) (h1 : evO cl rd G h e s q1 = some (v1, s1)) (h2 : evO cl rd G h e s1 q2 = some (v2, s2)) :
    ∃ si, evO cl rd G h e s q2 = some (v2, si) ∧ evO cl rd G h e si q1 = some (v1, s2) := by
  have ng : ∀ f1, eff q1 = f1 → eff q2 = .n → effOK f1 .n = true → ∃ si, evO cl rd G h e s q2 = some (v2, si) ∧ evO cl rd G h e si q1 = some (v1, s2) := by
    intro _ _ hq _
    obtain ⟨rfl, g⟩ := eff_n hq h2
    exact ⟨s, g s, h1⟩
  have rcgo : eff q1 = .rc → (∀ t v, evO cl rd G h e s q2 = some (v, t) → CellsIn s t) → ∃ si, evO cl rd G h e s q2 = some (v2, si) ∧ evO cl rd G h e si q1 = some (v1, s2) := by
    intro hq hin
    obtain ⟨rfl, _⟩ := eff_rc (t := s2) hq h1
    exact ⟨s2, h2, (eff_rc hq h1).2 (hin _ _ h2)⟩
  have rmgo : eff q1 = .rm → (∀ t v, evO cl rd G h e s q2 = some (v, t) → MapsIn s t) → ∃ si, evO cl rd G h e s q2 = some (v2, si) ∧ evO cl rd G h e si q1 = some (v1, s2) := by
    intro hq hin
    obtain ⟨rfl, _⟩ := eff_rm (t := s2) hq h1
    exact ⟨s2, h2, (eff_rm hq h1).2 (hin _ _ h2)⟩
  have gorc : eff q2 = .rc → CellsIn s1 s → ∃ si, evO cl rd G h e s q2 = some (v2, si) ∧ evO cl rd G h e si q1 = some (v1, s2) := by
    intro hq hin
    obtain ⟨rfl, g⟩ := eff_rc (t := s) hq h2
    exact ⟨s, g hin, h1⟩
  have gorm : eff q2 = .rm → MapsIn s1 s → ∃ si, evO cl rd G h e s q2 = some (v2, si) ∧ evO cl rd G h e si q1 = some (v1, s2) := by
    intro hq hin
    obtain ⟨rfl, g⟩ := eff_rm (t := s) hq h2
    exact ⟨s, g hin, h1⟩
  cases e1 : eff q1 <;> cases e2 : eff q2 <;> rw [e1, e2] at hok <;> simp only [effOK, Bool.false_eq_true] at hok
  all_goals first
    | (obtain ⟨rfl, g⟩ := eff_n e1 h1; exact ⟨s2, h2, g s2⟩)
    | exact ng _ e1 e2 rfl
    | (obtain ⟨rfl, g⟩ := eff_rc (t := s) e2 h2; first | exact rcgo e1 (fun t v hv => by rw [(eff_rc (t := s) e2 hv).1]; exact fun _ _ _ h => h) | exact rmgo e1 (fun t v hv => by rw [(eff_rc (t := s) e2 hv).1]; exact fun _ _ _ h => h))
    | (obtain ⟨rfl, g⟩ := eff_rm (t := s) e2 h2; first | exact rcgo e1 (fun t v hv => by rw [(eff_rm (t := s) e2 hv).1]; exact fun _ _ _ h => h) | exact rmgo e1 (fun t v hv => by rw [(eff_rm (t := s) e2 hv).1]; exact fun _ _ _ h => h))
    | exact rcgo e1 fun t v hv => (eff_a e2 hv).1
    | exact rmgo e1 fun t v hv => (eff_a e2 hv).2
    | exact rcgo e1 fun t v hv => (eff_ab e2 hv).1.1
    | exact rmgo e1 fun t v hv => (eff_ab e2 hv).1.2
    | exact rcgo e1 fun t v hv => (eff_fs e2 hv).1
    | exact rmgo e1 fun t v hv => (eff_fs e2 hv).2
    | exact rcgo e1 fun t v hv => (eff_wm e2 hv).1
    | exact rcgo e1 fun t v hv => (eff_wt e2 hv).1.1
    | exact rmgo e1 fun t v hv => (eff_wt e2 hv).1.2
    | exact gorc e2 (eff_ab e1 h1).2.1
    | exact gorm e2 (eff_ab e1 h1).2.2
    | exact gorc e2 (eff_wm e1 h1).2
    | exact gorc e2 (eff_wt e1 h1).2.1
    | exact gorm e2 (eff_wt e1 h1).2.2
    | skip
  -- two places
  cases q1 <;> simp only [eff, reduceCtorEq] at e1
  case pcall f l => rcases effP_cases f l with ⟨_, h⟩ | h <;> (rw [h] at e1; cases e1)
  cases q2 <;> simp only [eff, reduceCtorEq] at e2
  case pcall f l => rcases effP_cases f l with ⟨_, h⟩ | h <;> (rw [h] at e2; cases e2)
  rename_i k1 n1 k2 n2
  simp only [evO] at h1 h2 ⊢
  obtain ⟨i1, g1, g2, ⟨f, r, hs, rfl⟩, rfl, rfl⟩ := als_some h1
  obtain ⟨i2, g3, g4, ⟨f', r', hs', rfl⟩, rfl, rfl⟩ := als_some h2
  rw [setObj_length] at g3 ⊢
  have hf : f'.objs.length = f.objs.length := by
    subst hs
    simp only [setObj, modFr, List.length_cons, Nat.add_sub_cancel, if_true, List.cons.injEq, setO_eq] at hs'
    rw [← hs'.1]; simp
  rw [hf] at g3 ⊢
  rw [getObj_setObj] at g3
  by_cases hne : f.objs.length - 1 - k1 = f.objs.length - 1 - k2
  · rw [if_pos ⟨rfl, hne⟩, ← hne, g1] at g3; cases g3
  · rw [if_neg (fun h => hne h.2)] at g3
    refine ⟨_, als_of hs g3, ?_⟩
    have hs2 : ∃ f2, setObj s (s.length - 1) (f.objs.length - 1 - k2) (.got n2) = f2 :: r ∧ f2.objs.length = f.objs.length := by
      subst hs
      refine ⟨setO (f.objs.length - 1 - k2) (.got n2) f, by simp [setObj, modFr], by simp [setO_eq]⟩
    obtain ⟨f2, hs2, hl2⟩ := hs2
    have := als_of (k := k1) (n := n1) hs2 (by
      rw [setObj_length, hl2, getObj_setObj, if_neg (fun h => hne h.2.symm)]; exact g1)
    rw [setObj_length, hl2] at this
    rw [this, set_set_comm hne]

mutual
theorem sameV_ok : ∀ {a b : AV}, sameV a b = true → a = b := by
  intro a b h
  cases a <;> cases b <;> first | (simp [sameV] at h; done) | skip
  case int.int => simp only [sameV, Bool.and_eq_true, decide_eq_true_eq, beq_iff_eq] at h; rw [h.1, h.2]
  case bool.bool => simp only [sameV, beq_iff_eq] at h; rw [h]
  case str.str => simp only [sameV, beq_iff_eq] at h; rw [h]
  case sl.sl => simp only [sameV, Bool.and_eq_true, decide_eq_true_eq] at h; rw [h.1, sameVss_ok h.2]
  case rp.rp => simp only [sameV] at h; rw [sameVs_ok h]
  all_goals rfl
theorem sameVs_ok : ∀ {a b : List AV}, sameVs a b = true → a = b
  | [], [], _ => rfl
  | a :: x, b :: y, h => by
    simp only [sameVs, Bool.and_eq_true] at h
    rw [sameV_ok h.1, sameVs_ok h.2]
  | [], _ :: _, h => by simp [sameVs] at h
  | _ :: _, [], h => by simp [sameVs] at h
theorem sameVss_ok : ∀ {a b : List (List AV)}, sameVss a b = true → a = b
  | [], [], _ => rfl
  | a :: x, b :: y, h => by
    simp only [sameVss, Bool.and_eq_true] at h
    rw [sameVs_ok h.1, sameVss_ok h.2]
  | [], _ :: _, h => by simp [sameVss] at h
  | _ :: _, [], h => by simp [sameVss] at h
end

theorem kept_ok {s s' : St} {e : Env} : ∀ {ks : List Nat} {t : Nat}, kept s s' e ks = true → t ∈ ks → cellsAt s (e.get t) = cellsAt s' (e.get t)
  | [], _, _, h => by cases h
  | k :: ks, t, h, ht => by
    simp only [kept, Bool.and_eq_true] at h
    rcases List.mem_cons.1 ht with rfl | ht
    · have h1 := h.1
      split at h1
      · rename_i h2 h3; rw [h2, h3, sameVs_ok h1]
      · cases h1
    · exact kept_ok h.2 ht

/-- A call that leaves what is loaded as it was. -/
def keepOK : O → O → Bool
  | .callk _ _ ks, .load _ _ (.t a) => ks.contains a
  | _, _ => false

theorem keep_swap {e : Env} {s s1 s2 : St} {v1 v2 : AV} {q1 q2 : O} (hok : keepOK q1 q2 = true) (h1 : evO cl rd G h e s q1 = some (v1, s1)) (h2 : evO cl rd G h e s1 q2 = some (v2, s2)) :
    ∃ si, evO cl rd G h e s q2 = some (v2, si) ∧ evO cl rd G h e si q1 = some (v1, s2) := by
  unfold keepOK at hok
  split at hok
  case h_2 => cases hok
  rename_i f args ks n ag a
  have h1' := h1
  simp only [evO, Option.bind_eq_some_iff, Option.ite_none_right_eq_some, Option.some.injEq, Prod.mk.injEq, Prod.exists] at h1
  obtain ⟨v, s', _, hk, rfl, rfl⟩ := h1
  have hc := kept_ok hk (t := a) (by simpa using hok)
  obtain ⟨hs2, _⟩ := eff_rc (t := s2) rfl h2
  subst hs2
  refine ⟨s, ?_, h1'⟩
  simp only [evO, X.ev] at h2 ⊢
  rw [hc]
  simp only [Option.bind_eq_some_iff, Option.map_eq_some_iff, Prod.mk.injEq] at h2 ⊢
  obtain ⟨cc, h3, u, h4, h5, h6⟩ := h2
  exact ⟨cc, h3, u, h4, h5, trivial⟩

/-! ### one operation with its guard -/

def stepOp (cl : Call) (rd : Round) (G : Nat → List AV) (h : Nat) (o : Op) (e : Env) (s : St) : Option (Env × St) :=
  (wantedOp e o.g).bind fun w => if w = true then (evO cl rd G h e s o.o).map fun p => (e.put o.d p.1, p.2) else some (e.put o.d (.tup []), s)

theorem evOps_cons {o : Op} {l : List Op} {e : Env} {s : St} : evOps cl rd G h (o :: l) e s = (stepOp cl rd G h o e s).bind fun p => evOps cl rd G h l p.1 p.2 := by
  simp only [evOps, stepOp]
  cases wantedOp e o.g with
  | none => rfl
  | some w =>
    simp only [Option.bind_some]
    split
    · cases evO cl rd G h e s o.o with
      | none => rfl
      | some p => simp
    · rfl

def rdG : Option (Nat × Bool) → List Nat
  | some (t, _) => [t]
  | none => []
def rdOp (o : Op) : List Nat := rdG o.g ++ rdO o.o

/-- Environments that say alike. -/
def Same (e e' : Env) : Prop := ∀ t, e.get t = e'.get t
theorem Same.rfl' {e : Env} : Same e e := fun _ => rfl
theorem Same.trans {a b c : Env} (h1 : Same a b) (h2 : Same b c) : Same a c := fun t => (h1 t).trans (h2 t)

theorem get_put {e : Env} {d : Option Nat} {v : AV} {t : Nat} : (e.put d v).get t = if d = some t then v else e.get t := by
  cases d with
  | none => simp [Env.put]
  | some d =>
    simp only [Env.put, Env.get, Nat.beq_eq, Option.some.injEq]

theorem Same.put {e e' : Env} (h : Same e e') (d : Option Nat) (v : AV) : Same (e.put d v) (e'.put d v) := fun t => by rw [get_put, get_put, h t]

theorem wanted_congr {e e' : Env} {g : Option (Nat × Bool)} (hq : ∀ t ∈ rdG g, e.get t = e'.get t) : wantedOp e g = wantedOp e' g := by
  cases g with
  | none => rfl
  | some p => obtain ⟨t, b⟩ := p; simp only [wantedOp]; rw [hq t (by simp [rdG])]

theorem step_congr {o : Op} {e e' : Env} {s s' : St} {e1 : Env} (hs : Same e e') (hst : stepOp cl rd G h o e s = some (e1, s')) : ∃ e2, stepOp cl rd G h o e' s = some (e2, s') ∧ Same e1 e2 := by
  unfold stepOp at *
  rw [← wanted_congr fun t _ => hs t, ← evO_congr fun t _ => hs t]
  cases hw : wantedOp e o.g with
  | none => rw [hw] at hst; cases hst
  | some w =>
    rw [hw] at hst
    simp only [Option.bind_some] at hst ⊢
    cases w with
    | false =>
      simp at hst ⊢
      obtain ⟨rfl, rfl⟩ := hst
      exact ⟨_, ⟨rfl, rfl⟩, hs.put _ _⟩
    | true =>
      simp only [if_true, Option.map_eq_some_iff, Prod.mk.injEq, Prod.exists] at hst ⊢
      obtain ⟨v, s1, h1, rfl, rfl⟩ := hst
      exact ⟨_, ⟨v, s1, h1, rfl, rfl⟩, hs.put _ _⟩

theorem evOps_congr {l : List Op} : ∀ {e e' : Env} {s s' : St} {e1 : Env}, Same e e' → evOps cl rd G h l e s = some (e1, s') → ∃ e2, evOps cl rd G h l e' s = some (e2, s') ∧ Same e1 e2 := by
  induction l with
  | nil =>
    intro e e' s s' e1 hs hv
    simp only [evOps, Option.some.injEq, Prod.mk.injEq] at hv ⊢
    obtain ⟨rfl, rfl⟩ := hv
    exact ⟨e', ⟨rfl, rfl⟩, hs⟩
  | cons o l ih =>
    intro e e' s s' e1 hs hv
    rw [evOps_cons, Option.bind_eq_some_iff] at hv
    obtain ⟨⟨em, sm⟩, h1, h2⟩ := hv
    obtain ⟨em', h3, h4⟩ := step_congr hs h1
    obtain ⟨e2, h5, h6⟩ := ih h4 h2
    exact ⟨e2, by rw [evOps_cons, h3]; exact h5, h6⟩

/-- May two operations that are not ordered change places, the second one before the first one? -/
def pairOK (q1 q2 : Op) : Bool :=
  (match q1.d with | some d => !(rdOp q2).contains d && decide (q2.d ≠ some d) | none => true) &&
  (match q2.d with | some d => !(rdOp q1).contains d | none => true) && (effOK (eff q1.o) (eff q2.o) || keepOK q1.o q2.o)

theorem put_put {e : Env} {d1 d2 : Option Nat} {v1 v2 : AV} (hd : ∀ d, d1 = some d → d2 ≠ some d) : Same ((e.put d1 v1).put d2 v2) ((e.put d2 v2).put d1 v1) := by
  intro t
  simp only [get_put]
  by_cases h1 : d1 = some t
  · have := hd t h1; simp [h1, this]
  · simp [h1]

theorem step_swap {q1 q2 : Op} {e e1 e2 : Env} {s s1 s2 : St} (hp : pairOK q1 q2 = true) (h1 : stepOp cl rd G h q1 e s = some (e1, s1)) (h2 : stepOp cl rd G h q2 e1 s1 = some (e2, s2)) :
    ∃ ei si e3, stepOp cl rd G h q2 e s = some (ei, si) ∧ stepOp cl rd G h q1 ei si = some (e3, s2) ∧ Same e2 e3 := by
  simp only [pairOK, Bool.and_eq_true] at hp
  obtain ⟨⟨p1, p2⟩, p3⟩ := hp
  have hA : ∀ d, q1.d = some d → d ∉ rdOp q2 ∧ q2.d ≠ some d := fun d hd => by rw [hd] at p1; simpa using p1
  have hB : ∀ d, q2.d = some d → d ∉ rdOp q1 := fun d hd => by rw [hd] at p2; simpa using p2
  have cA : ∀ (e : Env) (v : AV) (t : Nat), t ∈ rdOp q2 → (e.put q1.d v).get t = e.get t := fun e v t ht => by
    rw [get_put, if_neg fun hd => (hA t hd).1 ht]
  have cB : ∀ (e : Env) (v : AV) (t : Nat), t ∈ rdOp q1 → (e.put q2.d v).get t = e.get t := fun e v t ht => by
    rw [get_put, if_neg fun hd => hB t hd ht]
  have wA : ∀ (e : Env) (v : AV), wantedOp (e.put q1.d v) q2.g = wantedOp e q2.g := fun e v => wanted_congr fun t ht => cA e v t (List.mem_append.2 (.inl ht))
  have wB : ∀ (e : Env) (v : AV), wantedOp (e.put q2.d v) q1.g = wantedOp e q1.g := fun e v => wanted_congr fun t ht => cB e v t (List.mem_append.2 (.inl ht))
  have oA : ∀ (e : Env) (v : AV) (s : St), evO cl rd G h (e.put q1.d v) s q2.o = evO cl rd G h e s q2.o := fun e v s => evO_congr fun t ht => cA e v t (List.mem_append.2 (.inr ht))
  have oB : ∀ (e : Env) (v : AV) (s : St), evO cl rd G h (e.put q2.d v) s q1.o = evO cl rd G h e s q1.o := fun e v s => evO_congr fun t ht => cB e v t (List.mem_append.2 (.inr ht))
  have hd : ∀ d, q1.d = some d → q2.d ≠ some d := fun d hd => (hA d hd).2
  unfold stepOp at *
  cases w1 : wantedOp e q1.g with
  | none => rw [w1] at h1; cases h1
  | some b1 =>
    rw [w1, Option.bind_some] at h1
    cases b1 with
    | false =>
      simp only [Bool.false_eq_true, if_false, Option.some.injEq, Prod.mk.injEq] at h1
      obtain ⟨rfl, rfl⟩ := h1
      rw [wA, oA] at h2
      cases w2 : wantedOp e q2.g with
      | none => rw [w2] at h2; cases h2
      | some b2 =>
        rw [w2, Option.bind_some] at h2
        cases b2 with
        | false =>
          simp only [Bool.false_eq_true, if_false, Option.some.injEq, Prod.mk.injEq] at h2
          obtain ⟨rfl, rfl⟩ := h2
          exact ⟨_, _, _, rfl, by rw [wB, w1]; rfl, put_put hd⟩
        | true =>
          simp only [if_true, Option.map_eq_some_iff, Prod.mk.injEq, Prod.exists] at h2
          obtain ⟨v2, s3, h3, rfl, rfl⟩ := h2
          exact ⟨e.put q2.d v2, s3, _, by simp [h3], by rw [wB, w1]; rfl, put_put hd⟩
    | true =>
      simp only [if_true, Option.map_eq_some_iff, Prod.mk.injEq, Prod.exists] at h1
      obtain ⟨v1, s3, h3, rfl, rfl⟩ := h1
      rw [wA, oA] at h2
      cases w2 : wantedOp e q2.g with
      | none => rw [w2] at h2; cases h2
      | some b2 =>
        rw [w2, Option.bind_some] at h2
        cases b2 with
        | false =>
          simp only [Bool.false_eq_true, if_false, Option.some.injEq, Prod.mk.injEq] at h2
          obtain ⟨rfl, rfl⟩ := h2
          exact ⟨e.put q2.d (.tup []), s, _, rfl, by rw [wB, w1, oB, h3]; rfl, put_put hd⟩
        | true =>
          simp only [if_true, Option.map_eq_some_iff, Prod.mk.injEq, Prod.exists] at h2
          obtain ⟨v2, s4, h4, rfl, rfl⟩ := h2
          obtain ⟨si, k1, k2⟩ : ∃ si, evO cl rd G h e s q2.o = some (v2, si) ∧ evO cl rd G h e si q1.o = some (v1, s4) := by
            rcases Bool.or_eq_true _ _ ▸ p3 with p3 | p3
            · exact eff_swap p3 h3 h4
            · exact keep_swap p3 h3 h4
          exact ⟨e.put q2.d v2, si, _, by simp [k1], by rw [wB, w1, oB, k2]; rfl, put_put hd⟩

/-- One operation is taken ahead of those that stand before it. -/
theorem pull {post : List Op} {q : Op} : ∀ {pre : List Op} {e e' : Env} {s s' : St}, (∀ k ∈ pre, pairOK k q = true) → evOps cl rd G h (pre ++ q :: post) e s = some (e', s') →
    ∃ e1 s1 e2, stepOp cl rd G h q e s = some (e1, s1) ∧ evOps cl rd G h (pre ++ post) e1 s1 = some (e2, s') ∧ Same e' e2 := by
  intro pre
  induction pre with
  | nil =>
    intro e e' s s' _ hv
    rw [List.nil_append, evOps_cons, Option.bind_eq_some_iff] at hv
    obtain ⟨⟨e1, s1⟩, h1, h2⟩ := hv
    exact ⟨e1, s1, e', h1, h2, .rfl'⟩
  | cons k pre ih =>
    intro e e' s s' hp hv
    rw [List.cons_append, evOps_cons, Option.bind_eq_some_iff] at hv
    obtain ⟨⟨ek, sk⟩, h1, h2⟩ := hv
    obtain ⟨e1, s1, e2, h3, h4, h5⟩ := ih (fun k' hk => hp k' (by simp [hk])) h2
    obtain ⟨ei, si, e3, h6, h7, h8⟩ := step_swap (hp k (by simp)) h1 h3
    obtain ⟨e4, h9, h10⟩ := evOps_congr h8 h4
    exact ⟨ei, si, e4, h6, by rw [List.cons_append, evOps_cons, h7]; exact h9, h5.trans h10⟩
end Go.Ab
