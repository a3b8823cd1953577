/- Parts of the proof of StoreRoom: a logic of memory, contracts of functions, plain laws (SlA, SlB, SlC, SlD, SlE, SlF, SlG, SlH, SlI, SlJ, SlK, SlM, SlN, SlO). Conditions: those that each theorem names. -/
import Derived.Calls
import Derived.Laws.World
import Derived.Laws.Entries
import Derived.MapKept
import Derived.Tactics
import Derived.Orders
import Derived.Laws.Cells
import Derived.Deep.LoopGhost
import Derived.Laws.MakeOwn
import Derived.Laws.Append
set_option linter.unusedSimpArgs false
set_option linter.unusedVariables false
namespace Go.SL

inductive Key where
  | cell (r o : Nat)
  | obj (r : Nat)
  deriving DecidableEq

inductive Res where
  | cell (v : Value)
  | obj (o : Obj)

/-- A part of memory; true: owned alone; false: never written again, so it may be shared. -/
abbrev Hp := Key → Option (Bool × Res)
abbrev HProp := Hp → Prop

def compat (h₁ h₂ : Hp) : Prop := ∀ k, h₁ k = none ∨ h₂ k = none ∨ (h₁ k = h₂ k ∧ ∃ x, h₁ k = some (false, x))
def join (h₁ h₂ : Hp) : Hp := fun k => match h₁ k with | some x => some x | none => h₂ k

def star : List HProp → HProp
  | [] => fun _ => True
  | A :: L => fun h => ∃ h₁ h₂, compat h₁ h₂ ∧ h = join h₁ h₂ ∧ A h₁ ∧ star L h₂

def notCells : Obj → Bool
  | .cells .. => false
  | _ => true

def okAt (w : World) : Key → Bool → Res → Prop
  | .cell r o, b, .cell v => w.cell? ⟨r, o, none⟩ = some v ∧ (b = true → w.frozen? ⟨r, o, none⟩ = false)
  | .obj r, _, .obj o => w.heap[r]? = some o ∧ notCells o = true
  | _, _, _ => False

def realises (h : Hp) (w : World) : Prop := ∀ k b x, h k = some (b, x) → okAt w k b x

/-- What stays of the world in which the run began. -/
structure Base (B w : World) : Prop where
  os : w.os = B.os
  output : w.output = B.output
  size : B.heap.size ≤ w.heap.size
  frozen : ∀ a, a.block < B.heap.size → w.frozen? a = B.frozen? a
  cells : ∀ (i : Nat) c t fr, B.heap[i]? = some (Obj.cells c t fr) → ∃ c' : Array Value, w.heap[i]? = some (Obj.cells c' t fr) ∧ c'.size = c.size

def sat (B : World) (L : List HProp) (w : World) : Prop := Base B w ∧ ∃ h, star L h ∧ realises h w

theorem compat.symm {h₁ h₂ : Hp} (c : compat h₁ h₂) : compat h₂ h₁ := by
  intro k
  rcases c k with h | h | ⟨h, x, hx⟩
  · exact .inr (.inl h)
  · exact .inl h
  · exact .inr (.inr ⟨h.symm, x, h ▸ hx⟩)

theorem join_comm {h₁ h₂ : Hp} (c : compat h₁ h₂) : join h₁ h₂ = join h₂ h₁ := by
  funext k
  unfold join
  rcases c k with h | h | ⟨h, x, hx⟩
  · rw [h]; cases h₂ k <;> rfl
  · rw [h]; cases h₁ k <;> rfl
  · rw [← h]

theorem compat_join_left {h₁ h₂ h₃ : Hp} (c : compat h₁ (join h₂ h₃)) (c' : compat h₂ h₃) : compat h₁ h₂ ∧ compat h₁ h₃ := by
  constructor
  · intro k
    have := c k
    unfold join at this
    rcases this with h | h | ⟨h, x, hx⟩
    · exact .inl h
    · cases h2 : h₂ k with
      | none => exact .inr (.inl rfl)
      | some y => rw [h2] at h; exact absurd h (by simp)
    · cases h2 : h₂ k with
      | none => exact .inr (.inl rfl)
      | some y => rw [h2] at h; exact .inr (.inr ⟨h, x, hx⟩)
  · intro k
    have := c k
    unfold join at this
    rcases this with h | h | ⟨h, x, hx⟩
    · exact .inl h
    · cases h2 : h₂ k with
      | none => rw [h2] at h; exact .inr (.inl h)
      | some y => rw [h2] at h; exact absurd h (by simp)
    · cases h2 : h₂ k with
      | none => rw [h2] at h; exact .inr (.inr ⟨h, x, hx⟩)
      | some y =>
        rw [h2] at h
        rcases c' k with g | g | ⟨g, _⟩
        · rw [h2] at g; exact absurd g (by simp)
        · exact .inr (.inl g)
        · exact .inr (.inr ⟨by rw [h, ← g, h2], x, hx⟩)

theorem join_assoc (h₁ h₂ h₃ : Hp) : join (join h₁ h₂) h₃ = join h₁ (join h₂ h₃) := by
  funext k; unfold join; cases h₁ k <;> rfl

theorem compat_join {h₁ h₂ h₃ : Hp} (c₁ : compat h₁ h₃) (c₂ : compat h₂ h₃) : compat (join h₁ h₂) h₃ := by
  intro k
  unfold join
  cases h1 : h₁ k with
  | none => exact c₂ k
  | some y =>
    have := c₁ k
    rw [h1] at this
    exact this

theorem star_swap {A A' : HProp} {L : List HProp} {h : Hp} (s : star (A :: A' :: L) h) : star (A' :: A :: L) h := by
  obtain ⟨h₁, h₂, c, rfl, a, h₃, h₄, c', rfl, a', l⟩ := s
  obtain ⟨c1, c2⟩ := compat_join_left c c'
  refine ⟨h₃, join h₁ h₄, (compat_join c1 c'.symm).symm, ?_, a', h₁, h₄, c2, rfl, a, l⟩
  rw [← join_assoc, join_comm c1, join_assoc]

theorem star_perm {L L' : List HProp} (p : L.Perm L') : ∀ h, star L h → star L' h := by
  induction p with
  | nil => exact fun _ h => h
  | cons A _ ih =>
    intro h ⟨h₁, h₂, c, e, a, l⟩
    exact ⟨h₁, h₂, c, e, a, ih _ l⟩
  | swap A B L => exact fun h s => star_swap s
  | trans _ _ ih₁ ih₂ => exact fun h s => ih₂ _ (ih₁ _ s)

section
variable {B : World} {L L' R : List HProp} {w : World} {A A' : HProp}

theorem sat.perm (s : sat B L w) (p : L.Perm L') : sat B L' w :=
  let ⟨b, h, hs, hr⟩ := s
  ⟨b, h, star_perm p h hs, hr⟩

theorem realises_right {h₁ h₂ : Hp} (c : compat h₁ h₂) (r : realises (join h₁ h₂) w) : realises h₂ w := by
  intro k b x hk
  refine r k b x ?_
  unfold join
  rcases c k with h | h | ⟨h, y, hy⟩
  · rw [h]; exact hk
  · rw [h] at hk; exact absurd hk (by simp)
  · rw [hy]; rw [← h, hy] at hk; exact hk

theorem realises_left {h₁ h₂ : Hp} (r : realises (join h₁ h₂) w) : realises h₁ w := by
  intro k b x hk
  refine r k b x ?_
  unfold join
  rw [hk]

theorem sat.tail (s : sat B (A :: L) w) : sat B L w := by
  obtain ⟨b, h, ⟨h₁, h₂, c, rfl, a, l⟩, hr⟩ := s
  exact ⟨b, h₂, l, realises_right c hr⟩

theorem sat.base (s : sat B L w) : Base B w := s.1

theorem sat.head (s : sat B (A :: L) w) (f : ∀ h, A h → A' h) : sat B (A' :: L) w := by
  obtain ⟨b, h, ⟨h₁, h₂, c, e, a, l⟩, hr⟩ := s
  exact ⟨b, h, ⟨h₁, h₂, c, e, f _ a, l⟩, hr⟩

/-- What the head says of the world. -/
theorem sat.headOf (s : sat B (A :: L) w) : ∃ h, A h ∧ realises h w := by
  obtain ⟨b, h, ⟨h₁, h₂, c, rfl, a, l⟩, hr⟩ := s
  exact ⟨h₁, a, realises_left hr⟩

/-- Worlds with the same memory satisfy the same. -/
theorem sat.same {w' : World} (s : sat B L w) (hh : w'.heap = w.heap) (ho : w'.os = w.os) (hp : w'.output = w.output) : sat B L w' := by
  obtain ⟨b, h, hs, hr⟩ := s
  have hc : ∀ a, w'.cell? a = w.cell? a := fun a => by unfold World.cell?; rw [hh]
  have hf : ∀ a, w'.frozen? a = w.frozen? a := fun a => by unfold World.frozen?; rw [hh]
  refine ⟨⟨ho.trans b.os, hp.trans b.output, by rw [hh]; exact b.size, fun a ha => (hf a).trans (b.frozen a ha), fun i c t fr h => by rw [hh]; exact b.cells i c t fr h⟩, h, hs, ?_⟩
  intro k bb x hk
  have := hr k bb x hk
  cases k <;> cases x <;> simp only [okAt, hc, hf, hh] at this ⊢ <;> exact this

theorem sat.drew (s : sat B L w) : sat B L w.drew := s.same rfl rfl rfl
end

def says (φ : Prop) : HProp := fun _ => φ
def ex {α : Type} (Φ : α → HProp) : HProp := fun h => ∃ x, Φ x h
def cells (b : Bool) (r o : Nat) (vs : List Value) : HProp := fun h => ∀ i v, vs[i]? = some v → h (.cell r (o + i)) = some (b, .cell v)
def object (b : Bool) (r : Nat) (x : Obj) : HProp := fun h => h (.obj r) = some (b, .obj x) ∧ notCells x = true

section
variable {B : World} {L L' R : List HProp} {w : World} {A A' : HProp}

theorem star_append : ∀ (L R : List HProp) (h : Hp), star (L ++ R) h ↔ ∃ h₁ h₂, compat h₁ h₂ ∧ h = join h₁ h₂ ∧ star L h₁ ∧ star R h₂
  | [], R, h => by
    constructor
    · intro s
      refine ⟨fun _ => none, h, fun k => .inl rfl, ?_, trivial, s⟩
      funext k; rfl
    · rintro ⟨h₁, h₂, c, rfl, _, s⟩
      exact star_mono_right R h₁ h₂ c s
  | A :: L, R, h => by
    constructor
    · rintro ⟨h₁, h₂, c, rfl, a, s⟩
      obtain ⟨h₃, h₄, c', rfl, l, r⟩ := (star_append L R h₂).1 s
      obtain ⟨c1, c2⟩ := compat_join_left c c'
      exact ⟨join h₁ h₃, h₄, compat_join c2 c', (join_assoc _ _ _).symm, ⟨h₁, h₃, c1, rfl, a, l⟩, r⟩
    · rintro ⟨h₁, h₂, c, rfl, ⟨h₃, h₄, c', rfl, a, l⟩, r⟩
      obtain ⟨c1, c2⟩ := compat_join_left c.symm c'
      exact ⟨h₃, join h₄ h₂, (compat_join c'.symm c1).symm, join_assoc _ _ _, a, (star_append L R _).2 ⟨h₄, h₂, c2.symm, rfl, l, r⟩⟩
where
  star_mono_right : ∀ (R : List HProp) (h₁ h₂ : Hp), compat h₁ h₂ → star R h₂ → star R (join h₁ h₂)
    | [], _, _, _, _ => trivial
    | A :: R, h₁, h₂, c, s => by
      obtain ⟨h₃, h₄, c', rfl, a, r⟩ := s
      obtain ⟨c1, c2⟩ := compat_join_left c c'
      refine ⟨h₃, join h₁ h₄, (compat_join c1 c'.symm).symm, ?_, a, star_mono_right R h₁ h₄ c2 r⟩
      rw [← join_assoc, join_comm c1, join_assoc]

theorem sat_says {φ : Prop} : sat B (says φ :: L) w ↔ φ ∧ sat B L w := by
  constructor
  · intro s
    obtain ⟨h, p, _⟩ := s.headOf
    exact ⟨p, s.tail⟩
  · rintro ⟨p, b, h, hs, hr⟩
    exact ⟨b, h, ⟨fun _ => none, h, fun k => .inl rfl, rfl, p, hs⟩, hr⟩

theorem sat_ex {α : Type} {Φ : α → HProp} : sat B (ex Φ :: L) w ↔ ∃ x, sat B (Φ x :: L) w := by
  constructor
  · rintro ⟨b, h, ⟨h₁, h₂, c, e, ⟨x, a⟩, l⟩, hr⟩
    exact ⟨x, b, h, ⟨h₁, h₂, c, e, a, l⟩, hr⟩
  · rintro ⟨x, b, h, ⟨h₁, h₂, c, e, a, l⟩, hr⟩
    exact ⟨b, h, ⟨h₁, h₂, c, e, ⟨x, a⟩, l⟩, hr⟩

theorem sat_star {M : List HProp} : sat B (star M :: L) w ↔ sat B (M ++ L) w := by
  constructor
  · rintro ⟨b, h, ⟨h₁, h₂, c, e, a, l⟩, hr⟩
    exact ⟨b, h, (star_append M L h).2 ⟨h₁, h₂, c, e, a, l⟩, hr⟩
  · rintro ⟨b, h, s, hr⟩
    obtain ⟨h₁, h₂, c, e, a, l⟩ := (star_append M L h).1 s
    exact ⟨b, h, ⟨h₁, h₂, c, e, a, l⟩, hr⟩

theorem sat.cell {b : Bool} {r o i : Nat} {vs : List Value} {v : Value} (s : sat B (cells b r o vs :: L) w) (hi : vs[i]? = some v) :
    w.cell? ⟨r, o + i, none⟩ = some v := by
  obtain ⟨h, a, hr⟩ := s.headOf
  exact (hr _ _ _ (a i v hi)).1

theorem sat.notFrozen {r o i : Nat} {vs : List Value} {v : Value} (s : sat B (cells true r o vs :: L) w) (hi : vs[i]? = some v) :
    w.frozen? ⟨r, o + i, none⟩ = false := by
  obtain ⟨h, a, hr⟩ := s.headOf
  exact (hr _ _ _ (a i v hi)).2 rfl

theorem sat.obj {b : Bool} {r : Nat} {x : Obj} (s : sat B (object b r x :: L) w) : w.heap[r]? = some x := by
  obtain ⟨h, a, hr⟩ := s.headOf
  exact (hr _ _ _ a.1).1

theorem Base.setCell {a : Addr} {v : Value} (b : Base B w) : Base B (w.setCell a v) := by
  refine ⟨b.os, b.output, by simpa using b.size, fun x hx => by simpa using b.frozen x hx, fun i c t fr h => ?_⟩
  obtain ⟨c', h', hs⟩ := b.cells i c t fr h
  by_cases hb : a.block = i
  · refine ⟨if a.spot.isSome then c' else c'.setIfInBounds a.off v, ?_, ?_⟩
    · simp [World.setCell, Array.getElem?_modify, hb, h']
    · split <;> simp [hs]
  · exact ⟨c', by simp [World.setCell, Array.getElem?_modify, hb, h'], hs⟩

theorem Base.alloc_cells {c : Array Value} {t : TypeId} (b : Base B w) : Base B (w.alloc (.cells c t)) := by
  refine ⟨b.os, b.output, by have := b.size; simp; omega, fun a ha => ?_, fun i c' t' fr h => ?_⟩
  · rw [← b.frozen a ha]
    by_cases h : a.block = w.heap.size
    · have e1 : (w.alloc (.cells c t)).heap[a.block]? = some (.cells c t) := by rw [h]; unfold World.alloc; simp
      have e2 : w.heap[a.block]? = none := by rw [h]; simp
      simp [World.frozen?, e1, e2]
    · exact World.frozen?_alloc_old w _ a h
  · obtain ⟨c2, h2, hs⟩ := b.cells i c' t' fr h
    refine ⟨c2, ?_, hs⟩
    have : i < w.heap.size := by
      rcases Nat.lt_or_ge i w.heap.size with h' | h'
      · exact h'
      · simp [Array.getElem?_eq_none h'] at h2
    simp only [World.alloc, Array.getElem?_push]
    rw [if_neg (by omega)]; exact h2

theorem Base.alloc_obj {x : Obj} (hx : notCells x = true) (b : Base B w) : Base B (w.alloc x) := by
  refine ⟨b.os, b.output, by have := b.size; simp; omega, fun a ha => ?_, fun i c' t' fr h => ?_⟩
  · rw [← b.frozen a ha]
    by_cases h : a.block = w.heap.size
    · have e1 : (w.alloc x).heap[a.block]? = some x := by rw [h]; unfold World.alloc; simp
      have e2 : w.heap[a.block]? = none := by rw [h]; simp
      simp only [World.frozen?, e1, e2]
      cases x <;> simp_all [notCells]
    · exact World.frozen?_alloc_old w _ a h
  · obtain ⟨c2, h2, hs⟩ := b.cells i c' t' fr h
    refine ⟨c2, ?_, hs⟩
    have : i < w.heap.size := by
      rcases Nat.lt_or_ge i w.heap.size with h' | h'
      · exact h'
      · simp [Array.getElem?_eq_none h'] at h2
    simp only [World.alloc, Array.getElem?_push]
    rw [if_neg (by omega)]; exact h2

def World.setObj (w : World) (r : Nat) (x : Obj) : World := { w with heap := w.heap.setIfInBounds r x }

theorem Base.setObj {r : Nat} {x y : Obj} (hx : notCells x = true) (hy : w.heap[r]? = some y) (hy' : notCells y = true) (b : Base B w) :
    Base B (World.setObj w r x) := by
  refine ⟨b.os, b.output, by simpa [World.setObj] using b.size, fun a ha => ?_, fun i c' t' fr h => ?_⟩
  · rw [← b.frozen a ha]
    by_cases h : r = a.block
    · subst h
      have hl : a.block < w.heap.size := by
        rcases Nat.lt_or_ge a.block w.heap.size with h' | h'
        · exact h'
        · simp [Array.getElem?_eq_none h'] at hy
      simp only [World.frozen?, World.setObj, Array.getElem?_setIfInBounds, if_true, hl, hy]
      cases x <;> cases y <;> simp_all [notCells]
    · simp only [World.frozen?, World.setObj, Array.getElem?_setIfInBounds, h, if_false]
  · obtain ⟨c2, h2, hs⟩ := b.cells i c' t' fr h
    refine ⟨c2, ?_, hs⟩
    by_cases hr : r = i
    · subst hr; rw [hy] at h2; cases h2; simp [notCells] at hy'
    · simp only [World.setObj, Array.getElem?_setIfInBounds, hr, if_false]; exact h2

/-- The owner of a row of cells stores one of them. -/
theorem sat.set {r o i : Nat} {vs : List Value} {v : Value} (s : sat B (cells true r o vs :: L) w) (hi : i < vs.length) :
    sat B (cells true r o (vs.set i v) :: L) (w.setCell ⟨r, o + i, none⟩ v) := by
  obtain ⟨b, h, ⟨h₁, h₂, c, rfl, a, l⟩, hr⟩ := s
  obtain ⟨u, hu⟩ : ∃ u, vs[i]? = some u := ⟨vs[i], by simp [hi]⟩
  have hmine := a i u hu
  have hcell := (hr _ _ _ (show join h₁ h₂ (.cell r (o + i)) = some (true, .cell u) by unfold join; rw [hmine])).1
  have hother : h₂ (.cell r (o + i)) = none := by
    rcases c (.cell r (o + i)) with h | h | ⟨h, x, hx⟩
    · rw [hmine] at h; exact absurd h (by simp)
    · exact h
    · rw [hmine] at hx; exact absurd hx (by simp)
  refine ⟨b.setCell, join (fun k => if k = .cell r (o + i) then some (true, .cell v) else h₁ k) h₂, ⟨_, h₂, ?_, rfl, ?_, l⟩, ?_⟩
  · intro k
    by_cases hk : k = .cell r (o + i)
    · subst hk; exact .inr (.inl hother)
    · simpa [hk] using c k
  · intro j u' hj
    by_cases hji : j = i
    · subst hji
      rw [List.getElem?_set_self hi] at hj
      cases hj
      simp
    · rw [List.getElem?_set_ne (by omega)] at hj
      have hne : (Key.cell r (o + j)) ≠ Key.cell r (o + i) := by
        intro e; injection e with e1 e2; omega
      simp only [hne, if_false]
      exact a j u' hj
  · intro k bb x hk
    unfold join at hk
    by_cases hke : k = .cell r (o + i)
    · subst hke
      simp only [if_true] at hk
      cases hk
      refine ⟨World.cell?_setCell_same w ⟨r, o + i, none⟩ v hcell, fun _ => ?_⟩
      rw [World.frozen?_setCell]
      exact (hr _ _ _ (show join h₁ h₂ (.cell r (o + i)) = some (true, .cell u) by unfold join; rw [hmine])).2 rfl
    · simp only [hke, if_false] at hk
      have hold := hr k bb x (by unfold join; exact hk)
      cases k with
      | cell r' o' =>
        cases x with
        | cell x =>
          refine ⟨?_, fun hb => ?_⟩
          · rw [World.cell?_setCell_other w ⟨r, o + i, none⟩ ⟨r', o', none⟩ v (by
              intro e; injection e with e1 e2; exact hke (by rw [e1, e2]))]
            exact hold.1
          · rw [World.frozen?_setCell]; exact hold.2 hb
        | obj x => exact hold.elim
      | obj r' =>
        cases x with
        | cell x => exact hold.elim
        | obj x =>
          refine ⟨?_, hold.2⟩
          have hne : r ≠ r' := by
            intro e
            subst e
            have h1 := hold.1
            unfold World.cell? at hcell
            rw [h1] at hcell
            have h2 := hold.2
            cases x <;> simp_all [notCells]
          simp only [World.setCell, Array.getElem?_modify, hne, if_false]
          exact hold.1

theorem okAt_lt {k : Key} {b : Bool} {x : Res} (h : okAt w k b x) : (match k with | .cell r _ => r | .obj r => r) < w.heap.size := by
  cases k with
  | cell r o =>
    cases x with
    | cell v => exact World.block_lt_of_cell? w ⟨r, o, none⟩ h.1
    | obj v => exact h.elim
  | obj r =>
    cases x with
    | cell v => exact h.elim
    | obj v =>
      rcases Nat.lt_or_ge r w.heap.size with h' | h'
      · exact h'
      · have := h.1; simp [Array.getElem?_eq_none h'] at this

theorem okAt_alloc {k : Key} {b : Bool} {x : Res} {y : Obj} (h : okAt w k b x) : okAt (w.alloc y) k b x := by
  have hl := okAt_lt h
  cases k with
  | cell r o =>
    cases x with
    | cell v =>
      refine ⟨?_, fun hb => ?_⟩
      · rw [World.cell?_alloc_lt w y ⟨r, o, none⟩ hl]; exact h.1
      · rw [World.frozen?_alloc_old w y ⟨r, o, none⟩ (Nat.ne_of_lt hl)]; exact h.2 hb
    | obj v => exact h.elim
  | obj r =>
    cases x with
    | cell v => exact h.elim
    | obj v =>
      refine ⟨?_, h.2⟩
      simp only [World.alloc, Array.getElem?_push]
      rw [if_neg (Nat.ne_of_lt hl)]; exact h.1

/-- New memory belongs to who made it. -/
theorem sat.alloc_cells {c : Array Value} {t : TypeId} (s : sat B L w) : sat B (cells true w.heap.size 0 c.toList :: L) (w.alloc (.cells c t)) := by
  obtain ⟨b, h, hs, hr⟩ := s
  have hfresh : ∀ o, h (.cell w.heap.size o) = none := fun o => by
    cases hk : h (.cell w.heap.size o) with
    | none => rfl
    | some y => exact absurd (okAt_lt (hr _ y.1 y.2 hk)) (by simp)
  refine ⟨b.alloc_cells, join (fun k => match k with | .cell r o => if r = w.heap.size then (c.toList[o]?).map fun v => (true, .cell v) else none | _ => none) h,
    ⟨_, h, ?_, rfl, ?_, hs⟩, ?_⟩
  · intro k
    cases k with
    | cell r o =>
      by_cases hr' : r = w.heap.size
      · subst hr'; exact .inr (.inl (hfresh o))
      · exact .inl (by simp [hr'])
    | obj r => exact .inl rfl
  · intro i v hi
    simp only [Nat.zero_add, if_true, hi, Option.map_some]
  · intro k bb x hk
    unfold join at hk
    cases k with
    | cell r o =>
      by_cases hr' : r = w.heap.size
      · subst hr'
        simp only [if_true] at hk
        cases hc : c.toList[o]? with
        | none =>
          rw [hc] at hk
          simp only [Option.map_none] at hk
          rw [hfresh o] at hk
          exact absurd hk (by simp)
        | some v =>
          rw [hc] at hk
          simp only [Option.map_some] at hk
          cases hk
          exact ⟨by rw [World.cell?_alloc_new]; simpa using hc, fun _ => World.frozen?_alloc_new w c t o⟩
      · simp only [hr', if_false] at hk
        exact okAt_alloc (hr _ _ _ hk)
    | obj r => exact okAt_alloc (hr _ _ _ hk)

theorem sat.alloc_obj {x : Obj} (hx : notCells x = true) (s : sat B L w) : sat B (object true w.heap.size x :: L) (w.alloc x) := by
  obtain ⟨b, h, hs, hr⟩ := s
  have hfresh : h (.obj w.heap.size) = none := by
    cases hk : h (.obj w.heap.size) with
    | none => rfl
    | some y => exact absurd (okAt_lt (hr _ y.1 y.2 hk)) (by simp)
  refine ⟨b.alloc_obj hx, join (fun k => if k = .obj w.heap.size then some (true, .obj x) else none) h, ⟨_, h, ?_, rfl, ⟨by simp, hx⟩, hs⟩, ?_⟩
  · intro k
    by_cases hk : k = .obj w.heap.size
    · subst hk; exact .inr (.inl hfresh)
    · exact .inl (by simp [hk])
  · intro k bb y hk
    unfold join at hk
    by_cases hke : k = .obj w.heap.size
    · subst hke
      simp only [if_true] at hk
      cases hk
      exact ⟨by unfold World.alloc; simp, hx⟩
    · simp only [hke, if_false] at hk
      exact okAt_alloc (hr _ _ _ hk)

theorem sat.setObj {r : Nat} {x y : Obj} (hy : notCells y = true) (s : sat B (object true r x :: L) w) : sat B (object true r y :: L) (World.setObj w r y) := by
  obtain ⟨b, h, ⟨h₁, h₂, c, rfl, a, l⟩, hr⟩ := s
  have hold := hr _ _ _ (show join h₁ h₂ (.obj r) = some (true, .obj x) by unfold join; rw [a.1])
  have hlt : r < w.heap.size := okAt_lt (k := .obj r) hold
  have hother : h₂ (.obj r) = none := by
    rcases c (.obj r) with h | h | ⟨h, z, hz⟩
    · rw [a.1] at h; exact absurd h (by simp)
    · exact h
    · rw [a.1] at hz; exact absurd hz (by simp)
  refine ⟨b.setObj hy hold.1 a.2, join (fun k => if k = .obj r then some (true, .obj y) else h₁ k) h₂, ⟨_, h₂, ?_, rfl, ⟨by simp, hy⟩, l⟩, ?_⟩
  · intro k
    by_cases hk : k = .obj r
    · subst hk; exact .inr (.inl hother)
    · simpa [hk] using c k
  · intro k bb z hk
    unfold join at hk
    by_cases hke : k = .obj r
    · subst hke
      simp only [if_true] at hk
      cases hk
      exact ⟨by simp [World.setObj, hlt], hy⟩
    · simp only [hke, if_false] at hk
      have hz := hr k bb z (by unfold join; exact hk)
      cases k with
      | cell r' o' =>
        cases z with
        | cell v =>
          have hne : r ≠ r' := by
            intro e
            subst e
            have h1 := hz.1
            unfold World.cell? at h1
            rw [hold.1] at h1
            have h2 := a.2
            cases x <;> simp_all [notCells]
          have e : (World.setObj w r y).heap[r']? = w.heap[r']? := by simp [World.setObj, Array.getElem?_setIfInBounds, hne]
          refine ⟨?_, fun hb => ?_⟩
          · have h1 := hz.1; unfold World.cell? at h1 ⊢; rw [e]; exact h1
          · have h1 := hz.2 hb; unfold World.frozen? at h1 ⊢; rw [e]; exact h1
        | obj v => exact hz.elim
      | obj r' =>
        cases z with
        | cell v => exact hz.elim
        | obj v =>
          have hne : r ≠ r' := fun e => hke (by rw [e])
          exact ⟨by simp only [World.setObj, Array.getElem?_setIfInBounds, hne, if_false]; exact hz.1, hz.2⟩
end
end Go.SL
namespace Go.SL

abbrev Env := Nat → Value
def upd (env : Env) (d : Nat) (v : Value) : Env := fun t => bif Nat.beq t d then v else env t
def updo (env : Env) : Option Nat → Value → Env
  | some d, v => upd env d v
  | none, _ => env
def ev (env : Env) : Operand → Value
  | .tmp t => env t
  | .const v => v
  | .global g => .pointer (some ⟨g, 0, none⟩)
  | .func f => .func (.func f) #[] #[]

structure rel (n : Nat) (a : Act) (env : Env) : Prop where
  defers : a.defers = []
  size : a.tmps.size = n
  tmps : ∀ t, a.tmps.getD t undef = env t

theorem rel.eval {n : Nat} {a : Act} {env : Env} (h : rel n a env) : a.eval = ev env := by
  funext x
  cases x with
  | tmp t => exact h.tmps t
  | _ => rfl

theorem upd_eq (env : Env) (d t : Nat) (v : Value) : upd env d v t = if t = d then v else env t := by
  unfold upd
  cases h : Nat.beq t d with
  | true => rw [if_pos (Nat.eq_of_beq_eq_true h)]; rfl
  | false => rw [if_neg (Nat.ne_of_beq_eq_false h)]; rfl

theorem rel.put {n : Nat} {a : Act} {env : Env} (h : rel n a env) {d : Nat} (hd : d < n) (v : Value) : rel n (a.put (some d) v) (upd env d v) := by
  refine ⟨h.defers, by simp [Act.put, h.size], fun t => ?_⟩
  rw [upd_eq]
  have hs : d < a.tmps.size := by rw [h.size]; exact hd
  by_cases e : t = d
  · subst e
    simp [Act.put, hs]
  · rw [if_neg e, ← h.tmps t]
    simp only [Act.put, Array.getD_eq_getD_getElem?]
    rw [Array.getElem?_setIfInBounds_ne (fun h => e h.symm)]

def okDst (n : Nat) (o : Oper) : Bool := match o.dst with | some d => Nat.blt d n | none => true

theorem rel.puto {n : Nat} {a : Act} {env : Env} (h : rel n a env) {o : Oper} (hd : okDst n o = true) (v : Value) : rel n (a.put o.dst v) (updo env o.dst v) := by
  unfold okDst at hd
  cases ho : o.dst with
  | none => exact h
  | some d => rw [ho] at hd; exact h.put (Nat.le_of_ble_eq_true hd) v

def yv (ops : Array Oper) (env : Env) (j : Nat) : Option Bool :=
  match (ops[j]?).bind (·.dst) with
  | some d => (match env d with | .bool b => some b | _ => none)
  | none => none

theorem rel.yielded {n : Nat} {a : Act} {env : Env} (h : rel n a env) (ops : Array Oper) (j : Nat) : yielded ops a.tmps j = yv ops env j := by
  unfold Go.yielded yv
  cases (ops[j]?).bind (·.dst) with
  | none => rfl
  | some d =>
    simp only [Option.bind_some, ← h.tmps d, Array.getD_eq_getD_getElem?]
    cases a.tmps[d]? with
    | none => rfl
    | some v => cases v <;> rfl

abbrev Kont := Env → List HProp → Prop
abbrev Post := Exit → Env → List HProp → Prop

def okCode (n : Nat) : Code → Bool
  | .region _ ops _ => ops.toList.all (okDst n)
  | .seq a b => okCode n a && okCode n b
  | .cond _ a b => okCode n a && okCode n b
  | .block _ c => okCode n c
  | .loop c => okCode n c
  | .scope c => okCode n c
  | .rangeFunc .. => false
  | _ => true

def lift (B : World) (n : Nat) (Q : Post) : Exit → Act → World → Prop := fun e a w => ∃ env L, rel n a env ∧ sat B L w ∧ Q e env L

def Sy (P : Program) (B : World) (n : Nat) (c : Code) (Q : Post) (env : Env) (L : List HProp) : Prop :=
  okCode n c = true → ∀ a w, rel n a env → sat B L w → c.wp P (lift B n Q) a w

def onlyNormal (K : Kont) : Post := fun e env L => e = .normal ∧ K env L

/-- A list of operations, one behind the other. -/
def SyO (P : Program) (B : World) (n : Nat) (ops : Array Oper) (l : List Oper) (K : Kont) (env : Env) (L : List HProp) : Prop :=
  l.all (okDst n) = true → ∀ a w, rel n a env → sat B L w → wpList P ops (lift B n (onlyNormal K)) l a w

def thenQ (K : Kont) (Q : Post) : Post := fun e env L => match e with | .normal => K env L | e => Q e env L
def blockQ (id : Nat) (Q : Post) : Post := fun e env L => match e with | .exit i => if i = id then Q .normal env L else Q (.exit i) env L | e => Q e env L

section rules
variable {P : Program} {B : World} {n : Nat} {Q : Post} {K : Kont} {env : Env} {L : List HProp}

theorem Sy_seq {a b : Code} (h : Sy P B n a (thenQ (fun env L => Sy P B n b Q env L) Q) env L) : Sy P B n (.seq a b) Q env L := by
  intro ok act w hr hs
  simp only [okCode, Bool.and_eq_true] at ok
  refine wp_seq (wp_mono (h ok.1 act w hr hs) ?_)
  rintro e a' w' ⟨env', L', hr', hs', hq⟩
  cases e with
  | normal => exact hq ok.2 a' w' hr' hs'
  | _ => exact ⟨env', L', hr', hs', hq⟩

class BoolP (b : Bool) (φ : outParam Prop) : Prop where iff : b = true ↔ φ
instance (priority := low) boolP_any (b : Bool) : BoolP b (b = true) := ⟨Iff.rfl⟩
instance boolP_decide (φ : Prop) [Decidable φ] : BoolP (decide φ) φ := ⟨decide_eq_true_iff⟩
instance boolP_not (b : Bool) (φ : Prop) [h : BoolP b φ] : BoolP (!b) (¬ φ) := ⟨by rw [← h.iff]; cases b <;> simp⟩
theorem Sy_cond {c : Operand} {x y : Code} {b : Bool} {φ : Prop} (hv : ev env c = .bool b) [hb : BoolP b φ] (ht : φ → Sy P B n x Q env L) (hf : ¬ φ → Sy P B n y Q env L) :
    Sy P B n (.cond c x y) Q env L := by
  intro ok act w hr hs
  simp only [okCode, Bool.and_eq_true] at ok
  refine wp_cond_split (t := b) (by rw [hr.eval]; exact hv) (fun h => ht (hb.iff.1 h) ok.1 act w hr hs) (fun h => hf (fun p => ?_) ok.2 act w hr hs)
  rw [hb.iff.2 p] at h; cases h

theorem Sy_condT {c : Operand} {x y : Code} (hv : ev env c = .bool true) (h : Sy P B n x Q env L) : Sy P B n (.cond c x y) Q env L := by
  intro ok act w hr hs
  simp only [okCode, Bool.and_eq_true] at ok
  exact wp_cond_true (by rw [hr.eval]; exact hv) (h ok.1 act w hr hs)

theorem Sy_condF {c : Operand} {x y : Code} (hv : ev env c = .bool false) (h : Sy P B n y Q env L) : Sy P B n (.cond c x y) Q env L := by
  intro ok act w hr hs
  simp only [okCode, Bool.and_eq_true] at ok
  exact wp_cond_false (by rw [hr.eval]; exact hv) (h ok.2 act w hr hs)

theorem Sy_block {id : Nat} {c : Code} (h : Sy P B n c (blockQ id Q) env L) : Sy P B n (.block id c) Q env L := by
  intro ok act w hr hs
  refine wp_block (wp_mono (h ok act w hr hs) ?_)
  rintro e a' w' ⟨env', L', hr', hs', hq⟩
  cases e with
  | exit i =>
    simp only [Exit.inBlock]
    simp only [blockQ] at hq
    split
    · rename_i h; rw [if_pos h] at hq; exact ⟨env', L', hr', hs', hq⟩
    · rename_i h; rw [if_neg h] at hq; exact ⟨env', L', hr', hs', hq⟩
  | _ => exact ⟨env', L', hr', hs', hq⟩

theorem Sy_skip (h : Q .normal env L) : Sy P B n .skip Q env L := fun _ _ _ hr hs => wp_skip ⟨env, L, hr, hs, h⟩
theorem Sy_label {l : Nat} (h : Q .normal env L) : Sy P B n (.label l) Q env L := fun _ _ _ hr hs => wp_label ⟨env, L, hr, hs, h⟩
theorem Sy_exit {id : Nat} (h : Q (.exit id) env L) : Sy P B n (.exit id) Q env L := fun _ _ _ hr hs => wp_exit ⟨env, L, hr, hs, h⟩
theorem Sy_ret (h : Q .ret env L) : Sy P B n .ret Q env L := fun _ _ _ hr hs => wp_ret ⟨env, L, hr, hs, h⟩

theorem Sy_region {id : Nat} {ops : Array Oper} (h : SyO P B n ops ops.toList (fun env L => Q .normal env L) env L) : Sy P B n (.region id ops false) Q env L := by
  intro ok act w hr hs
  refine wp_mono (wp_region_list (h ok act w hr hs)) ?_
  rintro e a' w' ⟨env', L', hr', hs', he, hq⟩
  subst he
  exact ⟨env', L', hr', hs', hq⟩

theorem Sy_region' {id : Nat} {l : List Oper} (h : SyO P B n l.toArray l (fun env L => Q .normal env L) env L) : Sy P B n (.region id l.toArray false) Q env L :=
  Sy_region h

/-- The state may be said in other words. -/
theorem Sy_state {c : Code} {env' : Env} {L' : List HProp} (h : Sy P B n c Q env' L') (he : ∀ t, env t = env' t) (hL : ∀ w, sat B L w → sat B L' w) : Sy P B n c Q env L :=
  fun ok act w hr hs => h ok act w ⟨hr.defers, hr.size, fun t => (hr.tmps t).trans (he t)⟩ (hL w hs)

theorem SyO_nil {ops : Array Oper} (h : K env L) : SyO P B n ops [] K env L := fun _ _ _ hr hs => wpList_nil ⟨env, L, hr, hs, rfl, h⟩

theorem SyO_state {ops : Array Oper} {l : List Oper} {env' : Env} {L' : List HProp} (h : SyO P B n ops l K env' L') (he : ∀ t, env t = env' t) (hL : ∀ w, sat B L w → sat B L' w) :
    SyO P B n ops l K env L :=
  fun ok act w hr hs => h ok act w ⟨hr.defers, hr.size, fun t => (hr.tmps t).trans (he t)⟩ (hL w hs)

/-- What one operation comes to. -/
def Ex (P : Program) (B : World) (o : Oper) (env : Env) (L : List HProp) (K : Value → List HProp → Prop) : Prop :=
  ∀ w, sat B L w →
    (∃ v w' L', (execOp (ev env) o).run P w = .ok (.value v) w' ∧ sat B L' w' ∧ K v L') ∨
    (∃ w' L', (execOp (ev env) o).run P w = .ok .skip w' ∧ sat B L' w' ∧ K undef L') ∨
    (∃ f args w', (execOp (ev env) o).run P w = .ok (.enter f args) w' ∧
      Calls P f args w' fun e w'' => ∃ v L', e = .returned v ∧ sat B L' w'' ∧ K v L')

theorem Ex.mono {o : Oper} {K K' : Value → List HProp → Prop} (h : Ex P B o env L K) (hk : ∀ v L, K v L → K' v L) : Ex P B o env L K' := by
  intro w hs
  rcases h w hs with ⟨v, w', L', h1, h2, h3⟩ | ⟨w', L', h1, h2, h3⟩ | ⟨f, args, w', h1, h2⟩
  · exact .inl ⟨v, w', L', h1, h2, hk _ _ h3⟩
  · exact .inr (.inl ⟨w', L', h1, h2, hk _ _ h3⟩)
  · exact .inr (.inr ⟨f, args, w', h1, h2.mono fun e w'' ⟨v, L', h3, h4, h5⟩ => ⟨v, L', h3, h4, hk _ _ h5⟩⟩)

/-- An operation's outcome, handed to whatever comes behind it. -/
theorem Ex.wp {o : Oper} {K : Value → List HProp → Prop} (h : Ex P B o env L K) {a : Act} {w : World} (hr : rel n a env) (hs : sat B L w)
    {next : Act → World → Prop} {R : Exit → Act → World → Prop}
    (hn : ∀ v L' w', K v L' → sat B L' w' → next (a.put o.dst v) w') : o.wp P a w next R := by
  unfold Oper.wp
  rw [hr.eval]
  rcases h w hs with ⟨v, w', L', h1, h2, h3⟩ | ⟨w', L', h1, h2, h3⟩ | ⟨f, args, w', h1, h2⟩
  · rw [h1, Oper.upon_value]; exact hn v L' w' h3 h2
  · rw [h1, Oper.upon_skip]; exact hn undef L' w' h3 h2
  · rw [h1, Oper.upon_enter]
    refine h2.mono ?_
    rintro e w'' ⟨v, L', rfl, h4, h5⟩
    exact hn v L' w'' h5 h4

theorem SyO_cons {ops : Array Oper} {o : Oper} {rest : List Oper} (hg : o.guard = none)
    (h : Ex P B o env L fun v L' => SyO P B n ops rest K (updo env o.dst v) L') : SyO P B n ops (o :: rest) K env L := by
  intro ok act w hr hs
  simp only [List.all_cons, Bool.and_eq_true] at ok
  refine wpList_plain hg fun K' hK => ?_
  exact h.wp hr hs fun v L' w' hk hs' => hK _ _ (hk ok.2 _ _ (hr.puto ok.1 v) hs')

theorem SyO_wanted {ops : Array Oper} {o : Oper} {rest : List Oper} (hw : Region.wanted o (yv ops env) = true)
    (h : Ex P B o env L fun v L' => SyO P B n ops rest K (updo env o.dst v) L') : SyO P B n ops (o :: rest) K env L := by
  intro ok act w hr hs
  simp only [List.all_cons, Bool.and_eq_true] at ok
  refine wpList_step fun K' hK => ?_
  have e : yielded ops act.tmps = yv ops env := funext (hr.yielded ops)
  rw [e, if_pos hw]
  exact h.wp hr hs fun v L' w' hk hs' => hK _ _ (hk ok.2 _ _ (hr.puto ok.1 v) hs')

theorem SyO_unwanted {ops : Array Oper} {o : Oper} {rest : List Oper} (hw : Region.wanted o (yv ops env) = false)
    (h : SyO P B n ops rest K (updo env o.dst undef) L) : SyO P B n ops (o :: rest) K env L := by
  intro ok act w hr hs
  simp only [List.all_cons, Bool.and_eq_true] at ok
  refine wpList_step fun K' hK => ?_
  have e : yielded ops act.tmps = yv ops env := funext (hr.yielded ops)
  rw [e, if_neg (by rw [hw]; simp)]
  exact hK _ _ (h ok.2 _ _ (hr.puto ok.1 undef) hs)

/-- Which rule runs an operation, and what it asks. -/
class Exec (P : Program) (op : Op) (ty : TypeId) (env : Env) (L : List HProp) (G : outParam ((Value → List HProp → Prop) → Prop)) : Prop where
  ex : ∀ B dst pos after guard (K : Value → List HProp → Prop), G K → Ex P B ⟨dst, op, ty, pos, after, guard⟩ env L K

theorem step {ops : Array Oper} {d : Nat} {op : Op} {ty : TypeId} {pos : String} {after : Array Edge} {rest : List Oper} {G : (Value → List HProp → Prop) → Prop}
    [e : Exec P op ty env L G] (h : G fun v L' => SyO P B n ops rest K (upd env d v) L') : SyO P B n ops (⟨some d, op, ty, pos, after, none⟩ :: rest) K env L :=
  SyO_cons rfl (e.ex B (some d) pos after none _ h)

theorem step0 {ops : Array Oper} {op : Op} {ty : TypeId} {pos : String} {after : Array Edge} {rest : List Oper} {G : (Value → List HProp → Prop) → Prop}
    [e : Exec P op ty env L G] (h : G fun _ L' => SyO P B n ops rest K env L') : SyO P B n ops (⟨none, op, ty, pos, after, none⟩ :: rest) K env L :=
  SyO_cons rfl (e.ex B none pos after none _ h)

theorem stepW {ops : Array Oper} {d j : Nat} {want : Bool} {op : Op} {ty : TypeId} {pos : String} {after : Array Edge} {rest : List Oper} {G : (Value → List HProp → Prop) → Prop}
    (hw : yv ops env j = some want) [e : Exec P op ty env L G] (h : G fun v L' => SyO P B n ops rest K (upd env d v) L') :
    SyO P B n ops (⟨some d, op, ty, pos, after, some (j, want)⟩ :: rest) K env L :=
  SyO_wanted (by simp [Region.wanted, hw]) (e.ex B (some d) pos after _ _ h)

theorem stepU {ops : Array Oper} {d j : Nat} {want : Bool} {op : Op} {ty : TypeId} {pos : String} {after : Array Edge} {rest : List Oper}
    (hw : yv ops env j = some (!want) ∨ yv ops env j = none) (h : SyO P B n ops rest K (upd env d undef) L) :
    SyO P B n ops (⟨some d, op, ty, pos, after, some (j, want)⟩ :: rest) K env L :=
  SyO_unwanted (by rcases hw with hw | hw <;> simp [Region.wanted, hw]) h
end rules

/-- Called with these arguments in whatever memory holds 'pre', the function returns a value with what 'post' says of it; all else stays. -/
def Spec (P : Program) (f : FuncId) (args : Array Value) (pre : List HProp) (post : Value → List HProp → Prop) : Prop :=
  ∀ B F w, sat B (pre ++ F) w → Calls P f args w fun e w' => ∃ v L, e = .returned v ∧ post v L ∧ sat B (L ++ F) w'

/-- What is at the head of the frame when a function begins. -/
def envOf : Nat → List Value → Env
  | _, [] => fun _ => undef
  | i, v :: vs => upd (envOf (i + 1) vs) i v

theorem envOf_get : ∀ (l : List Value) (i t : Nat), envOf i l t = if i ≤ t then (l[t - i]?).getD undef else undef
  | [], i, t => by simp [envOf]
  | v :: vs, i, t => by
    rw [envOf, upd_eq, envOf_get vs (i + 1) t]
    by_cases h : t = i
    · subst h; simp
    · rw [if_neg h]
      by_cases hl : i ≤ t
      · have h1 : i + 1 ≤ t := by omega
        have h2 : t - i = (t - (i + 1)) + 1 := by omega
        rw [if_pos h1, if_pos hl, h2]; simp
      · rw [if_neg (by omega), if_neg hl]

/-- The results of a function, out of its frame. -/
def resOf (P : Program) (B : World) (L : List HProp) (fn : Func) (env : Env) (v : Value) : Prop :=
  ∀ (w : World) (a : Act), rel fn.ntmps a env → sat B L w → (results fn a.tmps).run P w = .ok v w

def endQ (P : Program) (fn : Func) (post : Value → List HProp → Prop) (B : World) (F : List HProp) : Post := fun e env L =>
  (e = .normal ∨ e = .ret) ∧ ∃ v M, resOf P B L fn env v ∧ post v M ∧ ∀ w, sat B L w → sat B (M ++ F) w

theorem Spec.of_body {P : Program} {f : FuncId} {fn : Func} {c : Code} {args : List Value} {pre : List HProp} {post : Value → List HProp → Prop}
    (hf : P.funcs[f]? = some fn) (hb : fn.body = some c) (hn : args.length ≤ fn.ntmps) (ok : okCode fn.ntmps c = true)
    (h : ∀ B F, Sy P B fn.ntmps c (endQ P fn post B F) (envOf 0 args) (pre ++ F)) : Spec P f args.toArray pre post := by
  intro B F w hs
  refine calls_of_wp hf hb ?_
  refine wp_mono (h B F ok _ w ?_ hs) ?_
  · refine ⟨rfl, by simp; omega, fun t => ?_⟩
    rw [envOf_get]
    simp only [Nat.zero_le, if_true, Nat.sub_zero, Array.getD_eq_getD_getElem?, List.size_toArray]
    by_cases ht : t < args.length
    · rw [Array.getElem?_append_left (by simpa using ht)]; simp
    · rw [Array.getElem?_append_right (by simp; omega)]
      rw [List.getElem?_eq_none (by omega)]
      simp only [List.size_toArray]
      rw [Array.getElem?_replicate]
      split <;> rfl
  · rintro e a w' ⟨env, L, hr, hs', he, v, M, hv, hp, hm⟩
    have done : a.defers = [] ∧ ∃ v', (results fn a.tmps).run P w' = .ok v' w' ∧ ∃ v'' L', Ending.returned v' = .returned v'' ∧ post v'' L' ∧ sat B (L' ++ F) w' :=
      ⟨hr.defers, v, hv w' a hr hs', v, M, rfl, hp, hm w' hs'⟩
    rcases he with rfl | rfl
    · exact done
    · exact done

abbrev nilEnv : Env := fun _ => undef

section enter
variable {P : Program} {f : FuncId} {fn : Func} {c : Code} {pre : List HProp} {post : Value → List HProp → Prop} {a0 a1 a2 a3 a4 a5 a6 a7 : Value}
theorem enter0 (hf : P.funcs[f]? = some fn) (hb : fn.body = some c) (ok : okCode fn.ntmps c = true)
    (h : ∀ B F, Sy P B fn.ntmps c (endQ P fn post B F) nilEnv (pre ++ F)) : Spec P f #[] pre post :=
  Spec.of_body (args := []) hf hb (Nat.zero_le _) ok h
theorem enter1 (hf : P.funcs[f]? = some fn) (hb : fn.body = some c) (hn : Nat.ble 1 fn.ntmps = true) (ok : okCode fn.ntmps c = true)
    (h : ∀ B F, Sy P B fn.ntmps c (endQ P fn post B F) (upd nilEnv 0 a0) (pre ++ F)) : Spec P f #[a0] pre post :=
  Spec.of_body (args := [a0]) hf hb (Nat.le_of_ble_eq_true hn) ok h
theorem enter2 (hf : P.funcs[f]? = some fn) (hb : fn.body = some c) (hn : Nat.ble 2 fn.ntmps = true) (ok : okCode fn.ntmps c = true)
    (h : ∀ B F, Sy P B fn.ntmps c (endQ P fn post B F) (upd (upd nilEnv 1 a1) 0 a0) (pre ++ F)) : Spec P f #[a0, a1] pre post :=
  Spec.of_body (args := [a0, a1]) hf hb (Nat.le_of_ble_eq_true hn) ok h
theorem enter3 (hf : P.funcs[f]? = some fn) (hb : fn.body = some c) (hn : Nat.ble 3 fn.ntmps = true) (ok : okCode fn.ntmps c = true)
    (h : ∀ B F, Sy P B fn.ntmps c (endQ P fn post B F) (upd (upd (upd nilEnv 2 a2) 1 a1) 0 a0) (pre ++ F)) : Spec P f #[a0, a1, a2] pre post :=
  Spec.of_body (args := [a0, a1, a2]) hf hb (Nat.le_of_ble_eq_true hn) ok h
theorem enter4 (hf : P.funcs[f]? = some fn) (hb : fn.body = some c) (hn : Nat.ble 4 fn.ntmps = true) (ok : okCode fn.ntmps c = true)
    (h : ∀ B F, Sy P B fn.ntmps c (endQ P fn post B F) (upd (upd (upd (upd nilEnv 3 a3) 2 a2) 1 a1) 0 a0) (pre ++ F)) : Spec P f #[a0, a1, a2, a3] pre post :=
  Spec.of_body (args := [a0, a1, a2, a3]) hf hb (Nat.le_of_ble_eq_true hn) ok h
theorem enter5 (hf : P.funcs[f]? = some fn) (hb : fn.body = some c) (hn : Nat.ble 5 fn.ntmps = true) (ok : okCode fn.ntmps c = true)
    (h : ∀ B F, Sy P B fn.ntmps c (endQ P fn post B F) (upd (upd (upd (upd (upd nilEnv 4 a4) 3 a3) 2 a2) 1 a1) 0 a0) (pre ++ F)) : Spec P f #[a0, a1, a2, a3, a4] pre post :=
  Spec.of_body (args := [a0, a1, a2, a3, a4]) hf hb (Nat.le_of_ble_eq_true hn) ok h
end enter

theorem resOf_one {P : Program} {B : World} {L : List HProp} {fn : Func} {env : Env} {t : Nat} {v : Value} (h : fn.results = #[.tmp t]) (hv : env t = v) : resOf P B L fn env v := by
  intro w a hr _
  rw [results_tmp h, hr.tmps, hv]

theorem resOf_none {P : Program} {B : World} {L : List HProp} {fn : Func} {env : Env} (h : fn.results = #[]) : resOf P B L fn env (.tuple #[]) := by
  intro w a _ _
  rw [results_none h]

theorem resOf_two {P : Program} {B : World} {L : List HProp} {fn : Func} {env : Env} {t u : Nat} {v x : Value} (h : fn.results = #[.tmp t, .tmp u]) (hv : env t = v) (hx : env u = x) : resOf P B L fn env (.tuple #[v, x]) := by
  intro w a hr _
  rw [results_tmp2 h, hr.tmps, hr.tmps, hv, hx]

/-- A call, to be met by a contract. -/
def CallG (P : Program) (f : FuncId) (args : Array Value) (L : List HProp) (K : Value → List HProp → Prop) : Prop :=
  ∀ B w, sat B L w → Calls P f args w fun e w' => ∃ v L', e = .returned v ∧ sat B L' w' ∧ K v L'

/-- 'A' stands in the list; the rest is R. -/
class Pick (A : HProp) (L : List HProp) (R : outParam (List HProp)) : Prop where perm : L.Perm (A :: R)
instance (priority := high) pick_here (A : HProp) (L : List HProp) : Pick A (A :: L) L := ⟨.refl _⟩
instance pick_next (A C : HProp) (L R : List HProp) [h : Pick A L R] : Pick A (C :: L) (C :: R) :=
  ⟨(List.Perm.cons C h.perm).trans (.swap _ _ _)⟩

/-- Words that say only of what is never written again. -/
class Shared (A : HProp) : Prop where dup : ∀ (B : World) (L : List HProp) (w : World), sat B (A :: L) w → sat B (A :: A :: L) w

/-- All of 'As' stand in the list (what is shared stays); the rest is R. -/
class Picks (As L : List HProp) (R : outParam (List HProp)) : Prop where out : ∀ B X w, sat B (L ++ X) w → sat B (As ++ R ++ X) w
instance picks_nil (L : List HProp) : Picks [] L L := ⟨fun _ _ _ h => h⟩

theorem move_front (A : HProp) (As R X : List HProp) : (As ++ R ++ A :: X).Perm (A :: As ++ R ++ X) := by
  have := @List.perm_middle _ A (As ++ R) X
  simpa using this

instance (priority := high) picks_shared (A : HProp) (As L L' R : List HProp) [s : Shared A] [p : Pick A L L'] [q : Picks As L R] : Picks (A :: As) L R :=
  ⟨fun B X w h => by
    have h1 : sat B (A :: (L' ++ X)) w := h.perm (List.Perm.append_right X p.perm)
    have h2 : sat B (L ++ A :: X) w := by
      refine (s.dup B _ w h1).perm ?_
      have e : (A :: (L' ++ X)).Perm (L ++ X) := (List.Perm.append_right X p.perm).symm
      exact (List.Perm.cons A e).trans List.perm_middle.symm
    exact (q.out B (A :: X) w h2).perm (move_front A As R X)⟩
instance picks_own (A : HProp) (As L L' R : List HProp) [p : Pick A L L'] [q : Picks As L' R] : Picks (A :: As) L R :=
  ⟨fun B X w h => by
    have h1 : sat B (L' ++ A :: X) w := h.perm ((List.Perm.append_right X p.perm).trans List.perm_middle.symm)
    exact (q.out B (A :: X) w h1).perm (move_front A As R X)⟩

theorem CallG.use {P : Program} {f : FuncId} {args : Array Value} {L R pre : List HProp} {post : Value → List HProp → Prop} {K : Value → List HProp → Prop}
    (h : Spec P f args pre post) [p : Picks pre L R] (k : ∀ v M, post v M → K v (M ++ R)) : CallG P f args L K := by
  intro B w hs
  have h1 : sat B (pre ++ R) w := by simpa using p.out B [] w (by simpa using hs)
  refine (h B R w h1).mono ?_
  rintro e w' ⟨v, M, rfl, hp, hm⟩
  exact ⟨v, M ++ R, rfl, hm, k v M hp⟩

end Go.SL
namespace Go.SL

/-- A condition on numbers, then the rest. -/
structure Side (φ ψ : Prop) : Prop where
  side : φ
  rest : ψ
/-- Two ways. -/
structure Two (φ A C : Prop) : Prop where
  yes : φ → A
  no : ¬ φ → C
/-- For whatever x. -/
structure All {α : Type} (Φ : α → Prop) : Prop where
  all : ∀ x, Φ x

class SameB (b : Bool) (c : outParam Bool) : Prop where h : b = c
instance sameB_refl (b : Bool) : SameB b b := ⟨rfl⟩
class NotB (b : Bool) (c : outParam Bool) : Prop where h : (!b) = c
instance (priority := low) notB_any (b : Bool) : NotB b (!b) := ⟨rfl⟩
instance notB_true : NotB true false := ⟨rfl⟩
instance notB_false : NotB false true := ⟨rfl⟩

class Ev (env : Env) (t : Nat) (v : outParam Value) : Prop where h : env t = v
instance (priority := high) ev_hit (env : Env) (t : Nat) (v : Value) : Ev (upd env t v) t v := ⟨by rw [upd_eq, if_pos rfl]⟩
instance ev_miss (env : Env) (t d : Nat) (u v : Value) [n : SameB (Nat.beq t d) false] [e : Ev env t v] : Ev (upd env d u) t v :=
  ⟨by unfold upd; rw [n.h]; exact e.h⟩

class EvO (env : Env) (x : Operand) (v : outParam Value) : Prop where h : ev env x = v
instance evo_tmp (env : Env) (t : Nat) (v : Value) [e : Ev env t v] : EvO env (.tmp t) v := ⟨e.h⟩
instance evo_const (env : Env) (v : Value) : EvO env (.const v) v := ⟨rfl⟩
instance evo_func (env : Env) (f : FuncId) : EvO env (.func f) (.func (.func f) #[] #[]) := ⟨rfl⟩
class EvL (env : Env) (xs : List Operand) (vs : outParam (List Value)) : Prop where h : xs.map (ev env) = vs
instance evl_nil (env : Env) : EvL env [] [] := ⟨rfl⟩
instance evl_cons (env : Env) (x : Operand) (xs : List Operand) (v : Value) (vs : List Value) [e : EvO env x v] [es : EvL env xs vs] : EvL env (x :: xs) (v :: vs) :=
  ⟨by rw [List.map_cons, e.h, es.h]⟩

class TSize (P : Program) (t : TypeId) (k : outParam Nat) : Prop where h : ∀ w, (sizeOf t).run P w = .ok k w
class TAgg (P : Program) (t : TypeId) (b : outParam Bool) : Prop where h : ∀ w, (isAgg t).run P w = .ok b w
class TZero (P : Program) (t : TypeId) (v : outParam Value) : Prop where h : ∀ w, (zeroValue t).run P w = .ok v w
class TUnd (P : Program) (t : TypeId) (d : outParam TypeDesc) : Prop where h : P.underlying t = some d
class TFunc (P : Program) (f : FuncId) : Prop where h : ∀ args w, (callFunc f args).run P w = .ok (.enter f args) w
class TField (P : Program) (s : TypeId) (i : Nat) (off : outParam Nat) : Prop where
  h : ∀ w r o, (Instr.fieldAt s (.pointer (some ⟨r, o, none⟩)) i).run P w = .ok (.pointer (some ⟨r, o + off, none⟩)) w

theorem run_underlying_of {P : Program} {t : TypeId} {d : TypeDesc} (h : P.underlying t = some d) (w : World) : (underlying t).run P w = .ok d w := by
  simp [underlying, program, Sem.run, h]

theorem TUnd.run {P : Program} {t : TypeId} {d : TypeDesc} [h : TUnd P t d] (w : World) : (underlying t).run P w = .ok d w := run_underlying_of h.h w

theorem TField.mk' {P : Program} {s : TypeId} {i off : Nat} {fs : Array Field} {f : Field} {k : Nat} (hu : P.underlying s = some (.struct fs)) (hf : fs[i]? = some f)
    (hs : ∀ w, (sizeOf f.type).run P w = .ok k w) (hk : Nat.beq k 0 = false) (ho : f.offset = off) : TField P s i off := by
  refine ⟨fun w r o => ?_⟩
  subst ho
  have hk' : k ≠ 0 := Nat.ne_of_beq_eq_false hk
  simp [Instr.fieldAt, run_underlying_of hu, hf, Instr.sureAddr, fieldPlace, hs, hk', Addr.add_lit]

/-- Where a struct's fields lie, and how many cells each takes. -/
class TPlaces (P : Program) (t : TypeId) (ps : outParam (List (Nat × Nat))) : Prop where
  h : ∀ w, ∃ fs : Array Field, (underlying t).run P w = .ok (.struct fs) w ∧ (fs.mapM fun f => do pure (f.offset, ← sizeOf f.type) : Sem (Array (Nat × Nat))).run P w = .ok ps.toArray w

theorem TPlaces.mk' {P : Program} {t : TypeId} {fs : Array Field} {ps : List (Nat × Nat)} (hu : P.underlying t = some (.struct fs))
    (h : ∀ w, (fs.mapM fun f => do pure (f.offset, ← sizeOf f.type) : Sem (Array (Nat × Nat))).run P w = .ok ps.toArray w) : TPlaces P t ps :=
  ⟨fun w => ⟨fs, run_underlying_of hu w, h w⟩⟩

/-- The operation yields a value, whatever memory is. -/
class PExec (P : Program) (op : Op) (ty : TypeId) (env : Env) (v : outParam Value) : Prop where
  run : ∀ dst pos after guard w, (execOp (ev env) ⟨dst, op, ty, pos, after, guard⟩).run P w = .ok (.value v) w

instance (priority := high) exec_pure (P : Program) (op : Op) (ty : TypeId) (env : Env) (v : Value) (L : List HProp) [p : PExec P op ty env v] :
    Exec P op ty env L (fun K => K v L) :=
  ⟨fun _ dst pos after guard _ hk w hs => .inl ⟨v, w, L, p.run dst pos after guard w, hs, hk⟩⟩

section
variable {P : Program} {env : Env} {ty : TypeId} {L : List HProp}

instance pexec_move (x : Operand) (v : Value) [e : EvO env x v] : PExec P (.move x) ty env v := ⟨fun _ _ _ _ _ => by simp [execOp, e.h]⟩
instance pexec_assign (x : Operand) (v : Value) [e : EvO env x v] : PExec P (.assign x) ty env v := ⟨fun _ _ _ _ _ => by simp [execOp, e.h]⟩
instance pexec_pickT (c a b : Operand) (v : Value) [e : EvO env c (.bool true)] [f : EvO env a v] : PExec P (.pick c a b) ty env v := ⟨fun _ _ _ _ _ => by
  simp [execOp, e.h, f.h, asBool]⟩
instance pexec_pickF (c a b : Operand) (v : Value) [e : EvO env c (.bool false)] [f : EvO env b v] : PExec P (.pick c a b) ty env v := ⟨fun _ _ _ _ _ => by
  simp [execOp, e.h, f.h, asBool]⟩
instance pexec_nilCheck (x : Operand) (a : Addr) [e : EvO env x (.pointer (some a))] : PExec P (.nilCheck x) ty env (.pointer (some a)) := ⟨fun _ _ _ _ _ => by
  simp [execOp, e.h]⟩
instance (priority := high) pexec_field0 (s : TypeId) (x : Operand) (i r k : Nat) [e : EvO env x (.pointer (some ⟨r, 0, none⟩))] [f : TField P s i k] :
    PExec P (.fieldAddr s x i) ty env (.pointer (some ⟨r, k, none⟩)) := ⟨fun _ _ _ _ w => by
  have := f.h w r 0
  rw [Nat.zero_add] at this
  simp [execOp, e.h, this]⟩
instance pexec_field (s : TypeId) (x : Operand) (i r o k : Nat) [e : EvO env x (.pointer (some ⟨r, o, none⟩))] [f : TField P s i k] :
    PExec P (.fieldAddr s x i) ty env (.pointer (some ⟨r, o + k, none⟩)) := ⟨fun _ _ _ _ w => by simp [execOp, e.h, f.h w r o]⟩

class NthL (l : List Value) (i : Nat) (v : outParam Value) : Prop where h : l[i]? = some v
instance nth_zero (v : Value) (l : List Value) : NthL (v :: l) 0 v := ⟨rfl⟩
instance nth_succ (u v : Value) (l : List Value) (i : Nat) [h : NthL l i v] : NthL (u :: l) (i + 1) v := ⟨by simpa using h.h⟩

instance pexec_extract (x : Operand) (i : Nat) (l : List Value) (v : Value) [e : EvO env x (.tuple l.toArray)] [h : NthL l i v] : PExec P (.extract x i) ty env v := ⟨fun _ _ _ _ _ => by
  simp [execOp, e.h, Instr.extract, h.h]⟩

/-- Conditions on numbers that 'omega' meets. -/
abbrev I64 (n : Int) : Prop := -9223372036854775808 ≤ n ∧ n ≤ 9223372036854775807

theorem wrap_i64 {n : Int} (h : I64 n) : IntKind.i64.wrap n = n := by
  unfold IntKind.wrap
  have h1 : IntKind.i64.bits = 64 := rfl
  have h2 : IntKind.i64.signed = true := rfl
  simp only [h1, h2, if_true]
  obtain ⟨h3, h4⟩ := h
  simp only [Bool.true_and, decide_eq_true_eq, Nat.reduceSub, Int.reducePow]
  split <;> omega

/-- The operation yields a value under a condition on numbers. -/
class CExec (P : Program) (op : Op) (ty : TypeId) (env : Env) (φ : outParam Prop) (v : outParam Value) : Prop where
  run : ∀ dst pos after guard w, φ → (execOp (ev env) ⟨dst, op, ty, pos, after, guard⟩).run P w = .ok (.value v) w

instance exec_cond (P : Program) (op : Op) (ty : TypeId) (env : Env) (φ : Prop) (v : Value) (L : List HProp) [p : CExec P op ty env φ v] :
    Exec P op ty env L (fun K => Side φ (K v L)) :=
  ⟨fun _ dst pos after guard _ hk w hs => .inl ⟨v, w, L, p.run dst pos after guard w hk.side, hs, hk.rest⟩⟩

instance cexec_add (t u : TypeId) (x y : Operand) (a b : Int) [e : EvO env x (.int .i64 a)] [f : EvO env y (.int .i64 b)] :
    CExec P (.binOp .add t x y u) ty env (I64 (a + b)) (.int .i64 (a + b)) := ⟨fun _ _ _ _ _ h => by
  simp [execOp, e.h, f.h, binOp, eqGuard_add, Op.intArith, wrap_i64 h]⟩
instance cexec_sub (t u : TypeId) (x y : Operand) (a b : Int) [e : EvO env x (.int .i64 a)] [f : EvO env y (.int .i64 b)] :
    CExec P (.binOp .sub t x y u) ty env (I64 (a - b)) (.int .i64 (a - b)) := ⟨fun _ _ _ _ _ h => by
  simp [execOp, e.h, f.h, binOp, eqGuard_sub, Op.intArith, wrap_i64 h]⟩
instance cexec_mul (t u : TypeId) (x y : Operand) (a b : Int) [e : EvO env x (.int .i64 a)] [f : EvO env y (.int .i64 b)] :
    CExec P (.binOp .mul t x y u) ty env (I64 (a * b)) (.int .i64 (a * b)) := ⟨fun _ _ _ _ _ h => by
  simp [execOp, e.h, f.h, binOp, eqGuard_mul, Op.intArith, wrap_i64 h]⟩

theorem beq_decide (a b : Int) : (a == b) = decide (a = b) := by
  cases h : decide (a = b) <;> simp_all

instance pexec_lss (t u : TypeId) (x y : Operand) (k : IntKind) (a b : Int) [e : EvO env x (.int k a)] [f : EvO env y (.int k b)] :
    PExec P (.binOp .lss t x y u) ty env (.bool (decide (a < b))) := ⟨fun _ _ _ _ _ => by
  simp [execOp, e.h, f.h, binOp, eqGuard_lss, Op.intCmp]⟩
instance pexec_leq (t u : TypeId) (x y : Operand) (k : IntKind) (a b : Int) [e : EvO env x (.int k a)] [f : EvO env y (.int k b)] :
    PExec P (.binOp .leq t x y u) ty env (.bool (decide (a ≤ b))) := ⟨fun _ _ _ _ _ => by
  simp [execOp, e.h, f.h, binOp, eqGuard_leq, Op.intCmp]⟩
instance pexec_gtr (t u : TypeId) (x y : Operand) (k : IntKind) (a b : Int) [e : EvO env x (.int k a)] [f : EvO env y (.int k b)] :
    PExec P (.binOp .gtr t x y u) ty env (.bool (decide (b < a))) := ⟨fun _ _ _ _ _ => by
  simp [execOp, e.h, f.h, binOp, eqGuard_gtr, Op.intCmp]⟩
instance pexec_geq (t u : TypeId) (x y : Operand) (k : IntKind) (a b : Int) [e : EvO env x (.int k a)] [f : EvO env y (.int k b)] :
    PExec P (.binOp .geq t x y u) ty env (.bool (decide (b ≤ a))) := ⟨fun _ _ _ _ _ => by
  simp [execOp, e.h, f.h, binOp, eqGuard_geq, Op.intCmp]⟩
instance pexec_eql (t u : TypeId) (x y : Operand) (k : IntKind) (a b : Int) [e : EvO env x (.int k a)] [f : EvO env y (.int k b)] :
    PExec P (.binOp .eql t x y u) ty env (.bool (decide (a = b))) := ⟨fun _ _ _ _ _ => by
  simp [execOp, e.h, f.h, binOp, eqGuard_at_int, Op.intCmp, beq_decide]⟩
instance pexec_neq (t u : TypeId) (x y : Operand) (k : IntKind) (a b : Int) [e : EvO env x (.int k a)] [f : EvO env y (.int k b)] :
    PExec P (.binOp .neq t x y u) ty env (.bool (!decide (a = b))) := ⟨fun _ _ _ _ _ => by
  have h : (a != b) = !decide (a = b) := by rw [← beq_decide]; rfl
  simp [execOp, e.h, f.h, binOp, eqGuard_at_int, Op.intCmp, h]⟩
instance pexec_not (t : TypeId) (x : Operand) (b c : Bool) [e : EvO env x (.bool b)] [g : NotB b c] : PExec P (.unOp .not t x) ty env (.bool c) := ⟨fun _ _ _ _ _ => by
  simp [execOp, e.h, Op.unary, ← g.h]⟩

/-- In memory as L says, the cell holds v. -/
class Ld (L : List HProp) (r o : Nat) (v : outParam Value) : Prop where h : ∀ B w, sat B L w → w.cell? ⟨r, o, none⟩ = some v

class OffIs (o b : Nat) (i : outParam Nat) : Prop where h : o = b + i
instance (priority := high) off_zero (o : Nat) : OffIs o 0 o := ⟨(Nat.zero_add o).symm⟩
instance (priority := high) ld_here (b : Bool) (r o₀ o i : Nat) (vs : List Value) (v : Value) (L : List HProp) [q : OffIs o o₀ i] [n : NthL vs i v] : Ld (cells b r o₀ vs :: L) r o v :=
  ⟨fun _ _ hs => by rw [q.h]; exact hs.cell n.h⟩
instance (priority := low) ld_next (A : HProp) (r o : Nat) (v : Value) (L : List HProp) [l : Ld L r o v] : Ld (A :: L) r o v := ⟨fun B w hs => l.h B w hs.tail⟩

class SetL (l : List Value) (i : Nat) (v : Value) (m : outParam (List Value)) : Prop where
  h : m = l.set i v
  lt : i < l.length
instance setl_zero (u v : Value) (l : List Value) : SetL (u :: l) 0 v (v :: l) := ⟨rfl, by simp⟩
instance setl_succ (u v : Value) (l m : List Value) (i : Nat) [h : SetL l i v m] : SetL (u :: l) (i + 1) v (u :: m) := ⟨by simp [h.h], by simpa using h.lt⟩

/-- A value that one cell holds. -/
class One (v : Value) : Prop where h : v.oneCell' = true
instance one_int (k : IntKind) (n : Int) : One (.int k n) := ⟨rfl⟩
instance one_bool (b : Bool) : One (.bool b) := ⟨rfl⟩
instance one_pointer (a : Option Addr) : One (.pointer a) := ⟨rfl⟩
instance one_slice (a : Option Addr) (l c : Nat) : One (.slice a l c) := ⟨rfl⟩
instance one_map (r : Option Nat) : One (.map r) := ⟨rfl⟩
/-- A store of v at the cell turns L into L'. -/
class St (L : List HProp) (r o : Nat) (v : Value) (L' : outParam (List HProp)) : Prop where
  h : ∀ B w, sat B L w → (∃ u, w.cell? ⟨r, o, none⟩ = some u) ∧ w.frozen? ⟨r, o, none⟩ = false ∧ sat B L' (w.setCell ⟨r, o, none⟩ v)

instance (priority := high) st_here (r o₀ o i : Nat) (vs us : List Value) (v : Value) (L : List HProp) [q : OffIs o o₀ i] [n : SetL vs i v us] :
    St (cells true r o₀ vs :: L) r o v (cells true r o₀ us :: L) :=
  ⟨fun B w hs => by
    have hl := n.lt
    have hu : vs[i]? = some vs[i] := by simp [hl]
    rw [q.h, n.h]
    exact ⟨⟨_, hs.cell hu⟩, hs.notFrozen hu, hs.set hl⟩⟩

end

/-- A store below the head: the head is carried along in what else there is. -/
class StF (L : List HProp) (r o : Nat) (v : Value) (L' : outParam (List HProp)) : Prop where
  h : ∀ B X w, sat B (L ++ X) w → (∃ u, w.cell? ⟨r, o, none⟩ = some u) ∧ w.frozen? ⟨r, o, none⟩ = false ∧ sat B (L' ++ X) (w.setCell ⟨r, o, none⟩ v)
instance (priority := high) stf_here (r o₀ o i : Nat) (vs us : List Value) (v : Value) (L : List HProp) [q : OffIs o o₀ i] [n : SetL vs i v us] :
    StF (cells true r o₀ vs :: L) r o v (cells true r o₀ us :: L) :=
  ⟨fun B X w hs => (st_here r o₀ o i vs us v (L ++ X)).h B w hs⟩
instance (priority := low) stf_next (A : HProp) (r o : Nat) (v : Value) (L L' : List HProp) [s : StF L r o v L'] : StF (A :: L) r o v (A :: L') :=
  ⟨fun B X w hs => by
    have h := s.h B (A :: X) w (hs.perm List.perm_middle.symm)
    exact ⟨h.1, h.2.1, h.2.2.perm List.perm_middle⟩⟩

section
variable {P : Program} {env : Env} {ty : TypeId} {L : List HProp}

theorem cells_one {v : Value} (h : v.oneCell' = true) : v.cells = #[v] := by cases v <;> first | rfl | simp [Value.oneCell'] at h

instance exec_store (t : TypeId) (x y : Operand) (r o : Nat) (v : Value) (L' : List HProp) [e : EvO env x (.pointer (some ⟨r, o, none⟩))] [f : EvO env y v] [a : TSize P t 1] [c : One v]
    [s : StF L r o v L'] : Exec P (.store t x y) ty env L (fun K => K undef L') :=
  ⟨fun B dst pos after guard K hk w hs => .inr (.inl ⟨w.setCell ⟨r, o, none⟩ v, L', by
    obtain ⟨⟨u, hu⟩, hf, hs'⟩ := s.h B [] w (by simpa using hs)
    simp [execOp, e.h, f.h, Instr.storeAt, Instr.sureAddr, storeVar, cells_one c.h, a.h, storeCells, run_store P w _ v _ c.h, stored, hu, hf, Addr.add_zero'], by
      have := (s.h B [] w (by simpa using hs)).2.2; simpa using this, hk⟩)⟩

instance exec_call (f : FuncId) (xs : List Operand) (vs : List Value) (ts : Array TypeId) [e : EvL env xs vs] [c : TFunc P f] :
    Exec P (.call ⟨.value (.func f), xs.toArray, ts⟩) ty env L (fun K => CallG P f vs.toArray L K) :=
  ⟨fun B dst pos after guard K hk w hs => .inr (.inr ⟨f, vs.toArray, w, by
    have := e.h
    simp [execOp, resolve, ev, Deferred.ofValue, invoke, this, c.h], hk B w hs⟩)⟩

instance pexec_len_slice (t el : TypeId) (x : Operand) (a : Option Addr) (l c : Nat) [e : EvO env x (.slice a l c)] [u : TUnd P t (.slice el)] :
    PExec P (.call ⟨.builtin .len, [x].toArray, [t].toArray⟩) ty env (.int .i64 l) := ⟨fun _ _ _ _ w => by
  simp [execOp, resolve, invoke, builtin, Builtin.len_, e.h, goInt, u.run w]⟩
end
end Go.SL
namespace Go.SL

/-- The goal G follows from G'. -/
class Adv (G : Prop) (G' : outParam Prop) : Prop where h : G' → G
theorem adv {G G' : Prop} [a : Adv G G'] (h : G') : G := a.h h

section
variable {P : Program} {B : World} {n : Nat} {Q : Post} {K : Kont} {env : Env} {L : List HProp}

instance adv_seq (a b : Code) : Adv (Sy P B n (.seq a b) Q env L) (Sy P B n a (thenQ (fun env L => Sy P B n b Q env L) Q) env L) := ⟨Sy_seq⟩
instance adv_block (id : Nat) (c : Code) : Adv (Sy P B n (.block id c) Q env L) (Sy P B n c (blockQ id Q) env L) := ⟨Sy_block⟩
instance adv_skip : Adv (Sy P B n .skip Q env L) (Q .normal env L) := ⟨Sy_skip⟩
instance adv_label (l : Nat) : Adv (Sy P B n (.label l) Q env L) (Q .normal env L) := ⟨Sy_label⟩
instance adv_exit (id : Nat) : Adv (Sy P B n (.exit id) Q env L) (Q (.exit id) env L) := ⟨Sy_exit⟩
instance adv_ret : Adv (Sy P B n .ret Q env L) (Q .ret env L) := ⟨Sy_ret⟩
instance adv_region (id : Nat) (l : List Oper) : Adv (Sy P B n (.region id l.toArray false) Q env L) (SyO P B n l.toArray l (fun env L => Q .normal env L) env L) := ⟨Sy_region'⟩
instance adv_nil (ops : Array Oper) : Adv (SyO P B n ops [] K env L) (K env L) := ⟨SyO_nil⟩
instance (priority := high) adv_condT (c : Operand) (x y : Code) [e : EvO env c (.bool true)] : Adv (Sy P B n (.cond c x y) Q env L) (Sy P B n x Q env L) := ⟨Sy_condT e.h⟩
instance (priority := high) adv_condF (c : Operand) (x y : Code) [e : EvO env c (.bool false)] : Adv (Sy P B n (.cond c x y) Q env L) (Sy P B n y Q env L) := ⟨Sy_condF e.h⟩
instance (priority := low) adv_cond (c : Operand) (x y : Code) (b : Bool) (φ : Prop) [e : EvO env c (.bool b)] [p : BoolP b φ] :
    Adv (Sy P B n (.cond c x y) Q env L) (Two φ (Sy P B n x Q env L) (Sy P B n y Q env L)) := ⟨fun h => Sy_cond e.h h.yes h.no⟩

instance adv_then_n : Adv (thenQ K Q .normal env L) (K env L) := ⟨id⟩
instance adv_then_x (i : Nat) : Adv (thenQ K Q (.exit i) env L) (Q (.exit i) env L) := ⟨id⟩
instance adv_then_r : Adv (thenQ K Q .ret env L) (Q .ret env L) := ⟨id⟩
instance adv_block_n (i : Nat) : Adv (blockQ i Q .normal env L) (Q .normal env L) := ⟨id⟩
instance adv_block_r (i : Nat) : Adv (blockQ i Q .ret env L) (Q .ret env L) := ⟨id⟩
instance (priority := high) adv_block_x (i : Nat) : Adv (blockQ i Q (.exit i) env L) (Q .normal env L) := ⟨fun h => by simpa [blockQ] using h⟩
instance adv_block_y (i j : Nat) [s : SameB (Nat.beq j i) false] : Adv (blockQ i Q (.exit j) env L) (Q (.exit j) env L) :=
  ⟨fun h => by have := Nat.ne_of_beq_eq_false s.h; simpa [blockQ, this] using h⟩

instance adv_step (ops : Array Oper) (d : Nat) (op : Op) (ty : TypeId) (pos : String) (after : Array Edge) (rest : List Oper) (G : (Value → List HProp → Prop) → Prop)
    [e : Exec P op ty env L G] : Adv (SyO P B n ops (⟨some d, op, ty, pos, after, none⟩ :: rest) K env L) (G fun v L' => SyO P B n ops rest K (upd env d v) L') := ⟨step⟩
instance adv_step0 (ops : Array Oper) (op : Op) (ty : TypeId) (pos : String) (after : Array Edge) (rest : List Oper) (G : (Value → List HProp → Prop) → Prop)
    [e : Exec P op ty env L G] : Adv (SyO P B n ops (⟨none, op, ty, pos, after, none⟩ :: rest) K env L) (G fun _ L' => SyO P B n ops rest K env L') := ⟨step0⟩

class NthD (l : List Oper) (j : Nat) (d : outParam Nat) : Prop where h : (l[j]?).bind (·.dst) = some d
instance nthd_zero (d : Nat) (op : Op) (ty : TypeId) (pos : String) (after : Array Edge) (g : Option (Nat × Bool)) (l : List Oper) : NthD (⟨some d, op, ty, pos, after, g⟩ :: l) 0 d := ⟨rfl⟩
instance nthd_succ (o : Oper) (l : List Oper) (j d : Nat) [h : NthD l j d] : NthD (o :: l) (j + 1) d := ⟨by simpa using h.h⟩

theorem yv_of {l : List Oper} {j d : Nat} {b : Bool} (h : NthD l j d) (e : env d = .bool b) : yv l.toArray env j = some b := by
  have := h.h
  simp only [yv, List.getElem?_toArray, this, e]
theorem yv_undef {l : List Oper} {j d : Nat} (h : NthD l j d) (e : env d = undef) : yv l.toArray env j = none := by
  have := h.h
  simp only [yv, List.getElem?_toArray, this, e, undef]

instance adv_wanted (l : List Oper) (d j s : Nat) (want : Bool) (op : Op) (ty : TypeId) (pos : String) (after : Array Edge) (rest : List Oper) (G : (Value → List HProp → Prop) → Prop)
    [nd : NthD l j s] [e : Ev env s (.bool want)] [x : Exec P op ty env L G] :
    Adv (SyO P B n l.toArray (⟨some d, op, ty, pos, after, some (j, want)⟩ :: rest) K env L) (G fun v L' => SyO P B n l.toArray rest K (upd env d v) L') :=
  ⟨stepW (yv_of nd e.h)⟩
instance adv_unwantedT (l : List Oper) (d j s : Nat) (op : Op) (ty : TypeId) (pos : String) (after : Array Edge) (rest : List Oper) [nd : NthD l j s] [e : Ev env s (.bool false)] :
    Adv (SyO P B n l.toArray (⟨some d, op, ty, pos, after, some (j, true)⟩ :: rest) K env L) (SyO P B n l.toArray rest K (upd env d undef) L) :=
  ⟨stepU (.inl (yv_of nd e.h))⟩
instance adv_unwantedF (l : List Oper) (d j s : Nat) (op : Op) (ty : TypeId) (pos : String) (after : Array Edge) (rest : List Oper) [nd : NthD l j s] [e : Ev env s (.bool true)] :
    Adv (SyO P B n l.toArray (⟨some d, op, ty, pos, after, some (j, false)⟩ :: rest) K env L) (SyO P B n l.toArray rest K (upd env d undef) L) :=
  ⟨stepU (.inl (yv_of nd e.h))⟩
instance adv_unwantedU (l : List Oper) (d j s : Nat) (want : Bool) (op : Op) (ty : TypeId) (pos : String) (after : Array Edge) (rest : List Oper) [nd : NthD l j s] [e : Ev env s undef] :
    Adv (SyO P B n l.toArray (⟨some d, op, ty, pos, after, some (j, want)⟩ :: rest) K env L) (SyO P B n l.toArray rest K (upd env d undef) L) :=
  ⟨stepU (.inr (yv_undef nd e.h))⟩
instance (priority := low) adv_guard (l : List Oper) (d j s : Nat) (want b : Bool) (φ : Prop) (op : Op) (ty : TypeId) (pos : String) (after : Array Edge) (rest : List Oper)
    [nd : NthD l j s] [e : Ev env s (.bool b)] [p : BoolP b φ] :
    Adv (SyO P B n l.toArray (⟨some d, op, ty, pos, after, some (j, want)⟩ :: rest) K env L)
      (Two φ (SyO P B n l.toArray (⟨some d, op, ty, pos, after, some (j, want)⟩ :: rest) K (upd env s (.bool true)) L)
        (SyO P B n l.toArray (⟨some d, op, ty, pos, after, some (j, want)⟩ :: rest) K (upd env s (.bool false)) L)) :=
  ⟨fun h => by
    cases hb : b with
    | true =>
      refine SyO_state (h.yes (p.iff.1 hb)) (fun t => ?_) (fun _ h => h)
      rw [upd_eq]; split
      · rename_i ht; rw [ht, e.h, hb]
      · rfl
    | false =>
      refine SyO_state (h.no (fun hp => by rw [p.iff.2 hp] at hb; cases hb)) (fun t => ?_) (fun _ h => h)
      rw [upd_eq]; split
      · rename_i ht; rw [ht, e.h, hb]
      · rfl⟩
end
end Go.SL
namespace Go.SL

/-- A step of a way through a region: a pure operation; one that reads; one that acts (and what was read ahead of it is read again). -/
inductive Plan where
  | nil
  | calc (i : Nat) (p : Plan)
  | read (i : Nat) (p : Plan)
  | act (i : Nat) (again : List Nat) (p : Plan)
  /-- Act i may come now, and then p; or another one, as q says. -/
  | fork (i : Nat) (again : List Nat) (p q : Plan)

def depsOf (l : List Oper) (i : Nat) : List Nat :=
  match l[i]? with
  | some o => (o.after.toList.filter (Region.binds .any)).map (·.on)
  | none => []

def ancs (l : List Oper) : Nat → List Nat → List Nat
  | 0, xs => xs
  | f + 1, xs => xs ++ ancs l f (xs.flatMap (depsOf l)).eraseDups

def looksOk (l : List Oper) (i : Nat) : Bool :=
  match l[i]? with
  | some o => (o.looksAt l.toArray).all fun t => (List.range l.length).all fun k =>
      (match l[k]? with | some x => x.dst != some t | none => true) || (depsOf l i).contains k
  | none => false

def soleDst (l : List Oper) (i : Nat) : Bool :=
  match (l[i]?).bind (·.dst) with
  | some d => (List.range l.length).all fun k => k == i || ((l[k]?).bind (·.dst)) != some d
  | none => true

def noSelect (o : Oper) : Bool := match o.op with | .select .. => false | _ => true

def stepOk (l : List Oper) (S : List Nat) (i : Nat) : Bool :=
  decide (i < l.length) && !S.contains i && (depsOf l i).all (S.contains ·) && looksOk l i && soleDst l i && (match l[i]? with | some o => noSelect o | none => false)

def againOk (l : List Oper) (i : Nat) (hs M : List Nat) : Bool := M.all (fun j => hs.contains j || (ancs l l.length (depsOf l i)).contains j)

def planOk (l : List Oper) : Plan → List Nat → List Nat → List Nat → Bool
  | .nil, S, _, R => (List.range l.length).all (S.contains ·) && R.isEmpty
  | .calc i r, S, M, R => stepOk l S i && planOk l r (i :: S) M [] && R.isEmpty
  | .read i r, S, M, R => stepOk l S i && planOk l r (i :: S) (i :: M) [] && R.isEmpty
  | .act i hs r, S, M, R => stepOk l S i && (List.range l.length).all (fun j => S.contains j || j == i || R.contains j || !(depsOf l j).all (S.contains ·)) &&
      againOk l i hs M && planOk l r (i :: S) M []
  | .fork i hs p q, S, M, R => stepOk l S i && againOk l i hs M && planOk l p (i :: S) M [] && planOk l q S M (i :: R)

section
variable {P : Program} {B : World} {n : Nat} {l : List Oper} {K : Kont}

/-- Operation i, run now, yields what the frame says. -/
def Hold (P : Program) (l : List Oper) (env : Env) (i : Nat) (w : World) : Prop :=
  ∃ o d, l[i]? = some o ∧ o.dst = some d ∧
    ((Region.wanted o (yv l.toArray env) = true ∧ (execOp (ev env) o).run P w = .ok (.value (env d)) w) ∨
     (Region.wanted o (yv l.toArray env) = false ∧ env d = undef))

/-- The run's own state beside the one that we speak of: of the operations S some may still be to come. -/
structure Real (P : Program) (B : World) (n : Nat) (l : List Oper) (S M : List Nat) (env : Env) (listed : Array Bool) (a : Act) (w : World) : Prop where
  defers : a.defers = []
  size : a.tmps.size = n
  lsize : listed.size = l.length
  sub : ∀ i, listed.getD i true = true → i < l.length → i ∈ S
  closed : ∀ i, listed.getD i true = true → i < l.length → ∀ j ∈ depsOf l i, listed.getD j false = true
  tmps : ∀ t, (∀ i ∈ S, listed.getD i true = false → (l[i]?).bind (·.dst) ≠ some t) → a.tmps.getD t undef = env t
  held : ∀ i ∈ S, listed.getD i true = false → (i ∈ M ∧ Hold P l env i w) ∨ ∀ w', Hold P l env i w'

/-- What is known of the plan's done part. -/
structure Done (l : List Oper) (S : List Nat) : Prop where
  lt : ∀ i ∈ S, i < l.length
  ok : ∀ i ∈ S, looksOk l i = true ∧ soleDst l i = true ∧ (∃ o, l[i]? = some o ∧ noSelect o = true)
  deps : ∀ i ∈ S, ∀ j ∈ depsOf l i, j ∈ S
  order : ∀ (T : List Nat), (∀ i ∈ T, i ∈ S) → T ≠ [] → ∃ i ∈ T, ∀ j ∈ depsOf l i, j ∉ T

def unlisted (listed : Array Bool) : Nat := (listed.toList.filter (!·)).length

/-- Act i may be taken now. -/
def RA (P : Program) (B : World) (n : Nat) (l : List Oper) (i : Nat) (S M : List Nat) (K : Kont) (env : Env) (L : List HProp) : Prop :=
  ∀ fuel listed a w, Real P B n l S M env listed a w → sat B L w → unlisted listed ≤ fuel + 1 → i ∈ Region.ready .any l.toArray listed →
    wpOp P l.toArray (lift B n (onlyNormal K)) i (wpAny P .any l.toArray (lift B n (onlyNormal K)) fuel (listed.setIfInBounds i true)) a w

def RPR (P : Program) (B : World) (n : Nat) (l : List Oper) (plan : Plan) (S M R : List Nat) (K : Kont) (env : Env) (L : List HProp) : Prop :=
  planOk l plan S M R = true → l.all (okDst n) = true → Done l S → (∀ r ∈ R, RA P B n l r S M K env L) →
    ∀ fuel listed a w, Real P B n l S M env listed a w → sat B L w → unlisted listed ≤ fuel →
      wpAny P .any l.toArray (lift B n (onlyNormal K)) fuel listed a w
abbrev RP (P : Program) (B : World) (n : Nat) (l : List Oper) (plan : Plan) (S M : List Nat) (K : Kont) (env : Env) (L : List HProp) : Prop := RPR P B n l plan S M [] K env L

theorem stepOk_spec {S : List Nat} {i : Nat} (h : stepOk l S i = true) :
    i < l.length ∧ i ∉ S ∧ (∀ j ∈ depsOf l i, j ∈ S) ∧ looksOk l i = true ∧ soleDst l i = true ∧ ∃ o, l[i]? = some o ∧ noSelect o = true := by
  simp only [stepOk, Bool.and_eq_true, decide_eq_true_eq, Bool.not_eq_true', List.all_eq_true, List.contains_iff_mem] at h
  obtain ⟨⟨⟨⟨⟨h1, h2⟩, h3⟩, h4⟩, h5⟩, h6⟩ := h
  refine ⟨h1, by simpa using h2, by simpa using h3, h4, h5, l[i], by simp [h1], ?_⟩
  simpa [h1] using h6

theorem Done.cons {S : List Nat} {i : Nat} (D : Done l S) (h : stepOk l S i = true) : Done l (i :: S) := by
  obtain ⟨h1, h2, h3, h4, h5, h6⟩ := stepOk_spec h
  refine ⟨?_, ?_, ?_, ?_⟩
  · intro j hj
    rcases List.mem_cons.1 hj with rfl | hj
    · exact h1
    · exact D.lt j hj
  · intro j hj
    rcases List.mem_cons.1 hj with rfl | hj
    · exact ⟨h4, h5, h6⟩
    · exact D.ok j hj
  · intro j hj k hk
    rcases List.mem_cons.1 hj with rfl | hj
    · exact List.mem_cons_of_mem _ (h3 k hk)
    · exact List.mem_cons_of_mem _ (D.deps j hj k hk)
  · intro T hT hne
    by_cases hne' : T.filter (fun j => S.contains j) = []
    · obtain ⟨k, hk⟩ := List.exists_mem_of_ne_nil T hne
      refine ⟨k, hk, fun j hj hjT => ?_⟩
      have hall : ∀ x ∈ T, x ∉ S := fun x hx hxS => by
        have : x ∈ T.filter (fun j => S.contains j) := List.mem_filter.2 ⟨hx, by simpa using hxS⟩
        rw [hne'] at this; cases this
      have hki : k = i := (List.mem_cons.1 (hT k hk)).resolve_right (hall k hk)
      subst hki
      exact hall j hjT (h3 j hj)
    · obtain ⟨k, hk, hmin⟩ := D.order _ (fun x hx => by simpa using (List.mem_filter.1 hx).2) hne'
      obtain ⟨hkT, hkS⟩ := List.mem_filter.1 hk
      have hkS' : k ∈ S := by simpa using hkS
      refine ⟨k, hkT, fun j hj hjT => hmin j hj (List.mem_filter.2 ⟨hjT, by simpa using D.deps k hkS' j hj⟩)⟩

/-- Where the writers of what an operation looks at are behind us in both frames, it is the same operation. -/
theorem looks_same {i : Nat} {o : Oper} (hl : looksOk l i = true) (ho : l[i]? = some o) {env env' : Env}
    (h : ∀ t ∈ o.looksAt l.toArray, env t = env' t) : (∀ x ∈ o.op.operands, ev env x = ev env' x) ∧ Region.wanted o (yv l.toArray env) = Region.wanted o (yv l.toArray env') := by
  constructor
  · intro x hx
    cases x with
    | tmp t =>
      refine h t ?_
      unfold Oper.looksAt
      refine List.mem_append_left _ ?_
      rw [List.mem_filterMap]
      exact ⟨.tmp t, by simpa using hx, rfl⟩
    | _ => rfl
  · unfold Region.wanted
    cases hg : o.guard with
    | none => rfl
    | some g =>
      obtain ⟨j, want⟩ := g
      have : yv l.toArray env j = yv l.toArray env' j := by
        unfold yv
        cases hd : (l.toArray[j]?).bind (·.dst) with
        | none => rfl
        | some d =>
          have : env d = env' d := by
            refine h d ?_
            unfold Oper.looksAt
            refine List.mem_append_right _ ?_
            simp only [hg, hd, Option.toList]
            exact List.mem_singleton.2 rfl
          simp only [this]
      simp only [this]

theorem looks_deps {i t k : Nat} {o x : Oper} (hl : looksOk l i = true) (ho : l[i]? = some o) (ht : t ∈ o.looksAt l.toArray) (hk : l[k]? = some x) (hx : x.dst = some t) : k ∈ depsOf l i := by
  unfold looksOk at hl
  rw [ho] at hl
  simp only [List.all_eq_true] at hl
  have hlt : k < l.length := by
    rcases Nat.lt_or_ge k l.length with h | h
    · exact h
    · rw [List.getElem?_eq_none h] at hk; cases hk
  have := hl t ht k (List.mem_range.2 hlt)
  rw [hk] at this
  simpa [hx] using this

theorem noSelect_spec {o : Oper} (h : noSelect o = true) : ∀ cs b, o.op ≠ .select cs b := by
  intro cs b e
  unfold noSelect at h
  rw [e] at h
  cases h

theorem Hold.env {env env' : Env} {i : Nat} {w : World} (h : Hold P l env i w) (hl : looksOk l i = true) (hs : ∃ o, l[i]? = some o ∧ noSelect o = true)
    (he : ∀ o, l[i]? = some o → ∀ t ∈ o.looksAt l.toArray, env t = env' t) (hd : ∀ o d, l[i]? = some o → o.dst = some d → env d = env' d) : Hold P l env' i w := by
  obtain ⟨o, d, ho, hdst, hh⟩ := h
  obtain ⟨o', ho', hns⟩ := hs
  rw [ho] at ho'; cases ho'
  obtain ⟨h1, h2⟩ := looks_same hl ho (he o ho)
  refine ⟨o, d, ho, hdst, ?_⟩
  rw [← h2, ← hd o d ho hdst, ← execOp_congr o (noSelect_spec hns) h1]
  exact hh

theorem setL_getD (listed : Array Bool) (i j : Nat) (b : Bool) : (listed.setIfInBounds i true).getD j b = if i = j ∧ i < listed.size then true else listed.getD j b := by
  simp only [Array.getD_eq_getD_getElem?]
  by_cases h : i = j
  · subst h
    by_cases hi : i < listed.size
    · simp [hi]
    · simp [hi]
  · simp [h, Array.getElem?_setIfInBounds_ne h]

theorem unlisted_set {listed : Array Bool} {i : Nat} (hi : i < listed.size) (hf : listed.getD i true = false) : unlisted (listed.setIfInBounds i true) + 1 = unlisted listed := by
  unfold unlisted
  have hf' : listed.toList[i]? = some false := by
    simp only [Array.getD_eq_getD_getElem?] at hf
    cases h : listed[i]? with
    | none => rw [h] at hf; cases hf
    | some b => rw [h] at hf; simp at hf; subst hf; simpa using h
  rw [Array.toList_setIfInBounds]
  generalize listed.toList = xs at hf'
  clear hf hi
  induction xs generalizing i with
  | nil => simp at hf'
  | cons x xs ih =>
    cases i with
    | zero => simp at hf'; subst hf'; simp
    | succ i => simp at hf'; cases x <;> simp [ih hf']

theorem ready_mem {listed : Array Bool} {i : Nat} (h : i ∈ Region.ready .any l.toArray listed) :
    i < l.length ∧ listed.getD i true = false ∧ ∀ j ∈ depsOf l i, listed.getD j false = true := by
  unfold Region.ready at h
  rw [List.mem_filter] at h
  obtain ⟨h1, h2⟩ := h
  have hlt : i < l.length := by simpa using h1
  simp only [Bool.and_eq_true, Bool.not_eq_true'] at h2
  refine ⟨hlt, h2.1, fun j hj => ?_⟩
  have h3 := h2.2
  simp only [List.getElem?_toArray, List.getElem?_eq_getElem hlt, Option.map_some, Option.getD_some, Array.all_eq_true_iff_forall_mem, Bool.or_eq_true, Bool.not_eq_true'] at h3
  unfold depsOf at hj
  rw [List.getElem?_eq_getElem hlt] at hj
  simp only [List.mem_map, List.mem_filter] at hj
  obtain ⟨e, ⟨he, hb⟩, rfl⟩ := hj
  rcases h3 e (by simpa using he) with h | h
  · rw [hb] at h; cases h
  · exact h

theorem ready_of {listed : Array Bool} {i : Nat} (hlt : i < l.length) (hu : listed.getD i true = false) (hd : ∀ j ∈ depsOf l i, listed.getD j false = true) :
    i ∈ Region.ready .any l.toArray listed := by
  unfold Region.ready
  rw [List.mem_filter]
  refine ⟨by simpa using hlt, ?_⟩
  simp only [hu, List.getElem?_toArray, List.getElem?_eq_getElem hlt, Option.map_some, Option.getD_some, Bool.not_false, Bool.true_and, Array.all_eq_true_iff_forall_mem, Bool.or_eq_true, Bool.not_eq_true']
  intro e he
  cases hb : Region.binds .any e with
  | false => exact .inl rfl
  | true =>
    refine .inr (hd e.on ?_)
    unfold depsOf
    rw [List.getElem?_eq_getElem hlt]
    simp only [List.mem_map, List.mem_filter]
    exact ⟨e, ⟨by simpa using he, hb⟩, rfl⟩

theorem getD_tf {listed : Array Bool} {j : Nat} (h : listed.getD j false = true) : listed.getD j true = true := by
  simp only [Array.getD_eq_getD_getElem?] at *
  cases hj : listed[j]? with
  | none => rw [hj] at h; cases h
  | some b => rw [hj] at h; simpa using h

theorem getD_lt {listed : Array Bool} {j : Nat} (h : listed.getD j false = true) : j < listed.size := by
  simp only [Array.getD_eq_getD_getElem?] at h
  rcases Nat.lt_or_ge j listed.size with h' | h'
  · exact h'
  · rw [Array.getElem?_eq_none h'] at h; cases h

/-- A frame of the run agrees with ours at whatever a ready operation looks at. -/
theorem Real.looks {S M : List Nat} {env : Env} {listed : Array Bool} {a : Act} {w : World} (R : Real P B n l S M env listed a w) {i : Nat} {o : Oper}
    (hl : looksOk l i = true) (ho : l[i]? = some o) (hd : ∀ j ∈ depsOf l i, listed.getD j false = true) : ∀ t ∈ o.looksAt l.toArray, a.tmps.getD t undef = env t := by
  intro t ht
  refine R.tmps t fun k hk hu hdst => ?_
  cases hx : l[k]? with
  | none => rw [hx] at hdst; cases hdst
  | some x =>
    rw [hx] at hdst
    have := getD_tf (hd k (looks_deps hl ho ht hx hdst))
    rw [hu] at this
    cases this

/-- The run takes a held operation: what is said of the state stays. -/
theorem Real.take {S M : List Nat} {env : Env} {listed : Array Bool} {a : Act} {w : World} (R : Real P B n l S M env listed a w) (D : Done l S) (hn : l.all (okDst n) = true) {i : Nat}
    (hi : i ∈ Region.ready .any l.toArray listed) (hS : i ∈ S) {K' : Act → World → Prop} {Q : Exit → Act → World → Prop}
    (h : ∀ a', Real P B n l S M env (listed.setIfInBounds i true) a' w → K' a' w) : wpOp P l.toArray Q i K' a w := by
  obtain ⟨hlt, hu, hd⟩ := ready_mem hi
  obtain ⟨hlo, hsd, o', ho', hns⟩ := D.ok i hS
  have hh : Hold P l env i w := (R.held i hS hu).elim (·.2) (fun h => h w)
  obtain ⟨o, d, ho, hdst, hh⟩ := hh
  have eo : o = o' := by rw [ho] at ho'; exact Option.some.inj ho'
  subst eo
  have hlk := R.looks hlo ho hd
  have hsame := looks_same (env := fun t => a.tmps.getD t undef) (env' := env) hlo ho hlk
  have hev : a.eval = ev (fun t => a.tmps.getD t undef) := by funext x; cases x <;> rfl
  have hyv : yielded l.toArray a.tmps = yv l.toArray (fun t => a.tmps.getD t undef) :=
    funext fun j => rel.yielded (n := n) (a := a) (env := fun t => a.tmps.getD t undef) ⟨R.defers, R.size, fun _ => rfl⟩ _ j
  have hdn : d < n := by
    have := List.all_eq_true.1 hn o (List.mem_of_getElem? ho)
    unfold okDst at this
    rw [hdst] at this
    exact Nat.le_of_ble_eq_true this
  have hreal : Real P B n l S M env (listed.setIfInBounds i true) (a.put (some d) (env d)) w := by
    refine ⟨R.defers, by simp [Act.put, R.size], by simp [R.lsize], ?_, ?_, ?_, ?_⟩
    · intro j hj hjl
      rw [setL_getD] at hj
      split at hj
      · rename_i h; rw [← h.1]; exact hS
      · exact R.sub j hj hjl
    · intro j hj hjl k hk
      rw [setL_getD] at hj ⊢
      split
      · rfl
      · split at hj
        · rename_i h; rw [← h.1] at hk; exact hd k hk
        · exact R.closed j hj hjl k hk
    · intro t ht
      have hs : d < a.tmps.size := by rw [R.size]; exact hdn
      by_cases e : t = d
      · subst e; simp [Act.put, hs]
      · have e1 : (a.put (some d) (env d)).tmps.getD t undef = a.tmps.getD t undef := by
          simp only [Act.put, Array.getD_eq_getD_getElem?]
          rw [Array.getElem?_setIfInBounds_ne (fun h => e h.symm)]
        rw [e1]
        refine R.tmps t fun k hk hku hkd => ?_
        by_cases hki : i = k
        · subst hki
          rw [ho] at hkd
          simp only [Option.bind_some, hdst, Option.some.injEq] at hkd
          exact e hkd.symm
        · refine ht k hk ?_ hkd
          rw [setL_getD, if_neg (fun h => hki h.1)]; exact hku
    · intro j hj hju
      rw [setL_getD] at hju
      split at hju
      · cases hju
      · exact R.held j hj hju
  unfold wpOp
  rw [List.getElem?_toArray, ho]
  simp only []
  rw [hyv, hsame.2]
  rcases hh with ⟨hw, hrun⟩ | ⟨hw, hun⟩
  · rw [if_pos hw]
    refine .inl ?_
    unfold Oper.wp
    rw [hev, execOp_congr o (noSelect_spec hns) hsame.1, hrun, Oper.upon_value, hdst]
    exact h _ hreal
  · rw [if_neg (by rw [hw]; simp), hdst, ← hun]
    exact h _ hreal

/-- Something of S that is not listed: then something of it is ready. -/
theorem ready_some {S M : List Nat} {env : Env} {listed : Array Bool} {a : Act} {w : World} (R : Real P B n l S M env listed a w) (D : Done l S) {i : Nat} (hi : i ∈ S) (hu : listed.getD i true = false) :
    ∃ j, j ∈ Region.ready .any l.toArray listed := by
  obtain ⟨k, hk, hmin⟩ := D.order (S.filter fun j => !listed.getD j true) (fun j hj => (List.mem_filter.1 hj).1)
    (List.ne_nil_of_mem (List.mem_filter.2 ⟨hi, by rw [hu]; rfl⟩))
  obtain ⟨hkS, hku⟩ := List.mem_filter.1 hk
  refine ⟨k, ready_of (D.lt k hkS) (by simpa using hku) fun j hj => ?_⟩
  have hjS := D.deps k hkS j hj
  have hjl := D.lt j hjS
  have := hmin j hj
  rw [List.mem_filter] at this
  have h2 : listed.getD j true = true := by
    cases h : listed.getD j true with
    | true => rfl
    | false => exact absurd ⟨hjS, by rw [h]; rfl⟩ this
  simp only [Array.getD_eq_getD_getElem?] at h2 ⊢
  rw [← R.lsize] at hjl
  rw [Array.getElem?_eq_getElem hjl] at h2 ⊢
  exact h2

theorem Done.nil : Done l [] := by
  refine ⟨?_, ?_, ?_, ?_⟩
  · intro _ h; cases h
  · intro _ h; cases h
  · intro _ h; cases h
  · intro T hT hne
    obtain ⟨k, hk⟩ := List.exists_mem_of_ne_nil T hne
    cases hT k hk

theorem dst_sole {i k d : Nat} {o : Oper} (h : soleDst l i = true) (ho : l[i]? = some o) (hd : o.dst = some d) (hk : (l[k]?).bind (·.dst) = some d) : k = i := by
  unfold soleDst at h
  rw [ho] at h
  simp only [Option.bind_some, hd, List.all_eq_true, Bool.or_eq_true] at h
  have hlt : k < l.length := by
    rcases Nat.lt_or_ge k l.length with h | h
    · exact h
    · rw [List.getElem?_eq_none h] at hk; cases hk
  rcases h k (List.mem_range.2 hlt) with h | h
  · simpa using h
  · rw [hk] at h; simp at h

/-- The new operation's slot is not looked at by what is behind us. -/
theorem env_upd_same {S : List Nat} {env : Env} {i d : Nat} {v : Value} {o : Oper} (D : Done l S) (hi : stepOk l S i = true) (ho : l[i]? = some o) (hd : o.dst = some d) {j : Nat} (hj : j ∈ S) :
    (∀ x, l[j]? = some x → ∀ t ∈ x.looksAt l.toArray, env t = upd env d v t) ∧ (∀ x e, l[j]? = some x → x.dst = some e → env e = upd env d v e) := by
  obtain ⟨h1, h2, h3, h4, h5, h6⟩ := stepOk_spec hi
  obtain ⟨g1, g2, g3⟩ := D.ok j hj
  constructor
  · intro x hx t ht
    rw [upd_eq]
    split
    · rename_i e
      subst e
      exact absurd (D.deps j hj i (looks_deps g1 hx ht ho hd)) h2
    · rfl
  · intro x e hx he
    rw [upd_eq]
    split
    · rename_i e'
      subst e'
      have := dst_sole h5 ho hd (k := j) (by rw [hx]; simpa using he)
      subst this
      exact absurd hj h2
    · rfl

/-- What an operation yields, if it is run, and what else its slot holds. -/
def Quiet (P : Program) (l : List Oper) (env : Env) (i : Nat) (v : Value) (W : World → Prop) : Prop :=
  ∃ o d, l[i]? = some o ∧ o.dst = some d ∧
    ((Region.wanted o (yv l.toArray env) = true ∧ ∀ w, W w → (execOp (ev env) o).run P w = .ok (.value v) w) ∨ (Region.wanted o (yv l.toArray env) = false ∧ v = undef))

/-- A quiet operation may be taken as soon as it can be. -/
theorem Real.quiet {S M : List Nat} {env : Env} {listed : Array Bool} {a : Act} {w : World} {i d : Nat} {v : Value} {o : Oper} (R : Real P B n l S M env listed a w) (D : Done l S)
    (hi : stepOk l S i = true) (ho : l[i]? = some o) (hd : o.dst = some d) {M' : List Nat} (hM : ∀ j ∈ M, j ∈ M')
    (hnew : (i ∈ M' ∧ Hold P l (upd env d v) i w) ∨ ∀ w', Hold P l (upd env d v) i w') : Real P B n l (i :: S) M' (upd env d v) listed a w := by
  obtain ⟨h1, h2, h3, h4, h5, h6⟩ := stepOk_spec hi
  have hui : listed.getD i true = false := by
    cases h : listed.getD i true with
    | false => rfl
    | true => exact absurd (R.sub i h h1) h2
  refine ⟨R.defers, R.size, R.lsize, fun j hj hjl => List.mem_cons_of_mem _ (R.sub j hj hjl), R.closed, ?_, ?_⟩
  · intro t ht
    have hne : t ≠ d := fun e => ht i List.mem_cons_self hui (by rw [ho, e]; simpa using hd)
    rw [upd_eq, if_neg hne]
    exact R.tmps t fun k hk hku => ht k (List.mem_cons_of_mem _ hk) hku
  · intro j hj hju
    rcases List.mem_cons.1 hj with rfl | hj
    · exact hnew
    · obtain ⟨g1, g2, g3⟩ := D.ok j hj
      obtain ⟨e1, e2⟩ := env_upd_same (env := env) (v := v) D hi ho hd hj
      rcases R.held j hj hju with ⟨hm, hh⟩ | hh
      · exact .inl ⟨hM j hm, hh.env g1 g3 e1 e2⟩
      · exact .inr fun w' => (hh w').env g1 g3 e1 e2

theorem Hold.of_quiet {env : Env} {i d : Nat} {v : Value} {o : Oper} {w : World} {W : World → Prop} {S : List Nat} (hi : stepOk l S i = true) (D : Done l S) (ho : l[i]? = some o) (hd : o.dst = some d)
    (h : Quiet P l env i v W) (hw : W w) : Hold P l (upd env d v) i w := by
  obtain ⟨h1, h2, h3, h4, h5, o', ho', hns⟩ := stepOk_spec hi
  have eo : o = o' := by rw [ho] at ho'; exact Option.some.inj ho'
  subst eo
  obtain ⟨o2, d2, ho2, hd2, hh⟩ := h
  have eo : o = o2 := by rw [ho] at ho2; exact Option.some.inj ho2
  subst eo
  have ed : d = d2 := by rw [hd] at hd2; exact Option.some.inj hd2
  subst ed
  have hsame := looks_same (env := env) (env' := upd env d v) h4 ho fun t ht => by
    rw [upd_eq]
    split
    · rename_i e
      subst e
      exact absurd (h3 i (looks_deps h4 ho ht ho hd)) h2
    · rfl
  refine ⟨o, d, ho, hd, ?_⟩
  have ev1 : upd env d v d = v := by rw [upd_eq, if_pos rfl]
  rw [← hsame.2, ev1, ← execOp_congr o (noSelect_spec hns) hsame.1]
  rcases hh with ⟨h, g⟩ | ⟨h, g⟩
  · exact .inl ⟨h, g w hw⟩
  · exact .inr ⟨h, g⟩

theorem RP_calc {plan : Plan} {S M : List Nat} {env : Env} {L : List HProp} {i d : Nat} {v : Value} {o : Oper} (ho : l[i]? = some o) (hd : o.dst = some d)
    (hq : Quiet P l env i v fun _ => True) (h : RP P B n l plan (i :: S) M K (upd env d v) L) : RP P B n l (.calc i plan) S M K env L := by
  intro hp hn D _ fuel listed a w R hs hf
  simp only [planOk, Bool.and_eq_true] at hp
  exact h hp.1.2 hn (D.cons hp.1.1) (fun _ h => by cases h) fuel listed a w (R.quiet D hp.1.1 ho hd (fun _ h => h) (.inr fun w' => Hold.of_quiet hp.1.1 D ho hd hq trivial)) hs hf

theorem RP_read {plan : Plan} {S M : List Nat} {env : Env} {L : List HProp} {i d : Nat} {v : Value} {o : Oper} (ho : l[i]? = some o) (hd : o.dst = some d)
    (hq : Quiet P l env i v fun w => sat B L w) (h : RP P B n l plan (i :: S) (i :: M) K (upd env d v) L) : RP P B n l (.read i plan) S M K env L := by
  intro hp hn D _ fuel listed a w R hs hf
  simp only [planOk, Bool.and_eq_true] at hp
  exact h hp.1.2 hn (D.cons hp.1.1) (fun _ h => by cases h) fuel listed a w (R.quiet D hp.1.1 ho hd (fun _ h => List.mem_cons_of_mem _ h) (.inl ⟨List.mem_cons_self, Hold.of_quiet hp.1.1 D ho hd hq hs⟩)) hs hf

theorem listed_ancs {listed : Array Bool} (hsz : listed.size = l.length) (closed : ∀ i, listed.getD i true = true → i < l.length → ∀ j ∈ depsOf l i, listed.getD j false = true) :
    ∀ (f : Nat) (xs : List Nat), (∀ x ∈ xs, listed.getD x false = true) → ∀ y ∈ ancs l f xs, listed.getD y false = true
  | 0, _, h, y, hy => h y hy
  | f + 1, xs, h, y, hy => by
    rw [ancs, List.mem_append] at hy
    rcases hy with hy | hy
    · exact h y hy
    · refine listed_ancs hsz closed f _ (fun x hx => ?_) y hy
      rw [List.mem_eraseDups, List.mem_flatMap] at hx
      obtain ⟨k, hk, hx⟩ := hx
      exact closed k (getD_tf (h k hk)) (by rw [← hsz]; exact getD_lt (h k hk)) x hx

/-- What is read again behind an act comes to the same. -/
def Again (P : Program) (B : World) (l : List Oper) (env : Env) (L : List HProp) (hs : List Nat) : Prop := ∀ j ∈ hs, ∀ w, sat B L w → Hold P l env j w

theorem RA_of {plan : Plan} {S M hs : List Nat} {env : Env} {L : List HProp} {j : Nat} {o : Oper} (ho : l[j]? = some o) (hw : Region.wanted o (yv l.toArray env) = true)
    (h : Ex P B o env L fun v L' => Again P B l (updo env o.dst v) L' hs ∧ RP P B n l plan (j :: S) M K (updo env o.dst v) L')
    (hp1 : stepOk l S j = true) (hp3 : againOk l j hs M = true) (hp4 : planOk l plan (j :: S) M [] = true) (hn : l.all (okDst n) = true) (D : Done l S) : RA P B n l j S M K env L := by
  obtain ⟨h1, h2, h3, h4, h5, o', ho', hns⟩ := stepOk_spec hp1
  have eo : o = o' := by rw [ho] at ho'; exact Option.some.inj ho'
  subst eo
  intro fuel listed a w R hs' hf hj
  obtain ⟨hjl, hju, hjd⟩ := ready_mem hj
  have hset := unlisted_set (i := j) (by rw [R.lsize]; exact hjl) hju
  unfold againOk at hp3
  have hlk := R.looks h4 ho hjd
  have hsame := looks_same (env := fun t => a.tmps.getD t undef) (env' := env) h4 ho hlk
  have hev : a.eval = ev (fun t => a.tmps.getD t undef) := by funext x; cases x <;> rfl
  have hyv : yielded l.toArray a.tmps = yv l.toArray (fun t => a.tmps.getD t undef) :=
    funext fun j => rel.yielded (n := n) (a := a) (env := fun t => a.tmps.getD t undef) ⟨R.defers, R.size, fun _ => rfl⟩ _ j
  have hokd := List.all_eq_true.1 hn o (List.mem_of_getElem? ho)
  unfold wpOp
  rw [List.getElem?_toArray, ho]
  simp only []
  rw [hyv, hsame.2, if_pos hw]
  refine .inl ?_
  have hwp : ∀ v L' w', (Again P B l (updo env o.dst v) L' hs ∧ RP P B n l plan (j :: S) M K (updo env o.dst v) L') → sat B L' w' →
      wpAny P .any l.toArray (lift B n (onlyNormal K)) fuel (listed.setIfInBounds j true) (a.put o.dst v) w' := by
    intro v L' w' ⟨hag, hrp⟩ hs2
    refine hrp hp4 hn (D.cons hp1) (fun _ h => by cases h) fuel _ _ w' ?_ hs2 (by omega)
    refine ⟨by cases o.dst <;> exact R.defers, by cases o.dst <;> simp [Act.put, R.size], by simp [R.lsize], ?_, ?_, ?_, ?_⟩
    · intro k hk hkl
      rw [setL_getD] at hk
      split at hk
      · rename_i h; rw [← h.1]; exact List.mem_cons_self
      · exact List.mem_cons_of_mem _ (R.sub k hk hkl)
    · intro k hk hkl x hx
      rw [setL_getD] at hk ⊢
      split
      · rfl
      · split at hk
        · rename_i h; rw [← h.1] at hx; exact hjd x hx
        · exact R.closed k hk hkl x hx
    · intro t ht
      have hold : (∀ i ∈ S, listed.getD i true = false → (l[i]?).bind (·.dst) ≠ some t) := by
        intro k hk hku hkd
        refine ht k (List.mem_cons_of_mem _ hk) ?_ hkd
        rw [setL_getD, if_neg (fun h => by rw [h.1] at h2; exact h2 hk)]; exact hku
      cases hdd : o.dst with
      | none => exact R.tmps t hold
      | some d =>
        have hdn : d < n := by unfold okDst at hokd; rw [hdd] at hokd; exact Nat.le_of_ble_eq_true hokd
        have hsz : d < a.tmps.size := by rw [R.size]; exact hdn
        show (a.put (some d) v).tmps.getD t undef = upd env d v t
        rw [upd_eq]
        by_cases e : t = d
        · subst e; simp [Act.put, hsz]
        · rw [if_neg e, ← R.tmps t hold]
          simp only [Act.put, Array.getD_eq_getD_getElem?]
          rw [Array.getElem?_setIfInBounds_ne (fun h => e h.symm)]
    · intro k hk hku
      rw [setL_getD] at hku
      split at hku
      · cases hku
      · rename_i hne
        have hkS : k ∈ S := by
          rcases List.mem_cons.1 hk with rfl | h
          · exact absurd ⟨rfl, by rw [R.lsize]; exact h1⟩ hne
          · exact h
        obtain ⟨g1, g2, g3⟩ := D.ok k hkS
        have hkeep : ∀ w'', Hold P l env k w'' → Hold P l (updo env o.dst v) k w'' := by
          intro w'' hh
          cases hdd : o.dst with
          | none => exact hh
          | some d =>
            obtain ⟨e1, e2⟩ := env_upd_same (env := env) (v := v) D hp1 ho hdd hkS
            exact hh.env g1 g3 e1 e2
        rcases R.held k hkS hku with ⟨hm, hh⟩ | hh
        · refine .inl ⟨hm, ?_⟩
          have := List.all_eq_true.1 hp3 k hm
          simp only [Bool.or_eq_true, List.contains_iff_mem] at this
          rcases this with h | h
          · exact hag k (by simpa using h) w' hs2
          · have hla := listed_ancs R.lsize R.closed l.length (depsOf l j) (fun x hx => hjd x hx) k (by simpa using h)
            rw [getD_tf hla] at hku
            cases hku
        · exact .inr fun w'' => hkeep w'' (hh w'')
  unfold Oper.wp
  rw [hev, execOp_congr o (noSelect_spec hns) hsame.1]
  rcases h w hs' with ⟨v, w', L', r1, r2, r3⟩ | ⟨w', L', r1, r2, r3⟩ | ⟨f, args, w', r1, r2⟩
  · rw [r1, Oper.upon_value]; exact hwp v L' w' r3 r2
  · rw [r1, Oper.upon_skip]; exact hwp undef L' w' r3 r2
  · rw [r1, Oper.upon_enter]
    refine r2.mono ?_
    rintro e w'' ⟨v, L', rfl, r4, r5⟩
    exact hwp v L' w'' r5 r4

theorem RPR_some {S M R : List Nat} {env : Env} {L : List HProp} {i : Nat} (hp1 : stepOk l S i = true) (hp2 : (List.range l.length).all (fun j => S.contains j || j == i || R.contains j || !(depsOf l j).all (S.contains ·)) = true)
    (hn : l.all (okDst n) = true) (D : Done l S) (hi : RA P B n l i S M K env L) (hR : ∀ r ∈ R, RA P B n l r S M K env L) :
    ∀ fuel listed a w, Real P B n l S M env listed a w → sat B L w → unlisted listed ≤ fuel → wpAny P .any l.toArray (lift B n (onlyNormal K)) fuel listed a w := by
  obtain ⟨h1, h2, h3, h4, h5, o', ho', hns⟩ := stepOk_spec hp1
  intro fuel
  induction fuel with
  | zero =>
    intro listed a w R hs' hf
    have hui : listed.getD i true = false := by
      cases h : listed.getD i true with
      | false => rfl
      | true => exact absurd (R.sub i h h1) h2
    have := unlisted_set (by rw [R.lsize]; exact h1) hui
    omega
  | succ fuel ih =>
    intro listed a w R' hs' hf
    have hui : listed.getD i true = false := by
      cases h : listed.getD i true with
      | false => rfl
      | true => exact absurd (R'.sub i h h1) h2
    constructor
    · intro hnil
      exfalso
      by_cases hall : ∃ k ∈ S, listed.getD k true = false
      · obtain ⟨k, hk, hku⟩ := hall
        obtain ⟨j, hj⟩ := ready_some R' D hk hku
        rw [hnil] at hj; cases hj
      · have hir : i ∈ Region.ready .any l.toArray listed := ready_of h1 hui fun j hj => by
          have hjS := h3 j hj
          have hjl := D.lt j hjS
          have h2' : listed.getD j true = true := by
            cases h : listed.getD j true with
            | true => rfl
            | false => exact absurd ⟨j, hjS, h⟩ hall
          simp only [Array.getD_eq_getD_getElem?] at h2' ⊢
          rw [← R'.lsize] at hjl
          rw [Array.getElem?_eq_getElem hjl] at h2' ⊢
          exact h2'
        rw [hnil] at hir; cases hir
    · intro j hj
      obtain ⟨hjl, hju, hjd⟩ := ready_mem hj
      have hset := unlisted_set (i := j) (by rw [R'.lsize]; exact hjl) hju
      by_cases hjS : j ∈ S
      · exact R'.take D hn hj hjS fun a' R2 => ih _ a' w R2 hs' (by omega)
      · have hji : j = i ∨ j ∈ R := by
          have := List.all_eq_true.1 hp2 j (List.mem_range.2 hjl)
          simp only [Bool.or_eq_true, beq_iff_eq, Bool.not_eq_true', List.contains_iff_mem] at this
          rcases this with ((h | h) | h) | h
          · exact absurd (by simpa using h) hjS
          · exact .inl h
          · exact .inr (by simpa using h)
          · have hall : (depsOf l j).all (fun x => S.contains x) = true := by
              rw [List.all_eq_true]
              intro k hk
              have := getD_tf (hjd k hk)
              have hkl := getD_lt (hjd k hk)
              rw [R'.lsize] at hkl
              simpa using R'.sub k this hkl
            rw [hall] at h; cases h
        rcases hji with rfl | hjR
        · exact hi fuel listed a w R' hs' hf hj
        · exact hR j hjR fuel listed a w R' hs' hf hj

theorem RP_act {plan : Plan} {S M R hs : List Nat} {env : Env} {L : List HProp} {i : Nat} {o : Oper} (ho : l[i]? = some o) (hw : Region.wanted o (yv l.toArray env) = true)
    (h : Ex P B o env L fun v L' => Again P B l (updo env o.dst v) L' hs ∧ RP P B n l plan (i :: S) M K (updo env o.dst v) L') : RPR P B n l (.act i hs plan) S M R K env L := by
  intro hp hn D hR
  simp only [planOk, Bool.and_eq_true] at hp
  obtain ⟨⟨⟨hp1, hp2⟩, hp3⟩, hp4⟩ := hp
  exact RPR_some hp1 hp2 hn D (RA_of ho hw h hp1 hp3 hp4 hn D) hR

theorem RP_fork {p q : Plan} {S M R hs : List Nat} {env : Env} {L : List HProp} {i : Nat} {o : Oper} (ho : l[i]? = some o) (hw : Region.wanted o (yv l.toArray env) = true)
    (h : Ex P B o env L fun v L' => Again P B l (updo env o.dst v) L' hs ∧ RP P B n l p (i :: S) M K (updo env o.dst v) L') (hq : RPR P B n l q S M (i :: R) K env L) : RPR P B n l (.fork i hs p q) S M R K env L := by
  intro hp hn D hR
  simp only [planOk, Bool.and_eq_true] at hp
  obtain ⟨⟨⟨hp1, hp3⟩, hp4⟩, hp5⟩ := hp
  refine hq hp5 hn D fun r hr => ?_
  rcases List.mem_cons.1 hr with rfl | hr
  · exact RA_of ho hw h hp1 hp3 hp4 hn D
  · exact hR r hr

theorem RP_nil {S M : List Nat} {env : Env} {L : List HProp} (h : K env L) : RP P B n l .nil S M K env L := by
  intro hp hn D _ fuel
  simp only [planOk, Bool.and_eq_true] at hp
  replace hp := hp.1
  simp only [List.all_eq_true, List.mem_range, List.contains_iff_mem] at hp
  have fin : ∀ listed a w, Real P B n l S M env listed a w → sat B L w → (∀ k ∈ S, listed.getD k true = true) → lift B n (onlyNormal K) .normal a w := by
    intro listed a w R hs hall
    refine ⟨env, L, ⟨R.defers, R.size, fun t => R.tmps t fun k hk hku => ?_⟩, hs, rfl, h⟩
    rw [hall k hk] at hku; cases hku
  induction fuel with
  | zero =>
    intro listed a w R hs hf
    have hall : ∀ k ∈ S, listed.getD k true = true := by
      intro k hk
      cases h : listed.getD k true with
      | true => rfl
      | false =>
        have := unlisted_set (i := k) (by rw [R.lsize]; exact D.lt k hk) h
        omega
    refine ⟨?_, fin listed a w R hs hall⟩
    cases hr : Region.ready .any l.toArray listed with
    | nil => rfl
    | cons k r =>
      obtain ⟨h1, h2, _⟩ := ready_mem (l := l) (listed := listed) (i := k) (by rw [hr]; exact List.mem_cons_self)
      rw [hall k (by simpa using hp k h1)] at h2; cases h2
  | succ fuel ih =>
    intro listed a w R hs hf
    constructor
    · intro hnil
      refine fin listed a w R hs fun k hk => ?_
      cases h : listed.getD k true with
      | true => rfl
      | false =>
        obtain ⟨j, hj⟩ := ready_some R D hk h
        rw [hnil] at hj; cases hj
    · intro j hj
      obtain ⟨hjl, hju, hjd⟩ := ready_mem hj
      have hset := unlisted_set (i := j) (by rw [R.lsize]; exact hjl) hju
      exact R.take D hn hj (by simpa using hp j hjl) fun a' R' => ih _ a' w R' hs (by omega)

theorem Sy_draw {id : Nat} {Q : Post} {env : Env} {L : List HProp} (plan : Plan) (hm : P.follows .mixedOrders = true) (hp : planOk l plan [] [] [] = true)
    (h : RP P B n l plan [] [] (fun env L => Q .normal env L) env L) : Sy P B n (.region id l.toArray true) Q env L := by
  intro ok a w hr hs
  refine wp_mono (wp_region_any hm ?_) ?_ (Q := lift B n (onlyNormal fun env L => Q .normal env L))
  · refine h hp (by simpa [okCode] using ok) Done.nil (fun _ h => by cases h) _ _ a _ ?_ hs.drew ?_
    · refine ⟨hr.defers, hr.size, by simp, ?_, ?_, fun t _ => hr.tmps t, fun _ h => by cases h⟩
      · intro i hi hlt
        simp [Array.getD_eq_getD_getElem?, hlt] at hi
      · intro i hi hlt
        simp [Array.getD_eq_getD_getElem?, hlt] at hi
    · simp [unlisted]
  · rintro e a' w' ⟨env', L', hr', hs', he, hq⟩
    subst he
    exact ⟨env', L', hr', hs', hq⟩
end
end Go.SL
namespace Go.SL

/-- Says only of memory that is never written again. -/
class Pers (A : HProp) : Prop where
  mono : ∀ h h' : Hp, (∀ k x, h k = some (false, x) → h' k = some (false, x)) → A h → A h'

def ghost (h : Hp) : Hp := fun k => match h k with | some (false, x) => some (false, x) | _ => none

instance shared_of_pers (A : HProp) [p : Pers A] : Shared A where
  dup B L w s := by
    obtain ⟨b, h, ⟨h₁, h₂, c, rfl, a, l⟩, hr⟩ := s
    have hg : ∀ k x, ghost h₁ k = some x → h₁ k = some x ∧ ∃ y, x = (false, y) := by
      intro k x hx
      unfold ghost at hx
      split at hx
      · rename_i y hy; cases hx; exact ⟨hy, y, rfl⟩
      · cases hx
    have c1 : compat h₁ (ghost h₁) := by
      intro k
      cases hk : ghost h₁ k with
      | none => exact .inr (.inl rfl)
      | some x =>
        obtain ⟨h1, y, rfl⟩ := hg k x hk
        exact .inr (.inr ⟨h1, y, h1⟩)
    have c2 : compat (ghost h₁) h₂ := by
      intro k
      cases hk : ghost h₁ k with
      | none => exact .inl rfl
      | some x =>
        obtain ⟨h1, y, rfl⟩ := hg k x hk
        rcases c k with h | h | ⟨h, z, hz⟩
        · rw [h] at h1; cases h1
        · exact .inr (.inl h)
        · exact .inr (.inr ⟨by rw [← h, h1], y, rfl⟩)
    refine ⟨b, join h₁ h₂, ⟨h₁, join (ghost h₁) h₂, (compat_join c1.symm c.symm).symm, ?_, a, ghost h₁, h₂, c2, rfl, ?_, l⟩, hr⟩
    · rw [← join_assoc]
      congr 1
      funext k
      unfold join
      cases hk : h₁ k with
      | some x => rfl
      | none =>
        cases hk' : ghost h₁ k with
        | none => rfl
        | some x => have := (hg k x hk').1; rw [hk] at this; cases this
    · exact p.mono h₁ _ (fun k x hx => by unfold ghost; rw [hx]) a

instance pers_says (φ : Prop) : Pers (says φ) := ⟨fun _ _ _ h => h⟩
theorem sat.also {B : World} {A A' : HProp} {L : List HProp} {w : World} [p : Pers A] (s : sat B (A :: L) w) (f : ∀ h, A h → A' h) : sat B (A' :: A :: L) w :=
  (Shared.dup B L w s).head f

/-- What is owned may be given up to be shared. -/
theorem sat.freeze {B : World} {A A' : HProp} {L : List HProp} {w : World} (s : sat B (A :: L) w)
    (f : ∀ h, A h → A' (fun k => (h k).map fun x => (false, x.2))) : sat B (A' :: L) w := by
  obtain ⟨b, h, ⟨h₁, h₂, c, rfl, a, l⟩, hr⟩ := s
  refine ⟨b, join (fun k => (h₁ k).map fun x => (false, x.2)) h₂, ⟨_, h₂, ?_, rfl, f _ a, l⟩, ?_⟩
  · intro k
    rcases c k with h | h | ⟨h, x, hx⟩
    · exact .inl (by simp [h])
    · exact .inr (.inl h)
    · exact .inr (.inr ⟨by rw [← h, hx]; simp [hx], x, by simp [hx]⟩)
  · intro k bb x hk
    unfold join at hk
    simp only [] at hk
    cases h1 : h₁ k with
    | none =>
      rw [h1] at hk
      exact hr k bb x (by unfold join; rw [h1]; exact hk)
    | some y =>
      rw [h1] at hk
      simp only [Option.map_some, Option.some.injEq, Prod.mk.injEq] at hk
      obtain ⟨rfl, rfl⟩ := hk
      have := hr k y.1 y.2 (by unfold join; rw [h1])
      cases k <;> cases hy : y.2 <;> rw [hy] at this <;> first | exact this.elim | exact ⟨this.1, fun h => by cases h⟩ | exact ⟨this.1, this.2⟩

/-- How a datum lies in cells, and what it refers to. -/
class Rep (α : Type) where
  k : Nat
  enc : α → List Value
  own : α → HProp
  len : ∀ x, (enc x).length = k
  one : ∀ x, ∀ v ∈ enc x, v.oneCell' = true
  pers : ∀ x, Pers (own x)
  pos : 0 < k

instance (α : Type) [Rep α] (x : α) : Pers (Rep.own x) := Rep.pers x

@[reducible] def blk (a : Option Addr) : Nat := match a with | some x => x.block | none => 0
@[reducible] def offs (a : Option Addr) : Nat := match a with | some x => x.off | none => 0

/-- A slice as we know it: where it begins, its capacity, its elements. -/
structure Sl (α : Type) where
  a : Option Addr
  c : Nat
  xs : List α

@[reducible] def Sl.val {α : Type} (s : Sl α) : Value := .slice s.a s.xs.length s.c

structure Sl.ok {α : Type} (s : Sl α) : Prop where
  spot : ∀ x, s.a = some x → x.spot = none
  cap : s.xs.length ≤ s.c
  null : s.a = none → s.c = 0
  len : s.xs.length ≤ 140737488355328

theorem Sl.ok.some {α : Type} {s : Sl α} (h : s.ok) (hl : 0 < s.xs.length) : s.a = some ⟨blk s.a, offs s.a, none⟩ := by
  cases ha : s.a with
  | none => have := h.null ha; have := h.cap; omega
  | some x =>
    have := h.spot x ha
    obtain ⟨b, o, sp⟩ := x
    simp only at this
    subst this
    rfl

def flat {α : Type} [Rep α] (xs : List α) : List Value := xs.flatMap Rep.enc

/-- A slice that nobody writes again. -/
def roS {α : Type} [Rep α] (s : Sl α) : HProp := fun h =>
  s.ok ∧ (∀ i v, (flat s.xs)[i]? = some v → h (.cell (blk s.a) (offs s.a + i)) = some (false, .cell v)) ∧ ∀ x ∈ s.xs, Rep.own x h

instance pers_roS {α : Type} [Rep α] (s : Sl α) : Pers (roS s) :=
  ⟨fun h h' m ⟨a, b, c⟩ => ⟨a, fun i v hi => m _ _ (b i v hi), fun x hx => (Rep.pers x).mono h h' m (c x hx)⟩⟩

/-- A slice that one function alone is making; behind its elements lies room. -/
def ownS {α : Type} [Rep α] (s : Sl α) : HProp := fun h =>
  s.ok ∧ (∃ room : List Value, room.length = (s.c - s.xs.length) * Rep.k α ∧
    ∀ i v, (flat s.xs ++ room)[i]? = some v → h (.cell (blk s.a) (offs s.a + i)) = some (true, .cell v)) ∧ ∀ x ∈ s.xs, Rep.own x h

theorem flat_length {α : Type} [Rep α] (xs : List α) : (flat xs).length = xs.length * Rep.k α := by
  unfold flat
  induction xs with
  | nil => simp
  | cons x xs ih => simp [ih, Rep.len, Nat.add_mul]; omega

theorem flat_append {α : Type} [Rep α] (xs ys : List α) : flat (xs ++ ys) = flat xs ++ flat ys := by unfold flat; simp

theorem flat_get {α : Type} [Rep α] : ∀ (xs : List α) (j : Nat) (hj : j < xs.length) (f : Nat), f < Rep.k α → (flat xs)[j * Rep.k α + f]? = (Rep.enc xs[j])[f]?
  | [], j, hj, _, _ => by simp at hj
  | x :: xs, j, hj, f, hf => by
    have e : flat (x :: xs) = Rep.enc x ++ flat xs := rfl
    rw [e]
    cases j with
    | zero => rw [Nat.zero_mul, Nat.zero_add, List.getElem?_append_left (by rw [Rep.len]; exact hf)]; rfl
    | succ j =>
      have h1 : (j + 1) * Rep.k α + f = Rep.k α + (j * Rep.k α + f) := by rw [Nat.add_mul]; omega
      rw [h1, List.getElem?_append_right (by rw [Rep.len]; omega), Rep.len]
      have h2 : Rep.k α + (j * Rep.k α + f) - Rep.k α = j * Rep.k α + f := by omega
      rw [h2, flat_get xs j (by simpa using hj) f hf]
      rfl

instance rep_int : Rep Int := ⟨1, fun n => [.int .i64 n], fun _ => says True, fun _ => rfl, fun _ v hv => by simp at hv; subst hv; rfl, fun _ => inferInstance, by decide⟩
instance rep_byte : Rep UInt8 := ⟨1, fun n => [.int .u8 n.toNat], fun _ => says True, fun _ => rfl, fun _ v hv => by simp at hv; subst hv; rfl, fun _ => inferInstance, by decide⟩
instance rep_bool : Rep Bool := ⟨1, fun b => [.bool b], fun _ => says True, fun _ => rfl, fun _ v hv => by simp at hv; subst hv; rfl, fun _ => inferInstance, by decide⟩
/-- A pointer to the head of a block. -/
structure Ptr where
  r : Nat
instance rep_ptr : Rep Ptr := ⟨1, fun p => [.pointer (some ⟨p.r, 0, none⟩)], fun _ => says True, fun _ => rfl, fun _ v hv => by simp at hv; subst hv; rfl, fun _ => inferInstance, by decide⟩
instance rep_sl {α : Type} [Rep α] : Rep (Sl α) := ⟨1, fun s => [s.val], fun s => roS s, fun _ => rfl, fun _ v hv => by simp at hv; subst hv; rfl, fun _ => inferInstance, by decide⟩

/-- The cells of a datum, written out. -/
class EncIs (α : Type) [Rep α] (x : α) (vs : outParam (List Value)) : Prop where h : Rep.enc x = vs
instance enc_int (n : Int) : EncIs Int n [.int .i64 n] := ⟨rfl⟩
instance enc_byte (n : UInt8) : EncIs UInt8 n [.int .u8 n.toNat] := ⟨rfl⟩
instance enc_bool (b : Bool) : EncIs Bool b [.bool b] := ⟨rfl⟩
instance enc_ptr (p : Ptr) : EncIs Ptr p [.pointer (some ⟨p.r, 0, none⟩)] := ⟨rfl⟩
instance enc_sl {α : Type} [Rep α] (s : Sl α) : EncIs (Sl α) s [.slice s.a s.xs.length s.c] := ⟨rfl⟩
class KIs (α : Type) [Rep α] (k : outParam Nat) : Prop where h : Rep.k α = k
instance k_int : KIs Int 1 := ⟨rfl⟩
instance k_byte : KIs UInt8 1 := ⟨rfl⟩
instance k_bool : KIs Bool 1 := ⟨rfl⟩
instance k_ptr : KIs Ptr 1 := ⟨rfl⟩
instance k_sl {α : Type} [Rep α] : KIs (Sl α) 1 := ⟨rfl⟩

/-- What stands in the list is so. -/
theorem Sy_know {P : Program} {B : World} {n : Nat} {c : Code} {Q : Post} {env : Env} {L : List HProp} {φ : Prop} (k : ∀ B w, sat B L w → φ) (h : φ → Sy P B n c Q env L) : Sy P B n c Q env L :=
  fun ok a w hr hs => h (k B w hs) ok a w hr hs
theorem ro_ok {α : Type} [Rep α] {L R : List HProp} (s : Sl α) [p : Pick (roS s) L R] (B : World) (w : World) (hs : sat B L w) : s.ok := by
  obtain ⟨h, a, _⟩ := (hs.perm p.perm).headOf; exact a.1
theorem own_ok {α : Type} [Rep α] {L R : List HProp} (s : Sl α) [p : Pick (ownS s) L R] (B : World) (w : World) (hs : sat B L w) : s.ok := by
  obtain ⟨h, a, _⟩ := (hs.perm p.perm).headOf; exact a.1

class Lt (i n : Nat) : Prop where h : i < n
/-- A fact that the rest may use. -/
structure Giv (φ ψ : Prop) : Prop where
  giv : φ → ψ

class ToNat (i : Int) (j : outParam Nat) : Prop where h : i.toNat = j
instance (priority := high) toNat_cast (n : Nat) : ToNat (n : Int) n := ⟨rfl⟩
instance toNat_l0 : ToNat (0 : Int) 0 := ⟨rfl⟩
instance toNat_l1 : ToNat (1 : Int) 1 := ⟨rfl⟩
instance toNat_l2 : ToNat (2 : Int) 2 := ⟨rfl⟩
instance toNat_l4 : ToNat (4 : Int) 4 := ⟨rfl⟩
instance toNat_l6 : ToNat (6 : Int) 6 := ⟨rfl⟩
instance toNat_l8 : ToNat (8 : Int) 8 := ⟨rfl⟩
instance toNat_l9 : ToNat (9 : Int) 9 := ⟨rfl⟩
instance toNat_l14 : ToNat (14 : Int) 14 := ⟨rfl⟩
instance toNat_l18 : ToNat (18 : Int) 18 := ⟨rfl⟩
instance toNat_l44 : ToNat (44 : Int) 44 := ⟨rfl⟩
instance toNat_l2197175160 : ToNat (2197175160 : Int) 2197175160 := ⟨rfl⟩
instance (priority := low) toNat_any (i : Int) : ToNat i i.toNat := ⟨rfl⟩

class Eq1 {α : Type} (x y : α) : Prop where h : x = y
instance eq1_refl {α : Type} (x : α) : Eq1 x x := ⟨rfl⟩
/-- In memory as L says, a slice that begins at a and has len elements has an address where it is not empty. -/
class SlAt (L : List HProp) (a : Option Addr) (len : Nat) : Prop where h : ∀ B w, sat B L w → 0 < len → a = some ⟨blk a, offs a, none⟩
instance (priority := high) slat_lit (L : List HProp) (r o len : Nat) : SlAt L (some ⟨r, o, none⟩) len := ⟨fun _ _ _ _ => rfl⟩
instance slat_ro {α : Type} [Rep α] (s : Sl α) (L : List HProp) (a : Option Addr) (len : Nat) [ea : Eq1 s.a a] [el : Eq1 s.xs.length len] : SlAt (roS s :: L) a len := ⟨fun _ _ hs hl => by
  obtain ⟨h, a, _⟩ := hs.headOf; rw [← ea.h]; exact a.1.some (by rw [el.h]; exact hl)⟩
instance slat_own {α : Type} [Rep α] (s : Sl α) (L : List HProp) (a : Option Addr) (len : Nat) [ea : Eq1 s.a a] [el : Eq1 s.xs.length len] : SlAt (ownS s :: L) a len := ⟨fun _ _ hs hl => by
  obtain ⟨h, a, _⟩ := hs.headOf; rw [← ea.h]; exact a.1.some (by rw [el.h]; exact hl)⟩
instance (priority := low) slat_next (A : HProp) (L : List HProp) (a : Option Addr) (len : Nat) [s : SlAt L a len] : SlAt (A :: L) a len := ⟨fun B w hs => s.h B w hs.tail⟩

/-- An operation that reads: it yields v and leaves memory alone; L may be said as L'. -/
class RExec (P : Program) (op : Op) (ty : TypeId) (env : Env) (L : List HProp) (v : outParam Value) (L' : outParam (List HProp)) : Prop where
  run : ∀ dst pos after guard B w, sat B L w → (execOp (ev env) ⟨dst, op, ty, pos, after, guard⟩).run P w = .ok (.value v) w ∧ sat B L' w

instance exec_read (P : Program) (op : Op) (ty : TypeId) (env : Env) (v : Value) (L L' : List HProp) [p : RExec P op ty env L v L'] :
    Exec P op ty env L (fun K => K v L') :=
  ⟨fun B dst pos after guard _ hk w hs => .inl ⟨v, w, L', (p.run dst pos after guard B w hs).1, (p.run dst pos after guard B w hs).2, hk⟩⟩

/-- An operation that reads under a condition. -/
class CRExec (P : Program) (op : Op) (ty : TypeId) (env : Env) (L : List HProp) (φ : outParam Prop) (ψ : outParam Prop) (v : outParam Value) : Prop where
  run : ∀ dst pos after guard B w, φ → sat B L w → (execOp (ev env) ⟨dst, op, ty, pos, after, guard⟩).run P w = .ok (.value v) w
  giv : φ → ψ

instance exec_cread (P : Program) (op : Op) (ty : TypeId) (env : Env) (φ ψ : Prop) (v : Value) (L : List HProp) [p : CRExec P op ty env L φ ψ v] :
    Exec P op ty env L (fun K => Side φ (Giv ψ (K v L))) :=
  ⟨fun B dst pos after guard _ hk w hs => .inl ⟨v, w, L, p.run dst pos after guard B w hk.side hs, hs, hk.rest.giv (p.giv hk.side)⟩⟩

section
variable {P : Program} {env : Env} {ty : TypeId} {L : List HProp}

theorem index_run {t e : TypeId} {x i : Operand} {a : Option Addr} {len c sz j : Nat} {k : IntKind} {idx : Int} [ex : EvO env x (.slice a len c)] [ei : EvO env i (.int k idx)]
    [u : TUnd P t (.slice e)] [z : TSize P e sz] [s : SlAt L a len] [n : ToNat idx j] (dst : Option Tmp) (pos : String) (after : Array Edge) (guard : Option (Nat × Bool)) (B : World) (w : World)
    (h : 0 ≤ idx ∧ idx < len) (hs : sat B L w) :
    (execOp (ev env) ⟨dst, .indexAddr t x i, ty, pos, after, guard⟩).run P w = .ok (.value (.pointer (some ⟨blk a, offs a + j * sz, none⟩))) w := by
  have ha := s.h B w hs (by omega)
  have hn : idx.toNat = j := n.h
  simp only [execOp, ex.h, ei.h, Instr.indexAt, asIntOf, Sem.run_bind, Sem.run_pure, Result.andThen_ok, u.run]
  rw [ha]
  simp [h, hn, z.h, Addr.add_lit]

instance (priority := high) cr_index1 (t e : TypeId) (x i : Operand) (a : Option Addr) (len c j : Nat) (k : IntKind) (idx : Int) [ex : EvO env x (.slice a len c)] [ei : EvO env i (.int k idx)]
    [u : TUnd P t (.slice e)] [z : TSize P e 1] [s : SlAt L a len] [n : ToNat idx j] :
    CRExec P (.indexAddr t x i) ty env L (0 ≤ idx ∧ idx < len) (Lt j len) (.pointer (some ⟨blk a, offs a + j, none⟩)) :=
  ⟨fun dst pos after guard B w h hs => by have := index_run (ty := ty) (P := P) (L := L) (env := env) (e := e) (a := a) (len := len) (c := c) (k := k) (idx := idx) (sz := 1) (j := j) (t := t) (x := x) (i := i) dst pos after guard B w h hs; rwa [Nat.mul_one] at this,
   fun h => ⟨by have := n.h; omega⟩⟩
instance cr_index (t e : TypeId) (x i : Operand) (a : Option Addr) (len c sz j : Nat) (k : IntKind) (idx : Int) [ex : EvO env x (.slice a len c)] [ei : EvO env i (.int k idx)]
    [u : TUnd P t (.slice e)] [z : TSize P e sz] [s : SlAt L a len] [n : ToNat idx j] :
    CRExec P (.indexAddr t x i) ty env L (0 ≤ idx ∧ idx < len) (Lt j len) (.pointer (some ⟨blk a, offs a + j * sz, none⟩)) :=
  ⟨fun dst pos after guard B w h hs => index_run (env := env) (L := L) (e := e) (a := a) (len := len) (c := c) (k := k) (idx := idx) (sz := sz) (j := j) dst pos after guard B w h hs, fun h => ⟨by have := n.h; omega⟩⟩

/-- Which element, and which of its cells. -/
class Off2 (o b k : Nat) (j f : outParam Nat) : Prop where h : o = b + (j * k + f)
instance (priority := high) off2_one (b j : Nat) : Off2 (b + j) b 1 j 0 := ⟨by omega⟩
instance (priority := high) off2_both (b j k f : Nat) : Off2 (b + j * k + f) b k j f := ⟨by omega⟩
instance off2_head (b j k : Nat) : Off2 (b + j * k) b k j 0 := ⟨by omega⟩

theorem ro_cell {α : Type} [Rep α] {B : World} {s : Sl α} {w : World} {j f : Nat} {vs : List Value} {v : Value} (hs : sat B (roS s :: L) w) (hj : j < s.xs.length) (he : Rep.enc s.xs[j] = vs) (hv : vs[f]? = some v) :
    w.cell? ⟨blk s.a, offs s.a + (j * Rep.k α + f), none⟩ = some v := by
  obtain ⟨h, a, hr⟩ := hs.headOf
  have hf : f < Rep.k α := by
    have : f < vs.length := by
      rcases Nat.lt_or_ge f vs.length with h | h
      · exact h
      · rw [List.getElem?_eq_none h] at hv; cases hv
    rw [← he, Rep.len] at this; exact this
  exact (hr _ _ _ (a.2.1 _ v (by rw [flat_get _ _ hj _ hf, he]; exact hv))).1

theorem own_cell {α : Type} [Rep α] {B : World} {s : Sl α} {w : World} {j f : Nat} {vs : List Value} {v : Value} (hs : sat B (ownS s :: L) w) (hj : j < s.xs.length) (he : Rep.enc s.xs[j] = vs) (hv : vs[f]? = some v) :
    w.cell? ⟨blk s.a, offs s.a + (j * Rep.k α + f), none⟩ = some v := by
  obtain ⟨h, ⟨a1, ⟨room, hr1, a2⟩, a3⟩, hr⟩ := hs.headOf
  have hf : f < Rep.k α := by
    have : f < vs.length := by
      rcases Nat.lt_or_ge f vs.length with h | h
      · exact h
      · rw [List.getElem?_eq_none h] at hv; cases hv
    rw [← he, Rep.len] at this; exact this
  refine (hr _ _ _ (a2 _ v ?_)).1
  have h1 := flat_get s.xs j hj f hf
  rw [List.getElem?_append_left, h1, he]; exact hv
  rcases Nat.lt_or_ge (j * Rep.k α + f) (flat s.xs).length with h | h
  · exact h
  · rw [List.getElem?_eq_none h, he, hv] at h1; cases h1

instance ld_ro {α : Type} [Rep α] (s : Sl α) (r o k j f : Nat) (vs : List Value) (v : Value) [er : Eq1 (blk s.a) r] [kk : KIs α k] [q : Off2 o (offs s.a) k j f] [lt : Lt j s.xs.length] [e : EncIs α (s.xs[j]'lt.h) vs] [n : NthL vs f v] :
    Ld (roS s :: L) r o v := ⟨fun B w hs => by rw [← er.h, q.h, ← kk.h]; exact ro_cell hs lt.h e.h n.h⟩
instance ld_own {α : Type} [Rep α] (s : Sl α) (r o k j f : Nat) (vs : List Value) (v : Value) [er : Eq1 (blk s.a) r] [kk : KIs α k] [q : Off2 o (offs s.a) k j f] [lt : Lt j s.xs.length] [e : EncIs α (s.xs[j]'lt.h) vs] [n : NthL vs f v] :
    Ld (ownS s :: L) r o v := ⟨fun B w hs => by rw [← er.h, q.h, ← kk.h]; exact own_cell hs lt.h e.h n.h⟩

instance rexec_load (t : TypeId) (x : Operand) (r o : Nat) (v : Value) [e : EvO env x (.pointer (some ⟨r, o, none⟩))] [a : TAgg P t false] [l : Ld L r o v] :
    RExec P (.load t x) ty env L v L :=
  ⟨fun dst pos after guard B w hs => ⟨by simp [execOp, e.h, Instr.loadAt, Instr.sureAddr, loadVar, a.h, l.h B w hs], hs⟩⟩

/-- Several cells in a row. -/
class LdN (L : List HProp) (r o k : Nat) (vs : outParam (List Value)) : Prop where
  h : ∀ B w, sat B L w → ∀ j v, vs[j]? = some v → w.cell? ⟨r, o + j, none⟩ = some v
  len : vs.length = k

class SubL (l : List Value) (i k : Nat) (m : outParam (List Value)) : Prop where
  h : ∀ j v, m[j]? = some v → l[i + j]? = some v
  len : m.length = k
instance (priority := high) subl_nil (l : List Value) : SubL l 0 0 [] := ⟨fun j v h => by simp at h, rfl⟩
instance subl_take (v : Value) (l m : List Value) (k : Nat) [s : SubL l 0 k m] : SubL (v :: l) 0 (k + 1) (v :: m) := ⟨fun j u h => by
  cases j with
  | zero => simpa using h
  | succ j => have := s.h j u (by simpa using h); simpa using this, by simp [s.len]⟩
instance (priority := high) ldn_here (b : Bool) (r o₀ o i k : Nat) (vs ms : List Value) [q : OffIs o o₀ i] [n : SubL vs i k ms] : LdN (cells b r o₀ vs :: L) r o k ms :=
  ⟨fun B w hs j v hj => by rw [q.h, Nat.add_assoc]; exact hs.cell (n.h j v hj), n.len⟩
instance (priority := low) ldn_next (A : HProp) (r o k : Nat) (vs : List Value) [l : LdN L r o k vs] : LdN (A :: L) r o k vs := ⟨fun B w hs => l.h B w hs.tail, l.len⟩
instance ldn_ro {α : Type} [Rep α] (s : Sl α) (r o k j : Nat) (vs : List Value) [er : Eq1 (blk s.a) r] [kk : KIs α k] [q : Off2 o (offs s.a) k j 0] [lt : Lt j s.xs.length] [e : EncIs α (s.xs[j]'lt.h) vs] :
    LdN (roS s :: L) r o k vs := ⟨fun B w hs i v hi => by
      rw [← er.h]
      have e1 : o + i = offs s.a + (j * Rep.k α + i) := by rw [q.h, kk.h]; omega
      rw [e1]; exact ro_cell hs lt.h e.h hi, by rw [← e.h, Rep.len, kk.h]⟩
instance ldn_own {α : Type} [Rep α] (s : Sl α) (r o k j : Nat) (vs : List Value) [er : Eq1 (blk s.a) r] [kk : KIs α k] [q : Off2 o (offs s.a) k j 0] [lt : Lt j s.xs.length] [e : EncIs α (s.xs[j]'lt.h) vs] :
    LdN (ownS s :: L) r o k vs := ⟨fun B w hs i v hi => by
      rw [← er.h]
      have e1 : o + i = offs s.a + (j * Rep.k α + i) := by rw [q.h, kk.h]; omega
      rw [e1]; exact own_cell hs lt.h e.h hi, by rw [← e.h, Rep.len, kk.h]⟩

instance rexec_loadN (t : TypeId) (x : Operand) (r o k : Nat) (vs : List Value) [e : EvO env x (.pointer (some ⟨r, o, none⟩))] [a : TAgg P t true] [z : TSize P t k] [l : LdN L r o k vs] :
    RExec P (.load t x) ty env L (.agg vs.toArray) L :=
  ⟨fun dst pos after guard B w hs => ⟨by
    have hc : ∀ j v, vs[j]? = some v → w.cell? ((⟨r, o, none⟩ : Addr).add j) = some v := fun j v hj => by rw [Addr.add_lit]; exact l.h B w hs j v hj
    have := run_loadCells_list (P := P) (w := w) ⟨r, o, none⟩ vs hc
    rw [l.len] at this
    simp [execOp, e.h, Instr.loadAt, Instr.sureAddr, loadVar, a.h, z.h, this], hs⟩⟩
end
end Go.SL
namespace Go.SL

section
variable {P : Program} {B : World} {n : Nat} {Q : Post} {K : Kont} {env : Env} {L : List HProp}

class NthO (l : List Oper) (i : Nat) (o : outParam Oper) : Prop where h : l[i]? = some o
instance ntho_zero (o : Oper) (l : List Oper) : NthO (o :: l) 0 o := ⟨rfl⟩
instance ntho_succ (u o : Oper) (l : List Oper) (i : Nat) [h : NthO l i o] : NthO (u :: l) (i + 1) o := ⟨by simpa using h.h⟩

/-- The way through a drawn region, by the function's frame size and the region's number: printed by a program, checked where it is used. -/
class PlanOf (n id : Nat) (plan : outParam (Plan)) : Prop

class Mixed (P : Program) : Prop where h : P.follows .mixedOrders = true

instance adv_draw (id : Nat) (l : List Oper) (plan : Plan) [p : PlanOf n id plan] [m : Mixed P] :
    Adv (Sy P B n (.region id l.toArray true) Q env L) (Side (planOk l plan [] [] [] = true) (RP P B n l plan [] [] (fun env L => Q .normal env L) env L)) :=
  ⟨fun h => Sy_draw plan m.h h.side h.rest⟩

variable {l : List Oper} {plan : Plan} {S M R : List Nat}

theorem wanted_none {ops : Array Oper} {o : Oper} (h : o.guard = none) : Region.wanted o (yv ops env) = true := by unfold Region.wanted; rw [h]
theorem wanted_some {ops : Array Oper} {o : Oper} {j : Nat} {b : Bool} (h : o.guard = some (j, b)) (hy : yv ops env j = some b) : Region.wanted o (yv ops env) = true := by
  unfold Region.wanted; rw [h]; simp [hy]
theorem unwanted_some {ops : Array Oper} {o : Oper} {j : Nat} {b : Bool} (h : o.guard = some (j, b)) (hy : yv ops env j = some (!b) ∨ yv ops env j = none) : Region.wanted o (yv ops env) = false := by
  unfold Region.wanted; rw [h]; rcases hy with hy | hy <;> simp [hy]

theorem wanted_nd {l : List Oper} {o : Oper} {j s : Nat} {b : Bool} (h : o.guard = some (j, b)) (nd : NthD l j s) (e : env s = .bool b) : Region.wanted o (yv l.toArray env) = true :=
  wanted_some h (yv_of nd e)
theorem unwanted_nd {l : List Oper} {o : Oper} {j s : Nat} {b : Bool} (h : o.guard = some (j, b)) (nd : NthD l j s) (e : env s = .bool (!b) ∨ env s = undef) : Region.wanted o (yv l.toArray env) = false :=
  unwanted_some h (e.imp (yv_of nd) (yv_undef nd))

/-- Is the operation run? -/
class Wtd (l : List Oper) (env : Env) (g : Option (Nat × Bool)) (b : outParam Bool) : Prop where
  h : ∀ o : Oper, o.guard = g → Region.wanted o (yv l.toArray env) = b
instance wtd_none : Wtd l env none true := ⟨fun _ h => wanted_none h⟩
instance wtd_yes (j s : Nat) (b : Bool) [nd : NthD l j s] [e : Ev env s (.bool b)] : Wtd l env (some (j, b)) true := ⟨fun _ h => wanted_nd h nd e.h⟩
instance wtd_noT (j s : Nat) [nd : NthD l j s] [e : Ev env s (.bool false)] : Wtd l env (some (j, true)) false := ⟨fun _ h => unwanted_nd h nd (.inl e.h)⟩
instance wtd_noF (j s : Nat) [nd : NthD l j s] [e : Ev env s (.bool true)] : Wtd l env (some (j, false)) false := ⟨fun _ h => unwanted_nd h nd (.inl e.h)⟩
instance wtd_undef (j s : Nat) (b : Bool) [nd : NthD l j s] [e : Ev env s undef] : Wtd l env (some (j, b)) false := ⟨fun _ h => unwanted_nd h nd (.inr e.h)⟩

instance adv_calc (i d : Nat) (op : Op) (ty : TypeId) (pos : String) (after : Array Edge) (g : Option (Nat × Bool)) (v : Value) [o : NthO l i ⟨some d, op, ty, pos, after, g⟩] [w : Wtd l env g true] [p : PExec P op ty env v] :
    Adv (RP P B n l (.calc i plan) S M K env L) (RP P B n l plan (i :: S) M K (upd env d v) L) :=
  ⟨RP_calc o.h rfl ⟨_, d, o.h, rfl, .inl ⟨w.h _ rfl, fun wd _ => p.run _ _ _ _ wd⟩⟩⟩
instance adv_ccalc (i d : Nat) (op : Op) (ty : TypeId) (pos : String) (after : Array Edge) (g : Option (Nat × Bool)) (φ : Prop) (v : Value) [o : NthO l i ⟨some d, op, ty, pos, after, g⟩] [w : Wtd l env g true] [p : CExec P op ty env φ v] :
    Adv (RP P B n l (.calc i plan) S M K env L) (Side φ (RP P B n l plan (i :: S) M K (upd env d v) L)) :=
  ⟨fun h => RP_calc o.h rfl ⟨_, d, o.h, rfl, .inl ⟨w.h _ rfl, fun wd _ => p.run _ _ _ _ wd h.side⟩⟩ h.rest⟩
instance adv_calcN (i d : Nat) (op : Op) (ty : TypeId) (pos : String) (after : Array Edge) (g : Option (Nat × Bool)) [o : NthO l i ⟨some d, op, ty, pos, after, g⟩] [w : Wtd l env g false] :
    Adv (RP P B n l (.calc i plan) S M K env L) (RP P B n l plan (i :: S) M K (upd env d undef) L) :=
  ⟨RP_calc o.h rfl ⟨_, d, o.h, rfl, .inr ⟨w.h _ rfl, rfl⟩⟩⟩

theorem RP_state {env' : Env} {L' : List HProp} (h : RP P B n l plan S M K env' L') (he : ∀ t, env t = env' t) (hL : ∀ w, sat B L w → sat B L' w) : RP P B n l plan S M K env L := by
  have e : env = env' := funext he
  subst e
  exact fun hp hn D _ fuel listed a w R hs hf => h hp hn D (fun _ h => by cases h) fuel listed a w R (hL w hs) hf

instance adv_read (i d : Nat) (op : Op) (ty : TypeId) (pos : String) (after : Array Edge) (g : Option (Nat × Bool)) (v : Value) (L' : List HProp) [o : NthO l i ⟨some d, op, ty, pos, after, g⟩] [w : Wtd l env g true] [p : RExec P op ty env L v L'] :
    Adv (RP P B n l (.read i plan) S M K env L) (RP P B n l plan (i :: S) (i :: M) K (upd env d v) L') :=
  ⟨fun h => RP_read o.h rfl ⟨_, d, o.h, rfl, .inl ⟨w.h _ rfl, fun wd hs => (p.run _ _ _ _ B wd hs).1⟩⟩ (RP_state h (fun _ => rfl) fun wd hs => (p.run none "" #[] none B wd hs).2)⟩
instance adv_cread (i d : Nat) (op : Op) (ty : TypeId) (pos : String) (after : Array Edge) (g : Option (Nat × Bool)) (φ ψ : Prop) (v : Value) [o : NthO l i ⟨some d, op, ty, pos, after, g⟩] [w : Wtd l env g true] [p : CRExec P op ty env L φ ψ v] :
    Adv (RP P B n l (.read i plan) S M K env L) (Side φ (Giv ψ (RP P B n l plan (i :: S) (i :: M) K (upd env d v) L))) :=
  ⟨fun h => RP_read o.h rfl ⟨_, d, o.h, rfl, .inl ⟨w.h _ rfl, fun wd hs => p.run _ _ _ _ B wd h.side hs⟩⟩ (h.rest.giv (p.giv h.side))⟩
instance adv_readN (i d : Nat) (op : Op) (ty : TypeId) (pos : String) (after : Array Edge) (g : Option (Nat × Bool)) [o : NthO l i ⟨some d, op, ty, pos, after, g⟩] [w : Wtd l env g false] :
    Adv (RP P B n l (.read i plan) S M K env L) (RP P B n l plan (i :: S) (i :: M) K (upd env d undef) L) :=
  ⟨RP_read o.h rfl ⟨_, d, o.h, rfl, .inr ⟨w.h _ rfl, rfl⟩⟩⟩

/-- What was read ahead of an act reads the same behind it. -/
class AgainI (P : Program) (l : List Oper) (hs : List Nat) (env : Env) (L : List HProp) : Prop where h : ∀ B, Again P B l env L hs
instance again_nil : AgainI P l [] env L := ⟨fun _ _ h => by cases h⟩
instance again_cons (j d : Nat) (hs : List Nat) (op : Op) (ty : TypeId) (pos : String) (after : Array Edge) (g : Option (Nat × Bool)) (v : Value) (L' : List HProp) [o : NthO l j ⟨some d, op, ty, pos, after, g⟩] [w : Wtd l env g true]
    [p : RExec P op ty env L v L'] [e : Ev env d v] [r : AgainI P l hs env L] : AgainI P l (j :: hs) env L :=
  ⟨fun B k hk wd hs' => by
    rcases List.mem_cons.1 hk with rfl | hk
    · exact ⟨_, d, o.h, rfl, .inl ⟨w.h _ rfl, by rw [e.h]; exact (p.run _ _ _ _ B wd hs').1⟩⟩
    · exact r.h B k hk wd hs'⟩
/-- An index into a slice, read again. -/
class IdxAgain (P : Program) (op : Op) (ty : TypeId) (env : Env) (L : List HProp) (v : outParam Value) : Prop where
  run : ∀ dst pos after guard B w, sat B L w → (execOp (ev env) ⟨dst, op, ty, pos, after, guard⟩).run P w = .ok (.value v) w
instance (priority := high) idxAgain1 (ty : TypeId) (t e : TypeId) (x i : Operand) (a : Option Addr) (len c j : Nat) (k : IntKind) [ex : EvO env x (.slice a len c)] [ei : EvO env i (.int k (j : Int))]
    [u : TUnd P t (.slice e)] [z : TSize P e 1] [s : SlAt L a len] [lt : Lt j len] : IdxAgain P (.indexAddr t x i) ty env L (.pointer (some ⟨blk a, offs a + j, none⟩)) :=
  ⟨fun dst pos after guard B w hs => (cr_index1 (P := P) (env := env) (L := L) (ty := ty) t e x i a len c j k (j : Int)).run dst pos after guard B w (by have := lt.h; omega) hs⟩
instance idxAgain (ty : TypeId) (t e : TypeId) (x i : Operand) (a : Option Addr) (len c j sz : Nat) (k : IntKind) [ex : EvO env x (.slice a len c)] [ei : EvO env i (.int k (j : Int))]
    [u : TUnd P t (.slice e)] [z : TSize P e sz] [s : SlAt L a len] [lt : Lt j len] : IdxAgain P (.indexAddr t x i) ty env L (.pointer (some ⟨blk a, offs a + j * sz, none⟩)) :=
  ⟨fun dst pos after guard B w hs => (cr_index (P := P) (env := env) (L := L) (ty := ty) t e x i a len c sz j k (j : Int)).run dst pos after guard B w (by have := lt.h; omega) hs⟩
instance again_idx (j d : Nat) (hs : List Nat) (op : Op) (ty : TypeId) (pos : String) (after : Array Edge) (g : Option (Nat × Bool)) (v : Value) [o : NthO l j ⟨some d, op, ty, pos, after, g⟩] [w : Wtd l env g true]
    [p : IdxAgain P op ty env L v] [e : Ev env d v] [r : AgainI P l hs env L] : AgainI P l (j :: hs) env L :=
  ⟨fun B k hk wd hs' => by
    rcases List.mem_cons.1 hk with rfl | hk
    · exact ⟨_, d, o.h, rfl, .inl ⟨w.h _ rfl, by rw [e.h]; exact p.run _ _ _ _ B wd hs'⟩⟩
    · exact r.h B k hk wd hs'⟩
/-- Behind an act: what must read the same, then the rest. -/
structure Behind (P : Program) (B : World) (l : List Oper) (hs : List Nat) (env : Env) (L : List HProp) (ψ : Prop) : Prop where
  again : Again P B l env L hs
  rest : ψ
instance adv_behind (hs : List Nat) (ψ : Prop) [a : AgainI P l hs env L] : Adv (Behind P B l hs env L ψ) ψ := ⟨fun h => ⟨a.h B, h⟩⟩

instance adv_act (i d : Nat) (hs : List Nat) (op : Op) (ty : TypeId) (pos : String) (after : Array Edge) (g : Option (Nat × Bool)) (G : (Value → List HProp → Prop) → Prop) [o : NthO l i ⟨some d, op, ty, pos, after, g⟩] [w : Wtd l env g true]
    [x : Exec P op ty env L G] : Adv (RPR P B n l (.act i hs plan) S M R K env L) (G fun v L' => Behind P B l hs (upd env d v) L' (RP P B n l plan (i :: S) M K (upd env d v) L')) :=
  ⟨fun h => RP_act o.h (w.h _ rfl) ((x.ex B _ _ _ _ _ h).mono fun v L' hb => ⟨hb.again, hb.rest⟩)⟩
instance adv_act0 (i : Nat) (hs : List Nat) (op : Op) (ty : TypeId) (pos : String) (after : Array Edge) (g : Option (Nat × Bool)) (G : (Value → List HProp → Prop) → Prop) [o : NthO l i ⟨none, op, ty, pos, after, g⟩] [w : Wtd l env g true]
    [x : Exec P op ty env L G] : Adv (RPR P B n l (.act i hs plan) S M R K env L) (G fun _ L' => Behind P B l hs env L' (RP P B n l plan (i :: S) M K env L')) :=
  ⟨fun h => RP_act o.h (w.h _ rfl) ((x.ex B _ _ _ _ _ h).mono fun v L' hb => ⟨hb.again, hb.rest⟩)⟩
/-- Two ways on. -/
structure Fork (φ ψ : Prop) : Prop where
  now : φ
  later : ψ
instance adv_fork (i d : Nat) (hs : List Nat) (q : Plan) (op : Op) (ty : TypeId) (pos : String) (after : Array Edge) (g : Option (Nat × Bool)) (G : (Value → List HProp → Prop) → Prop) [o : NthO l i ⟨some d, op, ty, pos, after, g⟩] [w : Wtd l env g true]
    [x : Exec P op ty env L G] : Adv (RPR P B n l (.fork i hs plan q) S M R K env L) (Fork (G fun v L' => Behind P B l hs (upd env d v) L' (RP P B n l plan (i :: S) M K (upd env d v) L')) (RPR P B n l q S M (i :: R) K env L)) :=
  ⟨fun h => RP_fork o.h (w.h _ rfl) ((x.ex B _ _ _ _ _ h.now).mono fun v L' hb => ⟨hb.again, hb.rest⟩) h.later⟩
instance adv_rp_nil : Adv (RP P B n l .nil S M K env L) (K env L) := ⟨RP_nil⟩

/-- A guard that is not known: both ways. -/
theorem RP_guard {s : Nat} {b : Bool} {φ : Prop} (e : env s = .bool b) (p : BoolP b φ) (h : Two φ (RP P B n l plan S M K (upd env s (.bool true)) L) (RP P B n l plan S M K (upd env s (.bool false)) L)) :
    RP P B n l plan S M K env L := by
  cases hb : b with
  | true =>
    refine RP_state (h.yes (p.iff.1 hb)) (fun t => ?_) (fun _ h => h)
    rw [upd_eq]; split
    · rename_i ht; rw [ht, e, hb]
    · rfl
  | false =>
    refine RP_state (h.no (fun hp => by rw [p.iff.2 hp] at hb; cases hb)) (fun t => ?_) (fun _ h => h)
    rw [upd_eq]; split
    · rename_i ht; rw [ht, e, hb]
    · rfl
instance (priority := low) adv_calcG (i d j s : Nat) (want b : Bool) (φ : Prop) (op : Op) (ty : TypeId) (pos : String) (after : Array Edge) [o : NthO l i ⟨some d, op, ty, pos, after, some (j, want)⟩] [nd : NthD l j s] [e : Ev env s (.bool b)] [p : BoolP b φ] :
    Adv (RP P B n l (.calc i plan) S M K env L) (Two φ (RP P B n l (.calc i plan) S M K (upd env s (.bool true)) L) (RP P B n l (.calc i plan) S M K (upd env s (.bool false)) L)) := ⟨RP_guard e.h p⟩
instance (priority := low) adv_readG (i d j s : Nat) (want b : Bool) (φ : Prop) (op : Op) (ty : TypeId) (pos : String) (after : Array Edge) [o : NthO l i ⟨some d, op, ty, pos, after, some (j, want)⟩] [nd : NthD l j s] [e : Ev env s (.bool b)] [p : BoolP b φ] :
    Adv (RP P B n l (.read i plan) S M K env L) (Two φ (RP P B n l (.read i plan) S M K (upd env s (.bool true)) L) (RP P B n l (.read i plan) S M K (upd env s (.bool false)) L)) := ⟨RP_guard e.h p⟩
/-- An act that its guard bars: nothing is done; what was read stays read. -/
theorem RP_actN {i d : Nat} {hs : List Nat} {o : Oper} (ho : l[i]? = some o) (hd : o.dst = some d) (hw : Region.wanted o (yv l.toArray env) = false) (h : RP P B n l (.calc i plan) S M K env L) :
    RP P B n l (.act i hs plan) S M K env L := by
  intro hp hn D
  simp only [planOk, Bool.and_eq_true] at hp
  refine h ?_ hn D
  simp only [planOk, Bool.and_eq_true]
  exact ⟨⟨hp.1.1.1, hp.2⟩, rfl⟩
instance adv_actN (i d : Nat) (hs : List Nat) (op : Op) (ty : TypeId) (pos : String) (after : Array Edge) (g : Option (Nat × Bool)) [o : NthO l i ⟨some d, op, ty, pos, after, g⟩] [w : Wtd l env g false] :
    Adv (RP P B n l (.act i hs plan) S M K env L) (RP P B n l plan (i :: S) M K (upd env d undef) L) :=
  ⟨fun h => RP_actN o.h rfl (w.h _ rfl) (RP_calc o.h rfl ⟨_, d, o.h, rfl, .inr ⟨w.h _ rfl, rfl⟩⟩ h)⟩

/-- The slots hold these. -/
inductive EvAll (env : Env) : List (Nat × Value) → Prop
  | nil : EvAll env []
  | cons {t : Nat} {v : Value} {l : List (Nat × Value)} : env t = v → EvAll env l → EvAll env ((t, v) :: l)

def upds (env : Env) : List (Nat × Value) → Env
  | [] => env
  | (t, v) :: l => upd (upds env l) t v

theorem EvAll.upds_eq {env : Env} : ∀ {l : List (Nat × Value)}, EvAll env l → upds env l = env
  | [], _ => rfl
  | (t, v) :: l, .cons h hl => by
    funext s
    rw [upds, upd_eq, hl.upds_eq]
    split
    · rename_i e; rw [e, h]
    · rfl

def loopQ {ι : Type} (slots : ι → List (Nat × Value)) (H : ι → List HProp) (μ : ι → Nat) (B : World) (i : ι) (Q : Post) : Post := fun e env L => match e with
  | .normal => ∃ j, μ j < μ i ∧ EvAll env (slots j) ∧ ∀ w, sat B L w → sat B (H j) w
  | e => Q e env L

theorem Sy_loop {ι : Type} {c : Code} (slots : ι → List (Nat × Value)) (H : ι → List HProp) (μ : ι → Nat) (i₀ : ι) (h0 : EvAll env (slots i₀)) (hL : ∀ w, sat B L w → sat B (H i₀) w)
    (round : ∀ i env, Sy P B n c (loopQ slots H μ B i Q) (upds env (slots i)) (H i)) : Sy P B n (.loop c) Q env L := by
  intro ok a w hr hs
  refine wp_loop_ghost (fun k a w => ∃ i env, μ i = k ∧ rel n a env ∧ EvAll env (slots i) ∧ sat B (H i) w) (μ i₀) ⟨i₀, env, rfl, hr, h0, hL w hs⟩ ?_
  rintro k a w ⟨i, env', rfl, hr', he, hs'⟩
  have h1 := round i env'
  rw [he.upds_eq] at h1
  refine wp_mono (h1 ok a w hr' hs') ?_
  rintro e a' w' ⟨env2, L2, hr2, hs2, hq⟩
  cases e with
  | normal =>
    obtain ⟨j, hj, hev, hH⟩ := hq
    exact ⟨μ j, hj, j, env2, rfl, hr2, hev, hH w' hs2⟩
  | _ => exact ⟨env2, L2, hr2, hs2, hq⟩

/-- The list ends in F. -/
class Tl (R F : List HProp) : Prop where out : ∀ B X w, sat B (X ++ R) w → sat B (X ++ F) w
instance (priority := high) tl_here (F : List HProp) : Tl F F := ⟨fun _ _ _ h => h⟩
instance tl_next (A : HProp) (R F : List HProp) [t : Tl R F] : Tl (A :: R) F := ⟨fun B X w h => t.out B X w (by
  have h1 : sat B (A :: (X ++ R)) w := h.perm List.perm_middle
  exact h1.tail)⟩

theorem to_state {M R F : List HProp} {w : World} (p : Picks M L R) (t : Tl R F) (hs : sat B L w) : sat B (M ++ F) w :=
  t.out B M w (by simpa using p.out B [] w (by simpa using hs))

section ends
variable {fn : Func} {post : Value → List HProp → Prop} {F M R : List HProp} {x : Exit}
class Fin (x : Exit) : Prop where h : x = .normal ∨ x = .ret
instance fin_n : Fin .normal := ⟨.inl rfl⟩
instance fin_r : Fin .ret := ⟨.inr rfl⟩
theorem endQ.none (hr : fn.results = #[]) [f : Fin x] (hp : post (.tuple #[]) M) [p : Picks M L R] [t : Tl R F] : endQ P fn post B F x env L :=
  ⟨f.h, _, M, resOf_none hr, hp, fun _ hs => to_state p t hs⟩
theorem endQ.one {t : Nat} {v : Value} (hr : fn.results = #[.tmp t]) [f : Fin x] [e : Ev env t v] (hp : post v M) [p : Picks M L R] [tl : Tl R F] : endQ P fn post B F x env L :=
  ⟨f.h, v, M, resOf_one hr e.h, hp, fun _ hs => to_state p tl hs⟩
theorem endQ.two {t u : Nat} {v y : Value} (hr : fn.results = #[.tmp t, .tmp u]) [f : Fin x] [e : Ev env t v] [e' : Ev env u y] (hp : post (.tuple #[v, y]) M) [p : Picks M L R] [tl : Tl R F] : endQ P fn post B F x env L :=
  ⟨f.h, _, M, resOf_two hr e.h e'.h, hp, fun _ hs => to_state p tl hs⟩
/-- A round is over. -/
theorem loopQ.next {ι : Type} {slots : ι → List (Nat × Value)} {H : ι → List HProp} {μ : ι → Nat} {i : ι} (j : ι) (h : μ j < μ i) (he : EvAll env (slots j)) (hL : ∀ w, sat B L w → sat B (H j) w) :
    loopQ slots H μ B i Q .normal env L := ⟨j, h, he, hL⟩
instance adv_loop_x {ι : Type} (slots : ι → List (Nat × Value)) (H : ι → List HProp) (μ : ι → Nat) (i : ι) (k : Nat) : Adv (loopQ slots H μ B i Q (.exit k) env L) (Q (.exit k) env L) := ⟨id⟩
instance adv_loop_r {ι : Type} (slots : ι → List (Nat × Value)) (H : ι → List HProp) (μ : ι → Nat) (i : ι) : Adv (loopQ slots H μ B i Q .ret env L) (Q .ret env L) := ⟨id⟩

theorem evs {t : Nat} {v u : Value} {l : List (Nat × Value)} [e : Ev env t v] (h : v = u) (hl : EvAll env l) : EvAll env ((t, u) :: l) := .cons (e.h.trans h) hl
end ends
end
/-- A condition that numbers settle. -/
theorem Side.go {φ ψ : Prop} (r : ψ) (h : φ := by first | omega | decide | (simp only [List.length_append, List.length_cons, List.length_nil, List.length_map, List.length_replicate]; omega)) : Side φ ψ := ⟨h, r⟩
theorem lcA {α : Type} (a : α) (l m : List α) : (a :: l) ++ m = a :: (l ++ m) := rfl
theorem lnA {α : Type} (m : List α) : [] ++ m = m := rfl
end Go.SL
namespace Go.SL

section
variable {P : Program} {env : Env} {ty : TypeId} {L : List HProp}

/-- The cells of a value. -/
class CellsOf (v : Value) (vs : outParam (List Value)) : Prop where h : v.cells = vs.toArray
instance (priority := high) cellsOf_agg (l : List Value) : CellsOf (.agg l.toArray) l := ⟨rfl⟩
instance cellsOf_one (v : Value) [o : One v] : CellsOf v [v] := ⟨cells_one o.h⟩

instance exec_box (t : TypeId) (x : Operand) (v : Value) (vs : List Value) [e : EvO env x v] [c : CellsOf v vs] :
    Exec P (.box t x) ty env L (fun K => All fun r => K (.pointer (some ⟨r, 0, none⟩)) (cells true r 0 vs :: L)) :=
  ⟨fun B dst pos after guard K hk w hs => .inl ⟨.pointer (some ⟨w.heap.size, 0, none⟩), w.alloc (.cells vs.toArray t), _, by
    simp [execOp, e.h, Instr.box, newVar, newRow, newObj, Sem.run, c.h], by simpa using hs.alloc_cells (c := vs.toArray) (t := t), hk.all _⟩⟩

instance exec_alloc (t : TypeId) (z : Value) (zs : List Value) [e : TZero P t z] [c : CellsOf z zs] :
    Exec P (.alloc t) ty env L (fun K => All fun r => K (.pointer (some ⟨r, 0, none⟩)) (cells true r 0 zs :: L)) :=
  ⟨fun B dst pos after guard K hk w hs => .inl ⟨.pointer (some ⟨w.heap.size, 0, none⟩), w.alloc (.cells zs.toArray t), _, by
    simp [execOp, Instr.alloc, newVar, newRow, newObj, Sem.run, c.h, e.h], by simpa using hs.alloc_cells (c := zs.toArray) (t := t), hk.all _⟩⟩

/-- A run of cells written over others. -/
class PutC (zs : List Value) (o : Nat) (cs : List Value) (out : outParam (List Value)) : Prop where
  h : out = zs.take o ++ cs ++ zs.drop (o + cs.length)
  le : o + cs.length ≤ zs.length
instance (priority := high) putc_nil (zs : List Value) : PutC zs 0 [] zs := ⟨by simp, by simp⟩
instance putc_cons (z c : Value) (zs cs out : List Value) [p : PutC zs 0 cs out] : PutC (z :: zs) 0 (c :: cs) (c :: out) := ⟨by
  have h := p.h; simp at h
  rw [h]; simp, by have := p.le; simp at this ⊢; omega⟩
instance putc_next (z : Value) (o : Nat) (zs cs out : List Value) [p : PutC zs o cs out] : PutC (z :: zs) (o + 1) cs (z :: out) := ⟨by
  have h := p.h
  have e : o + 1 + cs.length = (o + cs.length) + 1 := by omega
  rw [h, e]; simp, by have := p.le; simp; omega⟩

theorem foldl_putL (o : Nat) : ∀ (cs zs : List Value) (k : Nat), o + k + cs.length ≤ zs.length →
    (cs.zipIdx k).foldl (fun (a : Array Value) (x : Value × Nat) => a.setIfInBounds (o + x.2) x.1) zs.toArray = (zs.take (o + k) ++ cs ++ zs.drop (o + k + cs.length)).toArray
  | [], zs, k, _ => by simp
  | c :: cs, zs, k, h => by
    simp only [List.length_cons] at h
    have ih := foldl_putL o cs (zs.set (o + k) c) (k + 1) (by simp; omega)
    simp only [List.zipIdx_cons, List.foldl_cons, List.setIfInBounds_toArray, List.length_cons] at ih ⊢
    rw [ih]
    congr 1
    have e1 : o + (k + 1) = o + k + 1 := by omega
    have e2 : o + k + (cs.length + 1) = o + k + 1 + cs.length := by omega
    rw [e1, e2, List.take_succ_eq_append_getElem (by simp; omega), List.take_set_of_le (Nat.le_refl _), List.drop_set_of_lt (by omega)]
    simp

theorem foldl_put (o : Nat) (cs zs : List Value) (h : o + cs.length ≤ zs.length) :
    cs.toArray.zipIdx.foldl (fun (a : Array Value) (x : Value × Nat) => a.setIfInBounds (o + x.2) x.1) zs.toArray = (zs.take o ++ cs ++ zs.drop (o + cs.length)).toArray := by
  rw [← Array.foldl_toList, Array.toList_zipIdx]
  exact foldl_putL o cs zs 0 (by omega)

theorem putc_run {zs cs out : List Value} {o : Nat} (p : PutC zs o cs out) :
    (cs.toArray.zipIdx).foldl (fun (a : Array Value) (x : Value × Nat) => a.setIfInBounds (o + x.2) x.1) zs.toArray = out.toArray := by
  rw [foldl_put o cs zs p.le, p.h]

class NthP (l : List (Nat × Nat)) (i : Nat) (o s : outParam Nat) : Prop where h : l[i]? = some (o, s)
instance nthp_zero (o s : Nat) (l : List (Nat × Nat)) : NthP ((o, s) :: l) 0 o s := ⟨rfl⟩
instance nthp_succ (u : Nat × Nat) (l : List (Nat × Nat)) (i o s : Nat) [h : NthP l i o s] : NthP (u :: l) (i + 1) o s := ⟨by simpa using h.h⟩
class LenIs (l : List Value) (n : outParam Nat) : Prop where h : l.length = n
instance lenIs_nil : LenIs [] 0 := ⟨rfl⟩
instance lenIs_cons (v : Value) (l : List Value) (n : Nat) [h : LenIs l n] : LenIs (v :: l) (n + 1) := ⟨by simp [h.h]⟩

/-- The parts of a literal, laid into the zero value's cells. -/
class FillC (env : Env) (ps : List (Nat × Nat)) (zs : List Value) (parts : List (Nat × Operand)) (out : outParam (List Value)) : Prop where
  h : Instr.fill (fun i => ps[i]?) zs.toArray (parts.map fun p => (p.1, ev env p.2)) = some out.toArray
instance fillc_nil (ps : List (Nat × Nat)) (zs : List Value) : FillC env ps zs [] zs := ⟨rfl⟩
instance fillc_cons (ps : List (Nat × Nat)) (zs zs' cs out : List Value) (i o s n : Nat) (x : Operand) (v : Value) (rest : List (Nat × Operand)) [np : NthP ps i o s] [e : EvO env x v] [c : CellsOf v cs] [l : LenIs cs n] [sn : SameB (Nat.beq n s) true]
    [p : PutC zs o cs zs'] [f : FillC env ps zs' rest out] : FillC env ps zs ((i, x) :: rest) out := ⟨by
  have hs : cs.length = s := by rw [l.h]; exact Nat.eq_of_beq_eq_true sn.h
  have hp := putc_run p
  have hle := p.le
  simp only [List.map_cons, Instr.fill, np.h, e.h, c.h, List.size_toArray, hs]
  rw [if_neg (by rw [hs] at hle; simp; omega), hp]
  exact f.h⟩

instance pexec_build (t : TypeId) (parts : List (Nat × Operand)) (z : Value) (zs out : List Value) (ps : List (Nat × Nat)) [e : TZero P t z] [c : CellsOf z zs] [pl : TPlaces P t ps] [f : FillC env ps zs parts out] :
    PExec P (.build t parts.toArray) ty env (.agg out.toArray) := ⟨fun dst pos after guard w => by
  obtain ⟨fs, h1, h2⟩ := pl.h w
  have h3 := f.h
  have hm : (Array.map (fun (x : Nat × Operand) => (x.1, ev env x.2)) parts.toArray).toList = parts.map fun p => (p.1, ev env p.2) := by simp
  simp only [execOp, Instr.build, Sem.run_bind, e.h, Result.andThen_ok, h1, h2, hm, c.h, List.getElem?_toArray, h3, Sem.run_pure]⟩

/-- Parts that stand in a row, from the i-th on: their cells, one behind the other. -/
class CatL (env : Env) (s : Nat) (i : Nat) (parts : List (Nat × Operand)) (out : outParam (List Value)) : Prop where
  h : ∀ pre zs : List Value, pre.length = i * s → zs.length = parts.length * s → Instr.fill (fun i => some (i * s, s)) (pre ++ zs).toArray (parts.map fun p => (p.1, ev env p.2)) = some (pre ++ out).toArray
  len : out.length = parts.length * s
class AppL (a b : List Value) (c : outParam (List Value)) : Prop where h : a ++ b = c
instance appl_nil (b : List Value) : AppL [] b b := ⟨rfl⟩
instance appl_cons (x : Value) (a b c : List Value) [h : AppL a b c] : AppL (x :: a) b (x :: c) := ⟨by rw [List.cons_append, h.h]⟩
instance catl_nil (s i : Nat) : CatL env s i [] [] := ⟨fun pre zs _ hz => by
  have : zs = [] := by simpa using hz
  subst this; rfl, by simp⟩
instance catl_cons (s i n : Nat) (x : Operand) (v : Value) (cs out out' : List Value) (rest : List (Nat × Operand)) [e : EvO env x v] [c : CellsOf v cs] [l : LenIs cs n] [sn : SameB (Nat.beq n s) true]
    [r : CatL env s (i + 1) rest out] [a : AppL cs out out'] : CatL env s i ((i, x) :: rest) out' := by
  have hs : cs.length = s := by rw [l.h]; exact Nat.eq_of_beq_eq_true sn.h
  refine ⟨fun pre zs hp hz => ?_, ?_⟩
  · simp only [List.length_cons, Nat.add_mul, Nat.one_mul] at hz
    have e1 : pre ++ zs = pre ++ (zs.take s ++ zs.drop s) := by rw [List.take_append_drop]
    have hput := foldl_put (i * s) cs (pre ++ zs) (by simp [hp, hz, hs])
    have e2 : (pre ++ zs).take (i * s) ++ cs ++ (pre ++ zs).drop (i * s + cs.length) = (pre ++ cs) ++ zs.drop s := by
      rw [hs, ← hp, List.take_left', List.drop_append]
      · simp
      · rfl
    simp only [List.map_cons, Instr.fill, e.h, c.h, List.size_toArray, hs]
    rw [if_neg (by simp [hp, hz])]
    rw [hput, e2]
    have h2 := r.h (pre ++ cs) (zs.drop s) (by simp [hp, hs, Nat.add_mul]) (by simp [hz])
    rw [h2, ← a.h]; simp
  · rw [← a.h]; simp [r.len, hs, Nat.add_mul]; omega

instance exec_buildSlice (t el : TypeId) (s n : Nat) (parts : List (Nat × Operand)) (z : Value) (zs out : List Value) [u : TUnd P t (.slice el)] [ts : TSize P el s] [e : TZero P el z] [c : CellsOf z zs]
    [k : CatL env s 0 parts out] : Exec P (.buildSlice t n parts.toArray) ty env L
      (fun K => Side (n = parts.length ∧ n * s ≤ 16777216 ∧ zs.length = s) (All fun r => K (.slice (some ⟨r, 0, none⟩) n n) (cells true r 0 out :: L))) :=
  ⟨fun B dst pos after guard K hk w hs => .inl ⟨.slice (some ⟨w.heap.size, 0, none⟩) n n, w.alloc (.cells out.toArray el), _, by
    obtain ⟨h1, h2, h3⟩ := hk.side
    have hm : (Array.map (fun (x : Nat × Operand) => (x.1, ev env x.2)) parts.toArray).toList = parts.map fun p => (p.1, ev env p.2) := by simp
    have key : ∀ z0 : Array Value, Instr.fill (fun i => some (i * s, s)) (Array.map (fun i => z0[i % z0.size]!) (Array.range (n * s))) (parts.map fun p => (p.1, ev env p.2)) = some out.toArray := fun z0 => by
      have h4 := k.h [] (Array.map (fun i => z0[i % z0.size]!) (Array.range (n * s))).toList (by simp) (by simp [h1])
      rw [List.nil_append, List.nil_append, Array.toArray_toList] at h4
      exact h4
    by_cases h0 : n * s = 0
    · simp only [execOp, Instr.buildSlice, Sem.run_bind, u.run, Result.andThen_ok, ts.h, hm]
      rw [if_neg (by omega), if_pos h0]
      simp only [Sem.run_bind, Sem.run_pure, Result.andThen_ok, key]
      simp [newRow, newObj, Sem.run]
    · simp only [execOp, Instr.buildSlice, Sem.run_bind, u.run, Result.andThen_ok, ts.h, hm]
      rw [if_neg (by omega), if_neg h0]
      simp only [e.h, Sem.run_bind, Sem.run_pure, Result.andThen_ok, key]
      simp [newRow, newObj, Sem.run], by simpa using hs.alloc_cells (c := out.toArray) (t := el), hk.rest.all _⟩⟩
end
end Go.SL
namespace Go.SL

section
variable {P : Program} {env : Env} {ty : TypeId} {L : List HProp}

/-- What a type's row says of a variable of it. -/
class TI (P : Program) (t : TypeId) (k b : outParam Nat) (zs : outParam (List Value)) : Prop where
  h : ∃ i z, P.info? t = some i ∧ i.size = k ∧ i.bytes = b ∧ i.zero = some z ∧ z.cells = zs.toArray ∧ zs.length = k

theorem TI.mk' {t k b : Nat} {zs : List Value} {i : TypeInfo} {z : Value} (h : P.types[t]? = some i) (h1 : i.size = k) (h2 : i.bytes = b) (h3 : i.zero = some z) (h4 : z.cells = zs.toArray) (h5 : zs.length = k) : TI P t k b zs := by
  refine ⟨i, z, ?_, h1, h2, h3, h4, h5⟩
  obtain ⟨hl, _⟩ := Array.getElem?_eq_some_iff.1 h
  unfold Tables.info?
  rw [if_pos hl, h]

/-- Elements of type e are known as α; the zero value is z. -/
class ZRep (P : Program) (e : TypeId) (α : outParam Type) (i : outParam (Rep α)) (z : outParam α) : Prop where
  zero : ∀ k b zs, TI P e k b zs → zs = i.enc z ∧ k = i.k
  own : ∀ h, i.own z h

theorem ZRep.mk' {e k b : Nat} {zs : List Value} {α : Type} {i : Rep α} {z : α} [t : TI P e k b zs] (h1 : zs = i.enc z) (h2 : k = i.k) (h3 : ∀ h, i.own z h) : ZRep P e α i z :=
  ⟨fun k' b' zs' t' => by
    obtain ⟨j, v, g1, g2, _, g4, g5, _⟩ := t.h
    obtain ⟨j', v', g1', g2', _, g4', g5', _⟩ := t'.h
    rw [g1] at g1'; cases g1'
    rw [g4] at g4'; cases g4'
    rw [g5] at g5'
    have : zs = zs' := by simpa using g5'
    exact ⟨by rw [← this, h1], by rw [← g2', g2, h2]⟩, h3⟩

theorem mod_list (zs : List Value) (hz : 0 < zs.length) : ∀ (n i : Nat), ((List.range (n * zs.length))[i]?).map (fun i => zs.toArray[i % zs.length]!) = (List.replicate n zs).flatten[i]?
  | 0, i => by simp
  | n + 1, i => by
    rw [List.replicate_succ, List.flatten_cons]
    by_cases h : i < zs.length
    · rw [List.getElem?_append_left h, List.getElem?_range (by rw [Nat.add_mul]; omega)]
      simp [Nat.mod_eq_of_lt h, h]
    · rw [List.getElem?_append_right (by omega), ← mod_list zs hz n (i - zs.length)]
      by_cases h2 : i < (n + 1) * zs.length
      · rw [List.getElem?_range h2, List.getElem?_range (by rw [Nat.add_mul] at h2; omega)]
        simp only [Option.map_some]
        rw [← Nat.mod_eq_sub_mod (by omega)]
      · rw [List.getElem?_eq_none (by simpa using Nat.le_of_not_lt h2), List.getElem?_eq_none (by rw [Nat.add_mul] at h2; simp; omega)]

theorem mod_get (zs : List Value) (hz : 0 < zs.length) (n : Nat) : (Array.range (n * zs.length)).map (fun i => zs.toArray[i % zs.toArray.size]!) = (List.replicate n zs).flatten.toArray := by
  apply Array.toList_inj.1
  apply List.ext_getElem?
  intro i
  have := mod_list zs hz n i
  simpa using this

theorem ownS_new {α : Type} [i : Rep α] {B : World} {r c n : Nat} {z : α} {w : World} (hn : n ≤ c) (hl : n ≤ 140737488355328) (hz : ∀ h, Rep.own z h)
    (hs : sat B (cells true r 0 (List.replicate c (Rep.enc z)).flatten :: L) w) : sat B (ownS (⟨some ⟨r, 0, none⟩, c, List.replicate n z⟩ : Sl α) :: L) w := by
  refine hs.head fun h a => ?_
  refine ⟨⟨?_, by simpa using hn, by simp, by simpa using hl⟩, ⟨(List.replicate (c - n) (Rep.enc z)).flatten, ?_, ?_⟩, fun x hx => ?_⟩
  · intro x hx; simp at hx; rw [← hx]
  · simp [Rep.len, List.length_flatten, List.map_replicate, List.sum_replicate_nat]
  · intro j v hj
    have e : flat (List.replicate n z) ++ (List.replicate (c - n) (Rep.enc z)).flatten = (List.replicate c (Rep.enc z)).flatten := by
      have h1 : List.replicate c (Rep.enc z) = List.replicate n (Rep.enc z) ++ List.replicate (c - n) (Rep.enc z) := by
        rw [List.replicate_append_replicate]; congr 1; omega
      rw [h1, List.flatten_append]
      congr 1
      unfold flat
      rw [List.flatMap_def, List.map_replicate]
    rw [e] at hj
    exact a j v hj
  · rw [(List.mem_replicate.1 hx).2]; exact hz h

theorem madeCells_eq (zs : List Value) (h : 0 < zs.length) (n : Nat) : madeCells zs.toArray (n * zs.length) = (List.replicate n zs).flatten.toArray := mod_get zs h n

instance exec_make (t e : TypeId) (x y : Operand) (k k' : IntKind) (n c : Int) (kk b : Nat) (zs : List Value) (α : Type) (i : Rep α) (z : α) [ex : EvO env x (.int k n)] [ey : EvO env y (.int k' c)] [u : TUnd P t (.slice e)]
    [tb : TI P e kk b zs] [zr : ZRep P e α i z] (jn jc : Nat) [tn : ToNat n jn] [tc : ToNat c jc] :
    Exec P (.makeSlice t x y) ty env L (fun K => Side (0 ≤ n ∧ n ≤ c ∧ b * c ≤ 281474976710656 ∧ c ≤ 140737488355328)
      (All fun r => K (.slice (some ⟨r, 0, none⟩) (List.replicate jn z).length jc) (@ownS α i ⟨some ⟨r, 0, none⟩, jc, List.replicate jn z⟩ :: L))) :=
  ⟨fun B dst pos after guard K hk w hs => by
    obtain rfl := tn.h
    obtain rfl := tc.h
    obtain ⟨h1, h2, h3, h4⟩ := hk.side
    obtain ⟨ti, zv, hti, hsz, hb, hz, hc, hl⟩ := tb.h
    obtain ⟨e1, e2⟩ := zr.zero kk b zs tb
    have hlen : (i.enc z).length = i.k := i.len z
    have hpos := i.pos
    have hrun := run_make (P := P) w t e ti zv u.h hti hz k k' n c h1 h2 (by rw [hb]; exact h3) (by omega)
    rw [hc, hsz, ← hl, madeCells_eq zs (by rw [e1, hlen]; exact hpos)] at hrun
    have hs2 := hs.alloc_cells (c := (List.replicate c.toNat zs).flatten.toArray) (t := e)
    have hs3 : sat B (@ownS α i ⟨some ⟨w.heap.size, 0, none⟩, c.toNat, List.replicate n.toNat z⟩ :: L) (w.alloc (.cells (List.replicate c.toNat zs).flatten.toArray e)) :=
      ownS_new (i := i) (z := z) (c := c.toNat) (n := n.toNat) (by omega) (by omega) zr.own (by rw [e1] at hs2 ⊢; simpa using hs2)
    refine .inl ⟨.slice (some ⟨w.heap.size, 0, none⟩) n.toNat c.toNat, _, _, ?_, hs3, by simpa using hk.rest.all w.heap.size⟩
    simp only [execOp, ex.h, ey.h, Sem.run_bind, hrun, Result.andThen_ok, Sem.run_pure]⟩

theorem join_ro_right {h₁ h₂ : Hp} (c : compat h₁ h₂) {k : Key} {x : Res} (h : h₂ k = some (false, x)) : join h₁ h₂ k = some (false, x) := by
  unfold join
  rcases c k with h1 | h1 | ⟨h1, y, hy⟩
  · rw [h1]; exact h
  · rw [h1] at h; cases h
  · rw [h1, h]
theorem join_left {h₁ h₂ : Hp} {k : Key} {x : Bool × Res} (h : h₁ k = some x) : join h₁ h₂ k = some x := by unfold join; rw [h]

/-- Several cells stored, one behind the other. -/
theorem store_run {B : World} {r o : Nat} : ∀ (vs : List Value) (i j : Nat) (xs : List Value) (L : List HProp) (w : World), sat B (cells true r o xs :: L) w → i + j + vs.length ≤ xs.length → (∀ v ∈ vs, v.oneCell' = true) →
    ∃ w', (storeCells ⟨r, o + i, none⟩ vs j).run P w = .ok () w' ∧ sat B (cells true r o (xs.take (i + j) ++ vs ++ xs.drop (i + j + vs.length)) :: L) w'
  | [], i, j, xs, L, w, hs, _, _ => ⟨w, by simp [storeCells], by simpa using hs⟩
  | v :: vs, i, j, xs, L, w, hs, hl, h1 => by
    simp only [List.length_cons] at hl
    have hlt : i + j < xs.length := by omega
    have hv := h1 v List.mem_cons_self
    obtain ⟨w', hr, hs'⟩ := store_run vs i (j + 1) (xs.set (i + j) v) L _ (hs.set (v := v) hlt) (by simp; omega) (fun u hu => h1 u (List.mem_cons_of_mem _ hu))
    refine ⟨w', ?_, ?_⟩
    · have hc := hs.cell (i := i + j) (v := xs[i + j]) (by simp [hlt])
      have hf := hs.notFrozen (i := i + j) (v := xs[i + j]) (by simp [hlt])
      simp only [storeCells, Addr.add_lit, Sem.run_bind, run_store P w _ v _ hv, stored]
      rw [show o + i + j = o + (i + j) from by omega, hc]
      simp only [hf, Bool.false_eq_true, if_false, Result.andThen_ok]
      exact hr
    · refine hs'.head fun h a => ?_
      have e : (xs.set (i + j) v).take (i + (j + 1)) ++ vs ++ (xs.set (i + j) v).drop (i + (j + 1) + vs.length) = xs.take (i + j) ++ v :: vs ++ xs.drop (i + j + (v :: vs).length) := by
        have e1 : i + (j + 1) = i + j + 1 := by omega
        have e2 : i + j + (v :: vs).length = i + j + 1 + vs.length := by simp; omega
        rw [e1, e2, List.take_succ_eq_append_getElem (by simp; omega), List.take_set_of_le (Nat.le_refl _), List.drop_set_of_lt (by omega)]
        simp
      rw [← e]; exact a

theorem sat.star2 {B : World} {A A' : HProp} {w : World} : sat B (A :: A' :: L) w ↔ sat B (star [A, A'] :: L) w := by rw [sat_star]; rfl

theorem ownS_cells {α : Type} [Rep α] {B : World} {s : Sl α} {w : World} (hs : sat B (ownS s :: L) w) :
    s.ok ∧ ∃ room : List Value, room.length = (s.c - s.xs.length) * Rep.k α ∧ sat B (cells true (blk s.a) (offs s.a) (flat s.xs ++ room) :: (fun h => ∀ x ∈ s.xs, Rep.own x h) :: L) w := by
  obtain ⟨b, h, ⟨h₁, h₂, c, rfl, ⟨ok, ⟨room, hl, hc⟩, ho⟩, l⟩, hr⟩ := hs
  refine ⟨ok, room, hl, ?_⟩
  have hp : Pers (fun h : Hp => ∀ x ∈ s.xs, Rep.own x h) := ⟨fun h h' m a x hx => (Rep.pers x).mono h h' m (a x hx)⟩
  have s0 : sat B ((fun h => (∀ x ∈ s.xs, Rep.own x h) ∧ ∀ i v, (flat s.xs ++ room)[i]? = some v → h (.cell (blk s.a) (offs s.a + i)) = some (true, .cell v)) :: L) w :=
    ⟨b, _, ⟨h₁, h₂, c, rfl, ⟨ho, hc⟩, l⟩, hr⟩
  -- the shared part twice
  obtain ⟨b, h, ⟨h₁, h₂, c, rfl, ⟨ho, hc⟩, l⟩, hr⟩ := s0
  have hg : ∀ k x, ghost h₁ k = some x → h₁ k = some x ∧ ∃ y, x = (false, y) := by
    intro k x hx
    unfold ghost at hx
    split at hx
    · rename_i y hy; cases hx; exact ⟨hy, y, rfl⟩
    · cases hx
  have c1 : compat h₁ (ghost h₁) := by
    intro k
    cases hk : ghost h₁ k with
    | none => exact .inr (.inl rfl)
    | some x => obtain ⟨g1, y, rfl⟩ := hg k x hk; exact .inr (.inr ⟨g1, y, g1⟩)
  have c2 : compat (ghost h₁) h₂ := by
    intro k
    cases hk : ghost h₁ k with
    | none => exact .inl rfl
    | some x =>
      obtain ⟨g1, y, rfl⟩ := hg k x hk
      rcases c k with h | h | ⟨h, z, hz⟩
      · rw [h] at g1; cases g1
      · exact .inr (.inl h)
      · exact .inr (.inr ⟨by rw [← h, g1], y, rfl⟩)
  refine ⟨b, join h₁ h₂, ⟨h₁, join (ghost h₁) h₂, (compat_join c1.symm c.symm).symm, ?_, hc, ghost h₁, h₂, c2, rfl, ?_, l⟩, hr⟩
  · rw [← join_assoc]
    congr 1
    funext k
    unfold join
    cases hk : h₁ k with
    | some x => rfl
    | none =>
      cases hk' : ghost h₁ k with
      | none => rfl
      | some x => have := (hg k x hk').1; rw [hk] at this; cases this
  · exact hp.mono h₁ _ (fun k x hx => by unfold ghost; rw [hx]) ho

theorem ownS_of_cells {α : Type} [Rep α] {B : World} {s : Sl α} {w : World} {room : List Value} (ok : s.ok) (hl : room.length = (s.c - s.xs.length) * Rep.k α)
    (hs : sat B (cells true (blk s.a) (offs s.a) (flat s.xs ++ room) :: (fun h => ∀ x ∈ s.xs, Rep.own x h) :: L) w) : sat B (ownS s :: L) w := by
  rw [sat.star2] at hs
  refine hs.head ?_
  rintro h ⟨h₁, h₂, c, rfl, a, h₃, h₄, c', rfl, o, _⟩
  refine ⟨ok, ⟨room, hl, fun i v hi => join_left (a i v hi)⟩, fun x hx => (Rep.pers x).mono h₃ _ (fun k y hy => join_ro_right c (join_left hy)) (o x hx)⟩

/-- The elements of both, of what is referred to. -/
theorem own_both {α : Type} [Rep α] {B : World} {xs : List α} {y : Sl α} {w : World} (hs : sat B ((fun h => ∀ x ∈ xs, Rep.own x h) :: roS y :: L) w) :
    sat B ((fun h => ∀ x ∈ xs ++ y.xs, Rep.own x h) :: roS y :: L) w := by
  have h1 : sat B (roS y :: (fun h => ∀ x ∈ xs, Rep.own x h) :: L) w := hs.perm (.swap _ _ _)
  have h2 : sat B (roS y :: roS y :: (fun h => ∀ x ∈ xs, Rep.own x h) :: L) w := Shared.dup B _ w h1
  have h3 : sat B ((fun h => ∀ x ∈ xs, Rep.own x h) :: roS y :: roS y :: L) w :=
    h2.perm ((List.Perm.cons _ (.swap _ _ _)).trans (.swap _ _ _))
  rw [sat.star2] at h3
  refine h3.head ?_
  rintro h ⟨h₁, h₂, c, rfl, a, h₃, h₄, c', rfl, o, _⟩
  intro x hx
  rcases List.mem_append.1 hx with hx | hx
  · exact (Rep.pers x).mono h₁ _ (fun k y hy => join_left hy) (a x hx)
  · exact (Rep.pers x).mono h₃ _ (fun k y hy => join_ro_right c (join_left hy)) (o.2.2 x hx)

theorem flat_one {α : Type} [Rep α] (xs : List α) : ∀ v ∈ flat xs, v.oneCell' = true := by
  intro v hv
  obtain ⟨x, hx, hv⟩ := List.mem_flatMap.1 hv
  exact Rep.one x v hv

theorem run_firstCells_ro {α : Type} [Rep α] {B : World} {y : Sl α} {w : World} (hs : sat B (roS y :: L) w) : (Builtin.firstCells (Rep.k α) y.xs.length y.val).run P w = .ok (flat y.xs).toArray w := by
  obtain ⟨h, a, hr⟩ := hs.headOf
  cases hy : y.a with
  | none =>
    have := a.1.null hy
    have := a.1.cap
    have : y.xs = [] := List.eq_nil_of_length_eq_zero (by omega)
    simp only [Sl.val, hy, this]
    simp [Builtin.firstCells, flat]
  | some ad =>
    have hsp := a.1.spot ad hy
    obtain ⟨bk, of, sp⟩ := ad
    simp only at hsp
    subst hsp
    have hc : ∀ j v, (flat y.xs)[j]? = some v → w.cell? ((⟨bk, of, none⟩ : Addr).add j) = some v := fun j v hj => by
      rw [Addr.add_lit]
      have := (hr _ _ _ (a.2.1 j v hj)).1
      rw [hy] at this; exact this
    have := run_loadCells_list (P := P) (w := w) ⟨bk, of, none⟩ (flat y.xs) hc
    rw [flat_length] at this
    simp only [Sl.val, Builtin.firstCells, hy]
    exact this

theorem ro_cells_get {α : Type} [Rep α] {B : World} {y : Sl α} {w : World} (hs : sat B (roS y :: L) w) (hpos : 0 < y.xs.length) :
    ∃ ad, y.a = some ad ∧ ∀ j v, (flat y.xs)[j]? = some v → w.cell? (ad.add j) = some v := by
  obtain ⟨h, a, hr⟩ := hs.headOf
  have he := a.1.some hpos
  refine ⟨_, he, fun j v hj => ?_⟩
  rw [Addr.add_lit]
  exact (hr _ _ _ (a.2.1 j v hj)).1

theorem append_inplace {t e k : Nat} {i : TypeInfo} (hu : P.underlying t = some (.slice e)) (hi : P.info? e = some i) (hk : i.size = k) {base src2 : Option Addr} {sLen sCap n c : Nat} {new : Array Value} {w w' : World}
    (hf : (Builtin.firstCells k n (.slice src2 n c)).run P w = .ok new w) (hroom : sLen + n ≤ sCap)
    (hst : (match base with | some a => (storeCells (a.add (sLen * k)) new.toList).run P w = .ok () w' | none => w' = w)) :
    (Builtin.append_ #[t, t] ty #[.slice base sLen sCap, .slice src2 n c]).run P w = .ok (.slice base (sLen + n) sCap) w' := by
  subst hk
  cases base with
  | none => simp only at hst; subst hst; simp [Builtin.append_, run_underlying hu, sizeOf, typeInfo, hi, Builtin.lenOf, hroom, hf]
  | some a => simp only at hst; simp [Builtin.append_, run_underlying hu, sizeOf, typeInfo, hi, Builtin.lenOf, hroom, hf, hst]

theorem perm3 (A C D : HProp) (L : List HProp) : (A :: C :: D :: L).Perm (C :: D :: A :: L) := (List.Perm.swap _ _ _).trans (List.Perm.cons _ (.swap _ _ _))
theorem perm3' (A C D : HProp) (L : List HProp) : (C :: D :: A :: L).Perm (A :: C :: D :: L) := (perm3 A C D L).symm

theorem append_run {α : Type} [Rep α] {B : World} {s y : Sl α} {t e : TypeId} {k b : Nat} {zs : List Value} [u : TUnd P t (.slice e)] [ti : TI P e k b zs] (hk : k = Rep.k α)
    (hb : (s.xs.length + y.xs.length) * b ≤ 140737488355328) (hl : s.xs.length + y.xs.length ≤ 140737488355328) {w : World} (hs : sat B (ownS s :: roS y :: L) w) :
    ∃ (a : Option Addr) (c : Nat) (w' : World), (Builtin.append_ #[t, t] ty #[s.val, y.val]).run P w = .ok (.slice a (s.xs ++ y.xs).length c) w' ∧ sat B (ownS ⟨a, c, s.xs ++ y.xs⟩ :: roS y :: L) w' := by
  obtain ⟨i, z, hi, hsz, hby, hz, hzc, hzl⟩ := ti.h
  subst hk
  obtain ⟨ok, room, hroom, hc⟩ := ownS_cells hs
  have hro : sat B (roS y :: ownS s :: L) w := hs.perm (.swap _ _ _)
  have hlen : (s.xs ++ y.xs).length = s.xs.length + y.xs.length := List.length_append
  have grown : ∀ old, sat B (ownS ⟨some ⟨w.heap.size, 0, none⟩, grownCap w (s.xs.length + y.xs.length) old e, s.xs ++ y.xs⟩ :: roS y :: L)
        (w.drew.alloc (.cells ((flat s.xs).toArray ++ (flat y.xs).toArray ++ Builtin.zeroCells z.cells (grownCap w (s.xs.length + y.xs.length) old e - (s.xs.length + y.xs.length))) e)) := by
    intro old
    have hge : s.xs.length + y.xs.length ≤ grownCap w (s.xs.length + y.xs.length) old e := by simp [grownCap, Question.cut]
    generalize grownCap w (s.xs.length + y.xs.length) old e = cap at hge
    have h1 := hc.drew.tail.alloc_cells (c := (flat s.xs).toArray ++ (flat y.xs).toArray ++ Builtin.zeroCells z.cells (cap - (s.xs.length + y.xs.length))) (t := e)
    have h3 := (own_both (h1.perm (perm3 _ _ _ _))).perm (perm3' _ _ _ _)
    refine ownS_of_cells (s := ⟨some ⟨w.heap.size, 0, none⟩, cap, s.xs ++ y.xs⟩) (room := (Builtin.zeroCells z.cells (cap - (s.xs.length + y.xs.length))).toList)
      ⟨fun x hx => by simp at hx; rw [← hx], by simpa using hge, by simp, by simpa using hl⟩ ?_ (h3.head ?_)
    · simp [Builtin.zeroCells, hzc, hzl]
    · intro h a
      have e1 : ((flat s.xs).toArray ++ (flat y.xs).toArray ++ Builtin.zeroCells z.cells (cap - (s.xs.length + y.xs.length))).toList = flat (s.xs ++ y.xs) ++ (Builtin.zeroCells z.cells (cap - (s.xs.length + y.xs.length))).toList := by
        rw [flat_append]; simp
      rw [e1] at a
      exact a
  by_cases hcap : s.xs.length + y.xs.length ≤ s.c
  · have hlf : (flat y.xs).length = y.xs.length * Rep.k α := flat_length _
    obtain ⟨w', hrun, hsat⟩ := store_run (P := P) (B := B) (r := blk s.a) (o := offs s.a) (flat y.xs) (s.xs.length * Rep.k α) 0 (flat s.xs ++ room) ((fun h => ∀ x ∈ s.xs, Rep.own x h) :: roS y :: L) w hc
      (by simp only [List.length_append, flat_length, hroom, Nat.add_zero, ← Nat.add_mul]; exact Nat.mul_le_mul_right _ (by omega)) (flat_one _)
    have hsat' : sat B (ownS ⟨s.a, s.c, s.xs ++ y.xs⟩ :: roS y :: L) w' := by
      have h3 := (own_both (hsat.perm (perm3 _ _ _ _))).perm (perm3' _ _ _ _)
      refine ownS_of_cells (s := ⟨s.a, s.c, s.xs ++ y.xs⟩) (room := room.drop (flat y.xs).length) ⟨ok.spot, by simpa using hcap, ok.null, by simpa using hl⟩ ?_ (h3.head ?_)
      · simp only [List.length_drop, hroom, hlf, List.length_append, ← Nat.sub_mul]; congr 1; omega
      · intro h a
        have e : (flat s.xs ++ room).take (s.xs.length * Rep.k α + 0) ++ flat y.xs ++ (flat s.xs ++ room).drop (s.xs.length * Rep.k α + 0 + (flat y.xs).length) = flat (s.xs ++ y.xs) ++ room.drop (flat y.xs).length := by
          rw [Nat.add_zero, ← flat_length, List.take_left', List.drop_append, flat_append]
          · simp
          · rfl
        rw [e] at a; exact a
    refine ⟨s.a, s.c, w', ?_, hsat'⟩
    rw [hlen]
    refine append_inplace u.h hi hsz (run_firstCells_ro hro) hcap ?_
    cases ha : s.a with
    | none =>
      have hc0 := ok.null ha
      have hy : y.xs = [] := List.eq_nil_of_length_eq_zero (by omega)
      rw [hy] at hrun
      simp [flat, storeCells] at hrun
      exact hrun.symm
    | some ad =>
      have hsp := ok.spot ad ha
      obtain ⟨bk, of, sp⟩ := ad
      simp only at hsp
      subst hsp
      rw [ha] at hrun
      simpa [Addr.add_lit] using hrun
  · have hpos : s.xs.length + y.xs.length > s.c := by omega
    have hypos : 0 < y.xs.length := by have := ok.cap; omega
    obtain ⟨ad, hya, hyc⟩ := ro_cells_get hro hypos
    have hyl : (flat y.xs).length = y.xs.length * i.size := by rw [hsz, flat_length]
    have hxl : (flat s.xs).length = s.xs.length * i.size := by rw [hsz, flat_length]
    have hfit := growslice_fits (bytes := i.bytes) (show s.c < s.xs.length + y.xs.length from hpos) (by rw [hby]; exact hb)
    refine ⟨some ⟨w.heap.size, 0, none⟩, grownCap w (s.xs.length + y.xs.length) s.c e, _, ?_, grown s.c⟩
    rw [hlen]
    cases ha : s.a with
    | none =>
      have hc0 := ok.null ha
      have hx : s.xs = [] := List.eq_nil_of_length_eq_zero (by have := ok.cap; omega)
      simp only [Sl.val, ha, hx, hc0, hya, List.length_nil, Nat.zero_add] at hfit ⊢
      have := run_append_nil (P := P) w t ty e i z u.h hi hz ad y.xs.length y.c (flat y.xs) hyl hyc hypos (by omega) (by
        have hb' := hb; rw [hx] at hb'; simp only [List.length_nil, Nat.zero_add] at hb'; rw [hby]; omega)
      rw [this]
      simp [flat]
    | some a0 =>
      have hsp := ok.spot a0 ha
      obtain ⟨bk, of, sp⟩ := a0
      simp only at hsp
      subst hsp
      simp only [Sl.val, ha, hya]
      refine run_append_grow (P := P) w t ty e i z u.h hi hz ⟨bk, of, none⟩ s.xs.length s.c (flat s.xs) hxl ?_ ad y.xs.length y.c (flat y.xs) hyl hyc hpos (by omega) hfit
      intro j v hj
      rw [Addr.add_lit]
      have := hc.cell (i := j) (v := v) (by rw [List.getElem?_append_left]; exact hj; rcases Nat.lt_or_ge j (flat s.xs).length with h | h; exact h; rw [List.getElem?_eq_none h] at hj; cases hj)
      rw [ha] at this
      exact this
end
end Go.SL
namespace Go.SL

section
variable {P : Program} {env : Env} {ty : TypeId} {L : List HProp}

theorem ownS_ro {α : Type} [Rep α] {B : World} {s : Sl α} {w : World} (hs : sat B (ownS s :: L) w) : sat B (roS s :: L) w := by
  refine hs.freeze ?_
  rintro h ⟨ok, ⟨room, hl, hc⟩, ho⟩
  refine ⟨ok, fun i v hi => ?_, fun x hx => (Rep.pers x).mono h _ (fun k y hy => by simp [hy]) (ho x hx)⟩
  have hlt : i < (flat s.xs).length := by
    rcases Nat.lt_or_ge i (flat s.xs).length with h | h
    · exact h
    · rw [List.getElem?_eq_none h] at hi; cases hi
  have := hc i v (by rw [List.getElem?_append_left hlt]; exact hi)
  simp [this]

instance picks_freeze {α : Type} [Rep α] (s : Sl α) (As L L' R : List HProp) [p : Pick (ownS s) L L'] [q : Picks As L' R] : Picks (roS s :: As) L R :=
  ⟨fun B X w h => by
    have h1 : sat B (ownS s :: (L' ++ X)) w := h.perm (List.Perm.append_right X p.perm)
    have h2 : sat B (L' ++ roS s :: X) w := (ownS_ro h1).perm List.perm_middle.symm
    exact (q.out B (roS s :: X) w h2).perm (move_front (roS s) As R X)⟩

theorem roS_of_cells {α : Type} [Rep α] {B : World} {r c : Nat} {xs : List α} {w : World} (hc : xs.length ≤ c) (hl : xs.length ≤ 140737488355328)
    (hs : sat B (cells true r 0 (flat xs) :: (fun h => ∀ x ∈ xs, Rep.own x h) :: L) w) : sat B (roS (⟨some ⟨r, 0, none⟩, c, xs⟩ : Sl α) :: L) w := by
  have h1 : sat B (cells false r 0 (flat xs) :: (fun h => ∀ x ∈ xs, Rep.own x h) :: L) w := hs.freeze fun h a i v hi => by
    have := a i v hi
    simp only [Nat.zero_add] at this
    simp [this]
  rw [sat.star2] at h1
  refine h1.head ?_
  rintro h ⟨h₁, h₂, cc, rfl, a, h₃, h₄, c', rfl, o, _⟩
  exact ⟨⟨fun x hx => by simp at hx; rw [← hx], hc, by simp, hl⟩, fun i v hi => join_left (a i v hi), fun x hx => (Rep.pers x).mono h₃ _ (fun k y hy => join_ro_right cc (join_left hy)) (o x hx)⟩

theorem sat_true {B : World} {w : World} {A : HProp} (h : ∀ g, A g) (hs : sat B L w) : sat B (A :: L) w := by
  have : sat B (says True :: L) w := sat_says.2 ⟨trivial, hs⟩
  exact this.head fun g _ => h g

theorem own_nil {α : Type} [Rep α] (g : Hp) : ownS (⟨none, 0, []⟩ : Sl α) g :=
  ⟨⟨by simp, Nat.le_refl _, fun _ => rfl, Nat.zero_le _⟩, ⟨[], by simp, fun i v hi => by simp [flat] at hi⟩, fun _ h => by cases h⟩
theorem ro_nil {α : Type} [Rep α] (g : Hp) : roS (⟨none, 0, []⟩ : Sl α) g :=
  ⟨⟨by simp, Nat.le_refl _, fun _ => rfl, Nat.zero_le _⟩, fun i v hi => by simp [flat] at hi, fun _ h => by cases h⟩

theorem Sy_conv {B : World} {n : Nat} {c : Code} {Q : Post} {L' : List HProp} (hL : ∀ w, sat B L w → sat B L' w) (h : Sy P B n c Q env L') : Sy P B n c Q env L := Sy_state h (fun _ => rfl) hL
theorem SyO_conv {B : World} {n : Nat} {ops : Array Oper} {l : List Oper} {K : Kont} {L' : List HProp} (hL : ∀ w, sat B L w → sat B L' w) (h : SyO P B n ops l K env L') : SyO P B n ops l K env L := SyO_state h (fun _ => rfl) hL
theorem RP_conv {B : World} {n : Nat} {l : List Oper} {plan : Plan} {S M : List Nat} {K : Kont} {L' : List HProp} (hL : ∀ w, sat B L w → sat B L' w) (h : RP P B n l plan S M K env L') : RP P B n l plan S M K env L :=
  RP_state h (fun _ => rfl) hL
theorem endQ_conv {B : World} {fn : Func} {post : Value → List HProp → Prop} {F L' : List HProp} {x : Exit} (hL : ∀ w, sat B L w → sat B L' w) (h : endQ P fn post B F x env L') : endQ P fn post B F x env L := by
  obtain ⟨hx, v, M, h1, h2, h3⟩ := h
  exact ⟨hx, v, M, fun w a hr hs => h1 w a hr (hL w hs), h2, fun w hs => h3 w (hL w hs)⟩

def AppG (P : Program) (t ty : TypeId) (v1 v2 : Value) (L : List HProp) (K : Value → List HProp → Prop) : Prop :=
  ∀ B w, sat B L w → ∃ v w' L', (Builtin.append_ #[t, t] ty #[v1, v2]).run P w = .ok v w' ∧ sat B L' w' ∧ K v L'

instance exec_append (t : TypeId) (x y : Operand) (v1 v2 : Value) [e : EvO env x v1] [f : EvO env y v2] :
    Exec P (.call ⟨.builtin .append, [x, y].toArray, [t, t].toArray⟩) ty env L (fun K => AppG P t ty v1 v2 L K) :=
  ⟨fun B dst pos after guard K hk w hs => by
    obtain ⟨v, w', L', h1, h2, h3⟩ := hk B w hs
    exact .inl ⟨v, w', L', by simp [execOp, resolve, invoke, builtin, e.h, f.h, h1], h2, h3⟩⟩

theorem AppG.many {α : Type} [Rep α] {t e k b : Nat} {zs : List Value} {R : List HProp} {K : Value → List HProp → Prop} (s y : Sl α) [u : TUnd P t (.slice e)] [ti : TI P e k b zs] [kk : KIs α k] [p : Picks [ownS s, roS y] L R]
    (hb : (s.xs.length + y.xs.length) * b ≤ 140737488355328 ∧ s.xs.length + y.xs.length ≤ 140737488355328)
    (h : ∀ a c, K (.slice a (s.xs ++ y.xs).length c) (ownS ⟨a, c, s.xs ++ y.xs⟩ :: R)) {v1 v2 : Value} (e1 : v1 = s.val := by rfl) (e2 : v2 = y.val := by rfl) : AppG P t ty v1 v2 L K := by
  intro B w hs
  subst e1 e2
  have h1 : sat B (ownS s :: roS y :: R) w := by simpa using p.out B [] w (by simpa using hs)
  obtain ⟨a, c, w', hr, hs'⟩ := append_run (P := P) (t := t) (ty := ty) (e := e) (zs := zs) kk.h.symm hb.1 hb.2 h1
  exact ⟨_, w', _, hr, (hs'.perm (.swap _ _ _)).tail, h a c⟩

/-- One element, freshly laid. -/
theorem AppG.one {α : Type} [Rep α] {t e k b r : Nat} {zs vs : List Value} {R : List HProp} {K : Value → List HProp → Prop} (s : Sl α) (x : α) [u : TUnd P t (.slice e)] [ti : TI P e k b zs] [kk : KIs α k] [en : EncIs α x vs]
    [p : Picks [ownS s, cells true r 0 vs, Rep.own x] L R]
    (hb : (s.xs.length + 1) * b ≤ 140737488355328 ∧ s.xs.length + 1 ≤ 140737488355328)
    (h : ∀ a c, K (.slice a (s.xs ++ [x]).length c) (ownS ⟨a, c, s.xs ++ [x]⟩ :: R)) {v1 : Value} (e1 : v1 = s.val := by rfl) : AppG P t ty v1 (.slice (some ⟨r, 0, none⟩) 1 1) L K := by
  intro B w hs
  subst e1
  have h1 : sat B (ownS s :: cells true r 0 vs :: Rep.own x :: R) w := by simpa using p.out B [] w (by simpa using hs)
  have h2 : sat B (cells true r 0 (flat [x]) :: (fun h => ∀ y ∈ [x], Rep.own y h) :: ownS s :: R) w := by
    have h3 := h1.perm (perm3 _ _ _ _)
    have e1 : flat [x] = vs := by simp [flat, en.h]
    rw [e1]
    have h4 : sat B (Rep.own x :: cells true r 0 vs :: ownS s :: R) w := h3.perm (.swap _ _ _)
    exact (h4.head (A' := fun h => ∀ y ∈ [x], Rep.own y h) fun h a y hy => by rw [List.mem_singleton.1 hy]; exact a).perm (.swap _ _ _)
  have h3 := roS_of_cells (c := 1) (by simp) (by simp) h2
  obtain ⟨a, c, w', hr, hs'⟩ := append_run (P := P) (t := t) (ty := ty) (e := e) (zs := zs) (s := s) (y := ⟨some ⟨r, 0, none⟩, 1, [x]⟩) kk.h.symm (by simpa using hb.1) (by simpa using hb.2) (h3.perm (.swap _ _ _))
  exact ⟨_, w', _, hr, (hs'.perm (.swap _ _ _)).tail, h a c⟩

/-- One element that refers to nothing, freshly laid. -/
theorem AppG.one' {α : Type} [Rep α] {t e k b r : Nat} {zs vs : List Value} {R : List HProp} {K : Value → List HProp → Prop} (s : Sl α) (x : α) [u : TUnd P t (.slice e)] [ti : TI P e k b zs] [kk : KIs α k] [en : EncIs α x vs]
    (ho : ∀ g, Rep.own x g) [p : Picks [ownS s, cells true r 0 vs] L R]
    (hb : (s.xs.length + 1) * b ≤ 140737488355328 ∧ s.xs.length + 1 ≤ 140737488355328)
    (h : ∀ a c, K (.slice a (s.xs ++ [x]).length c) (ownS ⟨a, c, s.xs ++ [x]⟩ :: R)) {v1 : Value} (e1 : v1 = s.val := by rfl) : AppG P t ty v1 (.slice (some ⟨r, 0, none⟩) 1 1) L K := by
  intro B w hs
  subst e1
  have h1 : sat B (ownS s :: cells true r 0 vs :: R) w := by simpa using p.out B [] w (by simpa using hs)
  have q : Picks [ownS s, cells true r 0 vs, Rep.own x] (ownS s :: cells true r 0 vs :: Rep.own x :: R) R := ⟨fun _ _ _ h => h⟩
  exact AppG.one (t := t) (ty := ty) (e := e) (zs := zs) (P := P) (p := q) s x hb h rfl B w ((sat_true ho (h1.perm (perm3 (ownS s) (cells true r 0 vs) (says True) R |> fun _ => .refl _))).perm (perm3 _ _ _ _))

theorem ro_cut {α : Type} [Rep α] {B : World} {s : Sl α} {w : World} {lo hi mx : Nat} (h1 : lo ≤ hi) (h2 : hi ≤ s.xs.length) (h3 : hi ≤ mx) (h4 : mx ≤ s.c) (hs : sat B (roS s :: L) w) :
    sat B (roS (⟨if mx = lo then s.a else s.a.map (·.add (lo * Rep.k α)), mx - lo, (s.xs.take hi).drop lo⟩ : Sl α) :: roS s :: L) w := by
  refine hs.also ?_
  rintro h ⟨ok, hc, ho⟩
  have hlen : ((s.xs.take hi).drop lo).length = hi - lo := by simp; omega
  refine ⟨⟨?_, by simp only [hlen]; omega, ?_, by simp only [hlen]; have := ok.len; omega⟩, ?_, fun x hx => ho x (List.mem_of_mem_take (List.mem_of_mem_drop hx))⟩
  · intro x hx
    split at hx
    · exact ok.spot x hx
    · cases ha : s.a with
      | none => rw [ha] at hx; cases hx
      | some y =>
        rw [ha] at hx
        simp only [Option.map_some, Option.some.injEq] at hx
        have := ok.spot y ha
        rw [← hx]
        unfold Addr.add
        split
        · exact this
        · rfl
  · intro hn
    simp only at hn ⊢
    split at hn
    · rename_i e; have := ok.null hn; omega
    · cases ha : s.a with
      | none => have := ok.null ha; omega
      | some y => rw [ha] at hn; cases hn
  · intro i v hi'
    have hi2 : i < (hi - lo) * Rep.k α := by
      have : i < (flat ((s.xs.take hi).drop lo)).length := by
        rcases Nat.lt_or_ge i (flat ((s.xs.take hi).drop lo)).length with h | h
        · exact h
        · rw [List.getElem?_eq_none h] at hi'; cases hi'
      rwa [flat_length, hlen] at this
    have hpos : 0 < hi - lo := by
      rcases Nat.eq_zero_or_pos (hi - lo) with h | h
      · rw [h] at hi2; omega
      · exact h
    rw [if_neg (by omega)]
    have hsa := ok.some (by omega)
    have hk := Rep.pos (α := α)
    have hj : i / Rep.k α < hi - lo := (Nat.div_lt_iff_lt_mul hk).2 hi2
    have hf : i % Rep.k α < Rep.k α := Nat.mod_lt _ hk
    have ei : i / Rep.k α * Rep.k α + i % Rep.k α = i := by rw [Nat.mul_comm]; exact Nat.div_add_mod _ _
    have key : (flat s.xs)[lo * Rep.k α + i]? = some v := by
      have g1 := flat_get ((s.xs.take hi).drop lo) (i / Rep.k α) (by omega) (i % Rep.k α) hf
      have g2 := flat_get s.xs (lo + i / Rep.k α) (by omega) (i % Rep.k α) hf
      rw [ei, hi'] at g1
      have e2 : (lo + i / Rep.k α) * Rep.k α + i % Rep.k α = lo * Rep.k α + i := by rw [Nat.add_mul, Nat.add_assoc, ei]
      rw [e2] at g2
      rw [g2, g1]
      simp
    rw [hsa]
    simp only [Option.map_some, Addr.add_lit]
    have := hc _ v key
    rw [Nat.add_assoc]; exact this
end
end Go.SL
namespace Go.SL

section
variable {P : Program} {env : Env} {ty : TypeId} {L : List HProp}

/-- A shared slice with this header stands in the list. -/
class RoAt (L : List HProp) (a : Option Addr) (len c : Nat) (α : outParam Type) (i : outParam (Rep α)) (s : outParam (Sl α)) : Prop where
  h : ∀ B w, sat B L w → ∃ L', sat B (@roS α i s :: L') w
  ea : s.a = a
  el : s.xs.length = len
  ec : s.c = c
  dup : ∀ B X w, sat B (L ++ X) w → sat B (@roS α i s :: (L ++ X)) w
instance roAt_here {α : Type} [i : Rep α] (s : Sl α) (L : List HProp) (a : Option Addr) (len c : Nat) [x : Eq1 s.a a] [y : Eq1 s.xs.length len] [z : Eq1 s.c c] : RoAt (roS s :: L) a len c α i s :=
  ⟨fun _ _ hs => ⟨L, hs⟩, x.h, y.h, z.h, fun B X w hs => Shared.dup B (L ++ X) w hs⟩
instance (priority := low) roAt_next (A : HProp) (L : List HProp) (a : Option Addr) (len c : Nat) (α : Type) (i : Rep α) (s : Sl α) [r : RoAt L a len c α i s] : RoAt (A :: L) a len c α i s :=
  ⟨fun B w hs => r.h B w hs.tail, r.ea, r.el, r.ec, fun B X w hs => by
    have h1 : sat B (L ++ A :: X) w := hs.perm List.perm_middle.symm
    have h2 := r.dup B (A :: X) w h1
    exact h2.perm (List.Perm.cons _ List.perm_middle)⟩

/-- What a slice expression says of its bounds: none: as where it begins, as where it ends. -/
class Bnd (env : Env) (x : Option Operand) (d : Nat) (n : outParam Int) : Prop where
  h : (x = none ∧ n = d) ∨ ∃ o k, x = some o ∧ ev env o = .int k n
instance bnd_none (d : Nat) : Bnd env none d (d : Int) := ⟨.inl ⟨rfl, rfl⟩⟩
instance bnd_some (o : Operand) (d : Nat) (k : IntKind) (n : Int) [e : EvO env o (.int k n)] : Bnd env (some o) d n := ⟨.inr ⟨o, k, rfl, e.h⟩⟩

theorem sliceBounds_run {lo hi : Option Operand} {len cap : Nat} {l h : Int} (bl : Bnd env lo 0 l) (bh : Bnd env hi len h) (h0 : 0 ≤ l) (h1 : l ≤ h) (h2 : h ≤ len) (h3 : len ≤ cap) (w : World) :
    (Instr.sliceBounds true len cap (lo.map (ev env)) (hi.map (ev env)) none).run P w = .ok (l.toNat, h.toNat, cap) w := by
  have c1 : 0 ≤ h ∧ h ≤ (cap : Int) := ⟨by omega, by omega⟩
  have c2 : 0 ≤ l ∧ l ≤ (h.toNat : Int) := ⟨h0, by omega⟩
  rcases bh.h with ⟨rfl, rfl⟩ | ⟨oh, kh, rfl, eh⟩ <;> rcases bl.h with ⟨rfl, rfl⟩ | ⟨ol, kl, rfl, el⟩
  · simp [Instr.sliceBounds]
  · have c3 : 0 ≤ l ∧ l ≤ (len : Int) := ⟨h0, by omega⟩
    simp [Instr.sliceBounds, Instr.sliceBound, asIntOf, el, c3]
  · simp [Instr.sliceBounds, Instr.sliceBound, asIntOf, eh, c1]
  · simp [Instr.sliceBounds, Instr.sliceBound, asIntOf, eh, el, c1, c2]
    intro hh; omega

instance exec_slice (t e : TypeId) (k : Nat) (x : Operand) (lo hi : Option Operand) (a : Option Addr) (len c jl jh : Nat) (l h : Int) (α : Type) (i : Rep α) (s : Sl α) [ex : EvO env x (.slice a len c)] [u : TUnd P t (.slice e)] [ts : TSize P e k] [kk : @KIs α i k]
    [r : RoAt L a len c α i s] [bl : Bnd env lo 0 l] [bh : Bnd env hi len h] [nl : ToNat l jl] [nh : ToNat h jh] :
    Exec P (.slice t x lo hi none) ty env L (fun K => Side (0 ≤ l ∧ l ≤ h ∧ h ≤ len)
      (All fun a' => K (.slice a' ((s.xs.take jh).drop jl).length (c - jl)) (@roS α i ⟨a', c - jl, (s.xs.take jh).drop jl⟩ :: L))) :=
  ⟨fun B dst pos after guard K hk w hs => by
    obtain ⟨h0, h1, h2⟩ := hk.side
    have hs' := r.dup B [] w (by simpa using hs)
    simp only [List.append_nil] at hs'
    have ok : s.ok := by obtain ⟨g, a, _⟩ := hs'.headOf; exact a.1
    have hc := ok.cap
    rw [r.el, r.ec] at hc
    have el := nl.h
    have eh := nh.h
    have hlen : ((s.xs.take jh).drop jl).length = jh - jl := by simp [r.el]; omega
    have hcut := ro_cut (B := B) (lo := jl) (hi := jh) (mx := c) (s := s) (by omega) (by rw [r.el]; omega) (by omega) (by rw [r.ec]; exact Nat.le_refl _) hs'
    have hfin : sat B (@roS α i ⟨if c = jl then s.a else s.a.map (·.add (jl * i.k)), c - jl, (s.xs.take jh).drop jl⟩ :: L) w := by
      have := hcut.perm (.swap _ _ _)
      exact this.tail
    refine .inl ⟨.slice (if c = jl then s.a else s.a.map (·.add (jl * i.k))) (jh - jl) (c - jl), w, _, ?_, hfin, by rw [← hlen]; exact hk.rest.all _⟩
    have hb := sliceBounds_run (P := P) bl bh h0 h1 h2 hc w
    rw [el, eh] at hb
    have hkk : i.k = k := kk.h
    have hx : ev env x = .slice a len c := ex.h
    simp only [execOp, Instr.sliceAt, Instr.slice, Sem.run_bind, u.run, Result.andThen_ok, hx, hb, ts.h, Sem.run_pure, hkk, r.ea, Option.map_none]⟩

instance cexec_quo (t u : TypeId) (x y : Operand) (a b : Int) [e : EvO env x (.int .i64 a)] [f : EvO env y (.int .i64 b)] :
    CExec P (.binOp .quo t x y u) ty env (0 ≤ a ∧ 0 < b ∧ a ≤ 9223372036854775807) (.int .i64 (a / b)) := ⟨fun _ _ _ _ _ h => by
  have hb : ¬ b = 0 := by omega
  have e1 : a.tdiv b = a / b := Int.tdiv_eq_ediv_of_nonneg h.1
  have h2 : 0 ≤ a / b := Int.ediv_nonneg h.1 (by omega)
  have h3 : a / b ≤ a := Int.ediv_le_self _ h.1
  have hw : IntKind.i64.wrap (a / b) = a / b := wrap_i64 ⟨by omega, by omega⟩
  simp [execOp, e.h, f.h, binOp, eqGuard_quo, Op.intDiv, hb, e1, hw]⟩
/-- Known not to be below 0. -/
class NN (a : Int) : Prop where h : 0 ≤ a
instance nn_cast (n : Nat) : NN (n : Int) := ⟨Int.natCast_nonneg n⟩
instance (priority := high) cexec_rem (t u : TypeId) (x y : Operand) (a b : Int) [e : EvO env x (.int .i64 a)] [f : EvO env y (.int .i64 b)] [nn : NN a] :
    CExec P (.binOp .rem t x y u) ty env (0 < b) (.int .i64 (a % b)) := ⟨fun _ _ _ _ _ h => by
  have hb : ¬ b = 0 := by omega
  have e1 : a.tmod b = a % b := Int.tmod_eq_emod_of_nonneg nn.h
  simp [execOp, e.h, f.h, binOp, eqGuard_rem, Op.intDiv, hb, e1]⟩
instance cexec_remT (t u : TypeId) (x y : Operand) (a b : Int) [e : EvO env x (.int .i64 a)] [f : EvO env y (.int .i64 b)] :
    CExec P (.binOp .rem t x y u) ty env (b ≠ 0) (.int .i64 (a.tmod b)) := ⟨fun _ _ _ _ _ h => by
  simp [execOp, e.h, f.h, binOp, eqGuard_rem, Op.intDiv, h]⟩
theorem ite_min (a b : Int) : (if b < a then b else a) = min a b := by omega
theorem ite_max (a b : Int) : (if b > a then b else a) = max a b := by omega
instance pexec_min (x y : Operand) (ts : Array TypeId) (k : IntKind) (a b : Int) [e : EvO env x (.int k a)] [f : EvO env y (.int k b)] : PExec P (.call ⟨.builtin .min, [x, y].toArray, ts⟩) ty env (.int k (min a b)) := ⟨fun _ _ _ _ _ => by
  simp [execOp, resolve, invoke, builtin, Builtin.min_, Builtin.min2, e.h, f.h, ite_min]⟩
instance pexec_max (x y : Operand) (ts : Array TypeId) (k : IntKind) (a b : Int) [e : EvO env x (.int k a)] [f : EvO env y (.int k b)] : PExec P (.call ⟨.builtin .max, [x, y].toArray, ts⟩) ty env (.int k (max a b)) := ⟨fun _ _ _ _ _ => by
  have := ite_max a b
  simp [execOp, resolve, invoke, builtin, Builtin.max_, Builtin.max2, e.h, f.h, this]⟩
instance pexec_cap (t el : TypeId) (x : Operand) (a : Option Addr) (l c : Nat) [e : EvO env x (.slice a l c)] [u : TUnd P t (.slice el)] : PExec P (.call ⟨.builtin .cap, [x].toArray, [t].toArray⟩) ty env (.int .i64 c) := ⟨fun _ _ _ _ w => by
  simp [execOp, resolve, invoke, builtin, Builtin.cap_, e.h, goInt, u.run w]⟩

/-- The range of a kind. -/
@[reducible] def kMin : IntKind → Int
  | .i8 => -128 | .i16 => -32768 | .i32 => -2147483648 | .i64 => -9223372036854775808 | _ => 0
@[reducible] def kMax : IntKind → Int
  | .i8 => 127 | .i16 => 32767 | .i32 => 2147483647 | .i64 => 9223372036854775807 | .u8 => 255 | .u16 => 65535 | .u32 => 4294967295 | .u64 => 18446744073709551615

/-- The range of a kind, in numbers. -/
class KR (k : IntKind) (lo hi : outParam Int) : Prop where h : kMin k = lo ∧ kMax k = hi
instance kr_i64 : KR .i64 (-9223372036854775808) 9223372036854775807 := ⟨rfl, rfl⟩
instance kr_u8 : KR .u8 0 255 := ⟨rfl, rfl⟩
instance kr_u32 : KR .u32 0 4294967295 := ⟨rfl, rfl⟩
instance kr_u64 : KR .u64 0 18446744073709551615 := ⟨rfl, rfl⟩

theorem wrap_in {k : IntKind} {n : Int} (h : kMin k ≤ n ∧ n ≤ kMax k) : k.wrap n = n := by
  obtain ⟨h1, h2⟩ := h
  cases k <;> simp only [kMin, kMax] at h1 h2 <;> simp [IntKind.wrap, IntKind.bits, IntKind.signed] <;> omega

theorem wrap_u8 (n : Int) : IntKind.u8.wrap n = n % 256 := by simp [IntKind.wrap, IntKind.bits, IntKind.signed]
theorem wrap_u32 (n : Int) : IntKind.u32.wrap n = n % 4294967296 := by simp [IntKind.wrap, IntKind.bits, IntKind.signed]
/-- byte(n): the lowest eight bits. -/
instance (priority := high) pexec_conv8 (s d : TypeId) (x : Operand) (k : IntKind) (n : Int) [e : EvO env x (.int k n)] [us : TUnd P s (.int k)] [ud : TUnd P d (.int .u8)] : PExec P (.convert s d x) ty env (.int .u8 (n % 256)) := ⟨fun _ _ _ _ w => by
  simp [execOp, e.h, convert, us.run w, ud.run w, Conv.intToInt, wrap_u8]⟩
instance cexec_conv (s d : TypeId) (x : Operand) (k k' : IntKind) (n lo hi : Int) [e : EvO env x (.int k n)] [us : TUnd P s (.int k)] [ud : TUnd P d (.int k')] [kr : KR k' lo hi] : CExec P (.convert s d x) ty env (lo ≤ n ∧ n ≤ hi) (.int k' n) := ⟨fun _ _ _ _ w h => by
  rw [← kr.h.1, ← kr.h.2] at h
  simp [execOp, e.h, convert, us.run w, ud.run w, Conv.intToInt, wrap_in h]⟩

theorem eqlIn_ptr_nil (d : Nat) {t e : TypeId} (u : P.underlying t = some (.pointer e)) (a : Option Addr) (w : World) : (Op.equalIn (d + 1) t (.pointer a) (.pointer none)).run P w = .ok a.isNone w := by
  cases a <;> simp [Op.equalIn, run_underlying_of u]
theorem eql_ptr_nil {t e : TypeId} (u : P.underlying t = some (.pointer e)) (a : Option Addr) (w : World) : (Op.equal t (.pointer a) (.pointer none)).run P w = .ok a.isNone w := eqlIn_ptr_nil 9999 u a w
class NoneP (a : Option Addr) (b : outParam Bool) : Prop where h : a.isNone = b
instance (priority := low) noneP_any (a : Option Addr) : NoneP a a.isNone := ⟨rfl⟩
instance noneP_none : NoneP none true := ⟨rfl⟩
instance noneP_some (x : Addr) : NoneP (some x) false := ⟨rfl⟩
instance pexec_eqnil (t u el : TypeId) (x y : Operand) (a : Option Addr) (b : Bool) [e : EvO env x (.pointer a)] [f : EvO env y (.pointer none)] [ut : TUnd P t (.pointer el)] [h : NoneP a b] : PExec P (.binOp .eql t x y u) ty env (.bool b) := ⟨fun _ _ _ _ w => by
  simp [execOp, e.h, f.h, binOp, eqGuard_at_pointer, eql_ptr_nil ut.h, h.h]⟩
instance pexec_nenil (t u el : TypeId) (x y : Operand) (a : Option Addr) (b c : Bool) [e : EvO env x (.pointer a)] [f : EvO env y (.pointer none)] [ut : TUnd P t (.pointer el)] [h : NoneP a b] [g : NotB b c] : PExec P (.binOp .neq t x y u) ty env (.bool c) := ⟨fun _ _ _ _ w => by
  simp [execOp, e.h, f.h, binOp, eqGuard_at_pointer, eql_ptr_nil ut.h, h.h, ← g.h]⟩

instance pexec_makeFunc (fn : Fn) (xs : List Operand) (vs : List Value) [e : EvL env xs vs] : PExec P (.makeFunc fn #[] xs.toArray) ty env (.func fn #[] vs.toArray) := ⟨fun _ _ _ _ w => by
  have := e.h
  simp [execOp, Instr.makeFunc, this]⟩
instance exec_callv (g : Operand) (f : FuncId) (cs : List Value) (xs : List Operand) (vs all : List Value) (ts : Array TypeId) [eg : EvO env g (.func (.func f) #[] cs.toArray)] [e : EvL env xs vs] [c : TFunc P f] [a : AppL vs cs all] :
    Exec P (.call ⟨.value g, xs.toArray, ts⟩) ty env L (fun K => CallG P f all.toArray L K) :=
  ⟨fun B dst pos after guard K hk w hs => .inr (.inr ⟨f, all.toArray, w, by
    have := e.h
    have h2 := a.h
    simp [execOp, resolve, eg.h, Deferred.ofValue, invoke, this, c.h, h2], hk B w hs⟩)⟩
end
end Go.SL
namespace Go.SL

/-- The value at a key. -/
def mget (es : List (Int × Value)) (k : Int) : Option Value := (es.find? fun e => e.1 == k).map (·.2)
/-- A store at a key. -/
def mset (es : List (Int × Value)) (k : Int) (v : Value) : List (Int × Value) := if es.any fun e => e.1 == k then es.map fun e => if e.1 = k then (k, v) else e else es ++ [(k, v)]
def mdel (es : List (Int × Value)) (k : Int) : List (Int × Value) := es.eraseP fun e => e.1 == k

/-- The model's entries of a map that reads as es. -/
structure Ents (es : List (Int × Value)) (ms : Array MapEntry) (clock : Nat) : Prop where
  same : ms.toList.map (fun e => (e.key, e.val)) = es.map fun p => (Value.int .i64 p.1, p.2)
  nodup : (es.map (·.1)).Nodup
  born : (ms.toList.map (·.born)).Nodup
  clock : ∀ e ∈ ms.toList, e.born < clock

/-- A map of its own. -/
def mapO (r : Nat) (es : List (Int × Value)) : HProp := fun h => ∃ ms clock, Ents es ms clock ∧ h (.obj r) = some (true, .obj (.map ms clock))

section
variable {P : Program} {env : Env} {ty : TypeId} {L : List HProp} {B : World}

theorem mapO_open {r : Nat} {es : List (Int × Value)} {w : World} (hs : sat B (mapO r es :: L) w) : ∃ ms clock, Ents es ms clock ∧ sat B (object true r (.map ms clock) :: L) w := by
  obtain ⟨b, h, ⟨h₁, h₂, c, e, ⟨ms, clock, he, ho⟩, l⟩, hr⟩ := hs
  exact ⟨ms, clock, he, b, h, ⟨h₁, h₂, c, e, ⟨ho, rfl⟩, l⟩, hr⟩
theorem mapO_close {r : Nat} {es : List (Int × Value)} {ms : Array MapEntry} {clock : Nat} {w : World} (he : Ents es ms clock) (hs : sat B (object true r (.map ms clock) :: L) w) : sat B (mapO r es :: L) w :=
  hs.head fun h a => ⟨ms, clock, he, a.1⟩

theorem findNow_spec (k : Int) : ∀ (ms : List MapEntry) (es : List (Int × Value)) (i : Nat), ms.map (fun e => (e.key, e.val)) = es.map (fun p => (Value.int .i64 p.1, p.2)) →
    Instr.findNow (.int .i64) (.int .i64 k) ms i = some ((es.findIdx? fun e => e.1 == k).bind fun j => (es[j]?).map fun p => (i + j, p.2))
  | [], [], i, _ => rfl
  | [], _ :: _, i, h => by simp at h
  | _ :: _, [], i, h => by simp at h
  | m :: ms, p :: es, i, h => by
    simp only [List.map_cons, List.cons.injEq, Prod.mk.injEq] at h
    obtain ⟨⟨h1, h2⟩, h3⟩ := h
    have ih := findNow_spec k ms es (i + 1) h3
    simp only [Instr.findNow, h1, Instr.sameNow, if_true, List.findIdx?_cons]
    by_cases hk : p.1 = k
    · subst hk; simp [h2]
    · have e1 : (k == p.1) = false := by simp; exact fun e => hk e.symm
      have e2 : (p.1 == k) = false := by simpa using hk
      rw [e1, e2]
      simp only [ih, Bool.false_eq_true, if_false, Option.some.injEq]
      cases es.findIdx? (fun e => e.1 == k) with
      | none => rfl
      | some j => simp [Nat.add_assoc, Nat.add_comm 1 j]

theorem findIdx_get (es : List (Int × Value)) (k : Int) : ((es.findIdx? fun e => e.1 == k).bind fun j => (es[j]?).map fun p => p.2) = mget es k := by
  unfold mget
  induction es with
  | nil => rfl
  | cons p es ih =>
    simp only [List.findIdx?_cons, List.find?_cons]
    cases h : p.1 == k with
    | true => simp
    | false =>
      simp only [Bool.false_eq_true, if_false]
      rw [← ih]
      cases es.findIdx? (fun e => e.1 == k) <;> simp

theorem findKey_run {kt : TypeId} (u : P.underlying kt = some (.int .i64)) {es : List (Int × Value)} {ms : Array MapEntry} {clock : Nat} (he : Ents es ms clock) (k : Int) (w : World) :
    (Instr.findKey kt (.int .i64 k) ms.toList).run P w = .ok ((es.findIdx? fun e => e.1 == k).bind fun j => (es[j]?).map fun p => (j, p.2)) w := by
  have := findNow_spec k ms.toList es 0 he.same
  simp only [Nat.zero_add] at this
  simp [Instr.findKey, run_underlying_of u, this]

theorem checkKey_run {kt : TypeId} (u : P.underlying kt = some (.int .i64)) (b : Bool) (d : Nat) (k : Int) (w : World) : (Instr.checkKey b (d + 1) kt (.int .i64 k)).run P w = .ok () w := by
  simp [Instr.checkKey, run_underlying_of u]

theorem lookup_run {mt kt e : TypeId} {z : Value} (u : P.underlying mt = some (.map kt e)) (uk : P.underlying kt = some (.int .i64)) (hz : ∀ w, (zeroValue e).run P w = .ok z w) {es : List (Int × Value)} {r : Nat} {w : World}
    (hs : sat B (mapO r es :: L) w) (k : Int) (ok : Bool) :
    (Instr.lookup mt (.map (some r)) (.int .i64 k) ok).run P w = .ok (if ok then .tuple #[(mget es k).getD z, .bool (mget es k).isSome] else (mget es k).getD z) w := by
  obtain ⟨ms, clock, he, hs'⟩ := mapO_open hs
  have hg := hs'.obj
  have hf := findKey_run uk he k w
  have hm := findIdx_get es k
  have hc := checkKey_run (P := P) uk ms.isEmpty 9999 k w
  simp only [Instr.lookup, Sem.run_bind, run_underlying_of u, Result.andThen_ok, getObj, Sem.run, hg, Sem.run_pure, hc, hf]
  cases hj : es.findIdx? (fun e => e.1 == k) with
  | none =>
    rw [hj] at hm
    simp only [Option.bind_none] at hm
    simp only [Option.bind_none, Sem.run_bind, hz, Result.andThen_ok, Sem.run_pure, ← hm, Option.getD_none, Option.isSome_none]
  | some j =>
    rw [hj] at hm
    have hlt : j < es.length := (List.findIdx?_eq_some_iff_getElem.1 hj).1
    simp only [Option.bind_some, List.getElem?_eq_getElem hlt, Option.map_some] at hm
    simp only [Option.bind_some, List.getElem?_eq_getElem hlt, Option.map_some, Sem.run_pure, Result.andThen_ok, ← hm, Option.getD_some, Option.isSome_some]
    cases ok <;> rfl

/-- A map stands in the list. -/
class MapAt (L : List HProp) (r : Nat) (es : outParam (List (Int × Value))) : Prop where h : ∀ B w, sat B L w → ∃ L', sat B (mapO r es :: L') w
instance mapAt_here (r : Nat) (es : List (Int × Value)) (L : List HProp) : MapAt (mapO r es :: L) r es := ⟨fun _ _ hs => ⟨L, hs⟩⟩
instance (priority := low) mapAt_next (A : HProp) (r : Nat) (es : List (Int × Value)) (L : List HProp) [m : MapAt L r es] : MapAt (A :: L) r es := ⟨fun B w hs => m.h B w hs.tail⟩

instance rexec_lenMap (mt kt e : TypeId) (x : Operand) (r : Nat) (es : List (Int × Value)) [ex : EvO env x (.map (some r))] [u : TUnd P mt (.map kt e)] [m : MapAt L r es] :
    RExec P (.call ⟨.builtin .len, [x].toArray, [mt].toArray⟩) ty env L (.int .i64 es.length) L := ⟨fun dst pos after guard B w hs => ⟨by
      obtain ⟨L', hs'⟩ := m.h B w hs
      obtain ⟨ms, clock, he, hs2⟩ := mapO_open hs'
      have hg := hs2.obj
      have hl : ms.size = es.length := by have := congrArg List.length he.same; simpa using this
      simp [execOp, resolve, invoke, builtin, Builtin.len_, ex.h, u.run w, getObj, Sem.run, hg, goInt, hl], hs⟩⟩

/-- What an act on the map makes of the list. -/
class MapSt (L : List HProp) (r : Nat) (es : outParam (List (Int × Value))) (to : outParam (List (Int × Value) → List HProp)) : Prop where
  h : ∀ B X w, sat B (L ++ X) w → ∃ L', sat B (mapO r es :: L') w ∧ ∀ es' w', sat B (mapO r es' :: L') w' → sat B (to es' ++ X) w'
instance mapSt_here (r : Nat) (es : List (Int × Value)) (L : List HProp) : MapSt (mapO r es :: L) r es (fun es' => mapO r es' :: L) := ⟨fun _ X _ hs => ⟨L ++ X, hs, fun _ _ h => h⟩⟩
instance (priority := low) mapSt_next (A : HProp) (r : Nat) (es : List (Int × Value)) (L : List HProp) (to : List (Int × Value) → List HProp) [m : MapSt L r es to] : MapSt (A :: L) r es (fun es' => A :: to es') :=
  ⟨fun B X w hs => by
    obtain ⟨L', h1, h2⟩ := m.h B (A :: X) w (hs.perm List.perm_middle.symm)
    exact ⟨L', h1, fun es' w' h => (h2 es' w' h).perm List.perm_middle⟩⟩

theorem ents_push {es : List (Int × Value)} {ms : Array MapEntry} {clock : Nat} (he : Ents es ms clock) {k : Int} (v : Value) (hn : es.any (fun e => e.1 == k) = false) :
    Ents (es ++ [(k, v)]) (ms.push { key := .int .i64 k, val := v, born := clock }) (clock + 1) := by
  refine ⟨by simp [he.same], ?_, ?_, ?_⟩
  · rw [List.map_append, List.nodup_append]
    refine ⟨he.nodup, by simp, ?_⟩
    intro a ha b hb
    simp at hb
    subst hb
    obtain ⟨p, hp, rfl⟩ := List.mem_map.1 ha
    have := List.any_eq_false.1 hn p hp
    simpa using this
  · rw [Array.toList_push, List.map_append, List.nodup_append]
    refine ⟨he.born, by simp, ?_⟩
    intro a ha b hb
    simp at hb
    subst hb
    obtain ⟨p, hp, rfl⟩ := List.mem_map.1 ha
    exact Nat.ne_of_lt (he.clock p hp)
  · intro e h
    rw [Array.toList_push, List.mem_append] at h
    rcases h with h | h
    · exact Nat.lt_succ_of_lt (he.clock e h)
    · simp at h; subst h; simp

theorem map_modify {α β : Type} (f : α → β) (g : α → α) (l : List α) (i : Nat) (h : ∀ x, l[i]? = some x → f (g x) = f x) : (l.modify i g).map f = l.map f := by
  apply List.ext_getElem?
  intro j
  simp only [List.getElem?_map, List.getElem?_modify]
  by_cases hj : i = j
  · subst hj
    cases hx : l[i]? with
    | none => simp
    | some x => simp [h x hx]
  · simp [hj]

theorem mset_idx (es : List (Int × Value)) (k : Int) (v : Value) (j : Nat) (hn : (es.map (·.1)).Nodup) (hj : es.findIdx? (fun e => e.1 == k) = some j) : mset es k v = es.modify j fun _ => (k, v) := by
  obtain ⟨hlt, hk, hbefore⟩ := List.findIdx?_eq_some_iff_getElem.1 hj
  have hk' : es[j].1 = k := by simpa using hk
  unfold mset
  rw [if_pos (List.any_eq_true.2 ⟨es[j], List.getElem_mem hlt, hk⟩)]
  apply List.ext_getElem?
  intro i
  simp only [List.getElem?_map, List.getElem?_modify]
  by_cases hij : j = i
  · subst hij; simp [hlt, hk']
  · cases hi : es[i]? with
    | none => rfl
    | some p =>
      have hpk : p.1 ≠ k := by
        intro e
        have hli : i < es.length := by
          rcases Nat.lt_or_ge i es.length with h | h
          · exact h
          · rw [List.getElem?_eq_none h] at hi; cases hi
        have h1 : (es.map (·.1))[i]? = (es.map (·.1))[j]? := by
          simp only [List.getElem?_map, hi, Option.map_some, List.getElem?_eq_getElem hlt, e, hk']
        have := (List.getElem?_inj (by simpa using hli) hn).1 h1
        exact hij this.symm
      simp [hpk, hij]

theorem ents_set {es : List (Int × Value)} {ms : Array MapEntry} {clock : Nat} (he : Ents es ms clock) {k : Int} (v : Value) {j : Nat} (hj : es.findIdx? (fun e => e.1 == k) = some j) :
    Ents (mset es k v) (ms.modify j fun e => { e with key := .int .i64 k, val := v }) clock := by
  obtain ⟨hlt, hk, _⟩ := List.findIdx?_eq_some_iff_getElem.1 hj
  have hk' : es[j].1 = k := by simpa using hk
  rw [mset_idx es k v j he.nodup hj]
  refine ⟨?_, ?_, ?_, ?_⟩
  · have hs := he.same
    apply List.ext_getElem?
    intro i
    have hi := congrArg (·[i]?) hs
    simp only [List.getElem?_map, Array.toList_modify, List.getElem?_modify] at hi ⊢
    by_cases hij : j = i
    · subst hij
      simp only [if_true]
      cases hm : ms.toList[j]? with
      | none => rw [hm] at hi; simp [hlt] at hi
      | some m => simp [hlt]
    · simp only [if_neg hij]; simpa using hi
  · rw [map_modify]
    · exact he.nodup
    · intro x hx
      rw [List.getElem?_eq_getElem hlt] at hx
      cases hx
      exact hk'.symm
  · rw [Array.toList_modify, map_modify]
    · exact he.born
    · intro x _; rfl
  · intro e h
    rw [Array.toList_modify] at h
    obtain ⟨i, hi⟩ := List.getElem?_of_mem h
    rw [List.getElem?_modify] at hi
    cases hm : ms.toList[i]? with
    | none => rw [hm] at hi; simp at hi
    | some m =>
      rw [hm] at hi
      have hb := he.clock m (List.mem_of_getElem? hm)
      by_cases hij : j = i
      · simp [hij] at hi; subst hi; exact hb
      · simp [hij] at hi; subst hi; exact hb

theorem mapUpdate_run {mt kt e : TypeId} (u : P.underlying mt = some (.map kt e)) (uk : P.underlying kt = some (.int .i64)) {es : List (Int × Value)} {r : Nat} {w : World} (hs : sat B (mapO r es :: L) w) (k : Int) (v : Value) :
    ∃ w', (Instr.mapUpdate mt (.map (some r)) (.int .i64 k) v).run P w = .ok () w' ∧ sat B (mapO r (mset es k v) :: L) w' := by
  obtain ⟨ms, clock, he, hs'⟩ := mapO_open hs
  have hg := hs'.obj
  have hf := findKey_run uk he k w
  have hc := checkKey_run (P := P) uk false 9999 k w
  cases hj : es.findIdx? (fun e => e.1 == k) with
  | none =>
    have hany : es.any (fun e => e.1 == k) = false := by
      rw [List.findIdx?_eq_none_iff] at hj
      rw [List.any_eq_false]
      intro x hx; simpa using hj x hx
    rw [hj] at hf
    refine ⟨World.setObj w r (.map (ms.push { key := .int .i64 k, val := v, born := clock }) (clock + 1)), ?_, ?_⟩
    · simp only [Instr.mapUpdate, Sem.run_bind, run_underlying_of u, Result.andThen_ok, getObj, setObj, Sem.run, hg, hc, hf, Option.bind_none]
      rfl
    · have hm : mset es k v = es ++ [(k, v)] := by unfold mset; rw [hany]; rfl
      rw [hm]
      exact mapO_close (ents_push he v hany) (hs'.setObj rfl)
  | some j =>
    obtain ⟨hlt, hk, _⟩ := List.findIdx?_eq_some_iff_getElem.1 hj
    have hk' : es[j].1 = k := by simpa using hk
    rw [hj] at hf
    simp only [Option.bind_some, List.getElem?_eq_getElem hlt, Option.map_some] at hf
    have hmk : (ms[j]?).map (·.key) = some (.int .i64 k) := by
      have := congrArg (fun l => l[j]?) he.same
      simp only [List.getElem?_map, List.getElem?_eq_getElem hlt, Option.map_some] at this
      cases hm : ms.toList[j]? with
      | none => rw [hm] at this; cases this
      | some m =>
        rw [hm] at this
        simp only [Option.map_some, Option.some.injEq, Prod.mk.injEq] at this
        have h2 : ms[j]? = some m := by simpa using hm
        rw [h2]; simp [this.1, hk']
    have hsb : Instr.sameBits 10000 (.int .i64 k) (.int .i64 k) = true := by simp [Instr.sameBits]
    refine ⟨World.setObj w r (.map (ms.modify j fun e => { e with key := .int .i64 k, val := v }) clock), ?_, mapO_close (ents_set he v hj) (hs'.setObj rfl)⟩
    simp only [Instr.mapUpdate, Sem.run_bind, run_underlying_of u, Result.andThen_ok, getObj, setObj, Sem.run, hg, hc, hf, hmk, Option.getD_some, Instr.keyThatStays, hsb, if_true, Sem.run_pure]
    rfl

instance exec_mapUpdate (mt kt e : TypeId) (x y z : Operand) (r : Nat) (k : Int) (v : Value) (es : List (Int × Value)) (to : List (Int × Value) → List HProp) [ex : EvO env x (.map (some r))] [ey : EvO env y (.int .i64 k)] [ez : EvO env z v]
    [u : TUnd P mt (.map kt e)] [uk : TUnd P kt (.int .i64)] [m : MapSt L r es to] : Exec P (.mapUpdate mt x y z) ty env L (fun K => K undef (to (mset es k v))) :=
  ⟨fun B dst pos after guard K hk w hs => by
    obtain ⟨L', h1, h2⟩ := m.h B [] w (by simpa using hs)
    obtain ⟨w', hr, hs'⟩ := mapUpdate_run u.h uk.h h1 k v
    exact .inr (.inl ⟨w', _, by simp [execOp, ex.h, ey.h, ez.h, hr], by simpa using h2 _ w' hs', hk⟩)⟩

instance exec_makeMap (t : TypeId) : Exec P (.makeMap t none) ty env L (fun K => All fun r => K (.map (some r)) (mapO r [] :: L)) :=
  ⟨fun B dst pos after guard K hk w hs => .inl ⟨.map (some w.heap.size), w.alloc (.map #[] 0), _, by simp [execOp, Instr.makeMap, newObj, Sem.run],
    mapO_close ⟨rfl, by simp, by simp, by simp⟩ (hs.alloc_obj (x := .map #[] 0) rfl), hk.all _⟩⟩

theorem eraseP_idx {es : List (Int × Value)} {k : Int} {j : Nat} (hj : es.findIdx? (fun e => e.1 == k) = some j) : mdel es k = es.eraseIdx j := by
  unfold mdel
  rw [List.eraseP_eq_eraseIdx, hj]

theorem map_eraseIdx' {α β : Type} (f : α → β) : ∀ (l : List α) (j : Nat), (l.eraseIdx j).map f = (l.map f).eraseIdx j
  | [], _ => rfl
  | _ :: _, 0 => rfl
  | x :: l, j + 1 => by simp [map_eraseIdx' f l j]

theorem delete_run {mt kt e : TypeId} (u : P.underlying mt = some (.map kt e)) (uk : P.underlying kt = some (.int .i64)) {es : List (Int × Value)} {r : Nat} {w : World} (hs : sat B (mapO r es :: L) w) (k : Int) :
    ∃ w', (Builtin.delete_ #[mt, kt] ty #[.map (some r), .int .i64 k]).run P w = .ok (.tuple #[]) w' ∧ sat B (mapO r (mdel es k) :: L) w' := by
  obtain ⟨ms, clock, he, hs'⟩ := mapO_open hs
  have hg := hs'.obj
  have hf := findKey_run uk he k w
  have hc := checkKey_run (P := P) uk ms.isEmpty 9999 k w
  cases hj : es.findIdx? (fun e => e.1 == k) with
  | none =>
    rw [hj] at hf
    have hm : mdel es k = es := by
      unfold mdel; rw [List.eraseP_eq_eraseIdx, hj]
    refine ⟨World.setObj w r (.map ms clock), ?_, by rw [hm]; exact mapO_close he (hs'.setObj rfl)⟩
    simp [Builtin.delete_, run_underlying_of u, getObj, setObj, Sem.run, hg, hc, hf]
    rfl
  | some j =>
    obtain ⟨hlt, hk, _⟩ := List.findIdx?_eq_some_iff_getElem.1 hj
    rw [hj] at hf
    simp only [Option.bind_some, List.getElem?_eq_getElem hlt, Option.map_some] at hf
    refine ⟨World.setObj w r (.map (ms.eraseIdxIfInBounds j) clock), ?_, ?_⟩
    · simp [Builtin.delete_, run_underlying_of u, getObj, setObj, Sem.run, hg, hc, hf]
      rfl
    · rw [eraseP_idx hj]
      have hlm : j < ms.toList.length := by have := congrArg List.length he.same; simp at this ⊢; omega
      have hsz : j < ms.size := by simpa using hlm
      have e1 : (ms.eraseIdxIfInBounds j).toList = ms.toList.eraseIdx j := by
        simp [Array.eraseIdxIfInBounds, hsz]
      refine mapO_close ⟨?_, ?_, ?_, ?_⟩ (hs'.setObj rfl)
      · rw [e1, map_eraseIdx', map_eraseIdx', he.same]
      · rw [map_eraseIdx']; exact he.nodup.sublist (List.eraseIdx_sublist _ _)
      · rw [e1, map_eraseIdx']; exact he.born.sublist (List.eraseIdx_sublist _ _)
      · intro x hx
        rw [e1] at hx
        exact he.clock x (List.mem_of_mem_eraseIdx hx)

instance exec_delete (mt kt e : TypeId) (x y : Operand) (r : Nat) (k : Int) (es : List (Int × Value)) (to : List (Int × Value) → List HProp) [ex : EvO env x (.map (some r))] [ey : EvO env y (.int .i64 k)]
    [u : TUnd P mt (.map kt e)] [uk : TUnd P kt (.int .i64)] [m : MapSt L r es to] : Exec P (.call ⟨.builtin .delete, [x, y].toArray, [mt, kt].toArray⟩) ty env L (fun K => K (.tuple #[]) (to (mdel es k))) :=
  ⟨fun B dst pos after guard K hk w hs => by
    obtain ⟨L', h1, h2⟩ := m.h B [] w (by simpa using hs)
    obtain ⟨w', hr, hs'⟩ := delete_run (P := P) (ty := ty) u.h uk.h h1 k
    exact .inl ⟨.tuple #[], w', _, by simp [execOp, resolve, invoke, builtin, ex.h, ey.h, hr], by simpa using h2 _ w' hs', hk⟩⟩
end
end Go.SL
namespace Go.SL

section
variable {P : Program} {env : Env} {ty : TypeId} {L : List HProp}

@[reducible] def kBits : IntKind → Nat | .i8 | .u8 => 8 | .i16 | .u16 => 16 | .i32 | .u32 => 32 | _ => 64

theorem ofInt_toNat {n : Nat} {a : Int} (h0 : 0 ≤ a) (h : a < 2 ^ n) : (BitVec.ofInt n a).toNat = a.toNat := by
  rw [BitVec.toNat_ofInt]
  obtain ⟨m, rfl⟩ := Int.eq_ofNat_of_zero_le h0
  have h' : m < 2 ^ n := by exact_mod_cast h
  rw [Int.emod_eq_of_lt h0 (by exact_mod_cast h)]

class Uns (k : IntKind) : Prop where
  bits : kMax k = 2 ^ k.bits - 1
  min : kMin k = 0
instance uns8 : Uns .u8 := ⟨by decide, rfl⟩
instance uns32 : Uns .u32 := ⟨by decide, rfl⟩
instance uns64 : Uns .u64 := ⟨by decide, rfl⟩

theorem uns_nat {k : IntKind} [u : Uns k] {a : Int} (h : 0 ≤ a ∧ a ≤ kMax k) : a < 2 ^ k.bits := by have := u.bits; omega

theorem back_wrap {k : IntKind} [u : Uns k] (r : BitVec k.bits) : k.wrap (r.toNat : Int) = r.toNat := by
  refine wrap_in ⟨by rw [u.min]; omega, ?_⟩
  have := r.isLt
  rw [u.bits]
  have h2 : (r.toNat : Int) < ((2 ^ k.bits : Nat) : Int) := by exact_mod_cast this
  rw [show ((2 ^ k.bits : Nat) : Int) = (2 : Int) ^ k.bits from by norm_cast] at h2
  omega

instance cexec_or (t u : TypeId) (x y : Operand) (k : IntKind) (a b lo hi : Int) (m n : Nat) [e : EvO env x (.int k a)] [f : EvO env y (.int k b)] [uu : Uns k] [ta : ToNat a m] [tb : ToNat b n] [kr : KR k lo hi] :
    CExec P (.binOp .or t x y u) ty env ((0 ≤ a ∧ a ≤ hi) ∧ 0 ≤ b ∧ b ≤ hi) (.int k ((m ||| n : Nat) : Int)) := ⟨fun _ _ _ _ _ h => by
  rw [← kr.h.2] at h
  have h1 := ofInt_toNat h.1.1 (uns_nat h.1)
  have h2 := ofInt_toNat h.2.1 (uns_nat h.2)
  have hb := back_wrap (k := k) (BitVec.ofInt k.bits a ||| BitVec.ofInt k.bits b)
  rw [BitVec.toNat_or, h1, h2, ta.h, tb.h] at hb
  simp only [execOp, e.h, f.h, binOp, eqGuard_at_int, Op.intBits, ne_eq, not_true_eq_false, if_false, Sem.run_bind, Sem.run_pure, Result.andThen_ok, hb, BitVec.toNat_or, h1, h2, ta.h, tb.h]⟩
instance cexec_and (t u : TypeId) (x y : Operand) (k : IntKind) (a b lo hi : Int) (m n : Nat) [e : EvO env x (.int k a)] [f : EvO env y (.int k b)] [uu : Uns k] [ta : ToNat a m] [tb : ToNat b n] [kr : KR k lo hi] :
    CExec P (.binOp .and t x y u) ty env ((0 ≤ a ∧ a ≤ hi) ∧ 0 ≤ b ∧ b ≤ hi) (.int k ((m &&& n : Nat) : Int)) := ⟨fun _ _ _ _ _ h => by
  rw [← kr.h.2] at h
  have h1 := ofInt_toNat h.1.1 (uns_nat h.1)
  have h2 := ofInt_toNat h.2.1 (uns_nat h.2)
  have hb := back_wrap (k := k) (BitVec.ofInt k.bits a &&& BitVec.ofInt k.bits b)
  rw [BitVec.toNat_and, h1, h2, ta.h, tb.h] at hb
  simp only [execOp, e.h, f.h, binOp, eqGuard_at_int, Op.intBits, ne_eq, not_true_eq_false, if_false, Sem.run_bind, Sem.run_pure, Result.andThen_ok, hb, BitVec.toNat_and, h1, h2, ta.h, tb.h]⟩
instance cexec_xor (t u : TypeId) (x y : Operand) (k : IntKind) (a b lo hi : Int) (m n : Nat) [e : EvO env x (.int k a)] [f : EvO env y (.int k b)] [uu : Uns k] [ta : ToNat a m] [tb : ToNat b n] [kr : KR k lo hi] :
    CExec P (.binOp .xor t x y u) ty env ((0 ≤ a ∧ a ≤ hi) ∧ 0 ≤ b ∧ b ≤ hi) (.int k ((m ^^^ n : Nat) : Int)) := ⟨fun _ _ _ _ _ h => by
  rw [← kr.h.2] at h
  have h1 := ofInt_toNat h.1.1 (uns_nat h.1)
  have h2 := ofInt_toNat h.2.1 (uns_nat h.2)
  have hb := back_wrap (k := k) (BitVec.ofInt k.bits a ^^^ BitVec.ofInt k.bits b)
  rw [BitVec.toNat_xor, h1, h2, ta.h, tb.h] at hb
  simp only [execOp, e.h, f.h, binOp, eqGuard_at_int, Op.intBits, ne_eq, not_true_eq_false, if_false, Sem.run_bind, Sem.run_pure, Result.andThen_ok, hb, BitVec.toNat_xor, h1, h2, ta.h, tb.h]⟩

instance cexec_inv32 (t : TypeId) (x : Operand) (a : Int) (m : Nat) [e : EvO env x (.int .u32 a)] [ta : ToNat a m] : CExec P (.unOp .xor t x) ty env (0 ≤ a ∧ a ≤ 4294967295) (.int .u32 ((4294967295 ^^^ m : Nat) : Int)) := ⟨fun _ _ _ _ _ h => by
  have h1 := ofInt_toNat (n := IntKind.u32.bits) h.1 (by have := h.2; simp [IntKind.bits]; omega)
  have h2 : (BitVec.ofInt IntKind.u32.bits IntKind.u32.max).toNat = 4294967295 := by decide
  have hb := back_wrap (k := .u32) (BitVec.ofInt IntKind.u32.bits IntKind.u32.max ^^^ BitVec.ofInt IntKind.u32.bits a)
  have hs : IntKind.u32.signed = false := rfl
  rw [BitVec.toNat_xor, h1, h2, ta.h] at hb
  simp only [execOp, e.h, Op.unary, Op.intBits, hs, Bool.false_eq_true, if_false, Sem.run_bind, Sem.run_pure, Result.andThen_ok, BitVec.toNat_xor, h1, h2, ta.h, hb]⟩
instance pexec_neg32 (t : TypeId) (x : Operand) (a : Int) [e : EvO env x (.int .u32 a)] : PExec P (.unOp .neg t x) ty env (.int .u32 ((0 - a) % 4294967296)) := ⟨fun _ _ _ _ _ => by
  simp only [execOp, e.h, Op.unary, Op.intArith, Sem.run_bind, Sem.run_pure, Result.andThen_ok, wrap_u32]⟩

class KB (k : IntKind) (n : outParam Int) : Prop where h : (kBits k : Int) = n
instance kb32 : KB .u32 32 := ⟨rfl⟩
instance kb64 : KB .u64 64 := ⟨rfl⟩
instance kbi : KB .i64 64 := ⟨rfl⟩
/-- A shift amount. -/
theorem min_bits {b : Int} {k : IntKind} (h : b < kBits k) : min b.toNat k.bits = b.toNat := by
  cases k <;> simp only [kBits, IntKind.bits] at h ⊢ <;> omega
instance cexec_shr (t u : TypeId) (x y : Operand) (k k' : IntKind) (a b q : Int) (n : Nat) [e : EvO env x (.int k a)] [f : EvO env y (.int k' b)] [tb : ToNat b n] [kb : KB k q] :
    CExec P (.binOp .shr t x y u) ty env (0 ≤ a ∧ 0 ≤ b ∧ b < q) (.int k (a / 2 ^ n)) := ⟨fun _ _ _ _ _ h => by
  rw [← kb.h] at h
  have hm := min_bits h.2.2
  have hn : ¬ b < 0 := by omega
  have hf : a.fdiv (2 ^ n) = a / 2 ^ n := Int.fdiv_eq_ediv_of_nonneg _ (Int.le_of_lt (Int.pow_pos (by decide)))
  rw [tb.h] at hm
  simp only [execOp, e.h, f.h, binOp, eqGuard_shr, Op.shift, Sem.run_bind, Sem.run_pure, Result.andThen_ok, hn, if_false, tb.h, hm, hf]⟩
instance cexec_shl (t u : TypeId) (x y : Operand) (k k' : IntKind) (a b q lo hi : Int) (n : Nat) [e : EvO env x (.int k a)] [f : EvO env y (.int k' b)] [tb : ToNat b n] [kb : KB k q] [kr : KR k lo hi] :
    CExec P (.binOp .shl t x y u) ty env (0 ≤ b ∧ b < q ∧ lo ≤ a * 2 ^ n ∧ a * 2 ^ n ≤ hi) (.int k (a * 2 ^ n)) := ⟨fun _ _ _ _ _ h => by
  rw [← kb.h, ← kr.h.1, ← kr.h.2] at h
  have hm := min_bits h.2.1
  have hn : ¬ b < 0 := by omega
  have hw := wrap_in h.2.2
  rw [tb.h] at hm
  simp only [execOp, e.h, f.h, binOp, eqGuard_shl, Op.shift, Sem.run_bind, Sem.run_pure, Result.andThen_ok, hn, if_false, tb.h, hm, hw]⟩

/-- A byte, in a wider kind. -/
class WideB (k : IntKind) : Prop where
  lo : kMin k ≤ 0
  hi : 255 ≤ kMax k
instance wideb_i64 : WideB .i64 := ⟨by decide, by decide⟩
instance wideb_u32 : WideB .u32 := ⟨by decide, by decide⟩
instance wideb_u64 : WideB .u64 := ⟨by decide, by decide⟩
instance (priority := high) pexec_convb (s d : TypeId) (x : Operand) (k' : IntKind) (b : UInt8) [e : EvO env x (.int .u8 b.toNat)] [us : TUnd P s (.int .u8)] [ud : TUnd P d (.int k')] [wb : WideB k'] :
    PExec P (.convert s d x) ty env (.int k' b.toNat) := ⟨fun _ _ _ _ w => by
  have h1 : kMin k' ≤ (b.toNat : Int) ∧ (b.toNat : Int) ≤ kMax k' := by
    have := UInt8.toNat_lt b
    have := wb.lo
    have := wb.hi
    omega
  simp [execOp, e.h, convert, us.run w, ud.run w, Conv.intToInt, wrap_in h1]⟩

class DecV (α : Type) [Rep α] (v : Value) (y : outParam α) : Prop where
  enc : Rep.enc y = [v]
  own : ∀ h, Rep.own y h
instance dec_bool (b : Bool) : DecV Bool (.bool b) b := ⟨rfl, fun _ => trivial⟩
instance dec_mod (n : Int) : DecV UInt8 (.int .u8 (n % 256)) (UInt8.ofNat (n % 256).toNat) := ⟨by
  show [Value.int .u8 ((UInt8.ofNat (n % 256).toNat).toNat : Int)] = _
  have : (UInt8.ofNat (n % 256).toNat).toNat = (n % 256).toNat := by
    rw [UInt8.toNat_ofNat']; omega
  rw [this, Int.toNat_of_nonneg (by omega)], fun _ => trivial⟩
theorem flat_set {α : Type} [Rep α] (hk : Rep.k α = 1) (xs : List α) (j : Nat) (y : α) (v : Value) (he : Rep.enc y = [v]) : flat (xs.set j y) = (flat xs).set j v := by
  unfold flat
  induction xs generalizing j with
  | nil => simp
  | cons x xs ih =>
    have hx : (Rep.enc x).length = 1 := by rw [Rep.len, hk]
    obtain ⟨u, hu⟩ : ∃ u, Rep.enc x = [u] := by
      cases hh : Rep.enc x with
      | nil => rw [hh] at hx; simp at hx
      | cons a l => cases l with
        | nil => exact ⟨a, rfl⟩
        | cons b l => rw [hh] at hx; simp at hx
    cases j with
    | zero => simp [he, hu]
    | succ j => simp [hu, ih]

instance stf_own {α : Type} [Rep α] (s : Sl α) (r o j : Nat) (v : Value) (y : α) [er : Eq1 (blk s.a) r] [kk : KIs α 1] [q : Off2 o (offs s.a) 1 j 0] [lt : Lt j s.xs.length] [d : DecV α v y] :
    StF (ownS s :: L) r o v (ownS ⟨s.a, s.c, s.xs.set j y⟩ :: L) := ⟨fun B X w hs => by
  have hs' : sat B (ownS s :: (L ++ X)) w := hs
  obtain ⟨ok, room, hl, hc⟩ := ownS_cells hs'
  have hlen : (flat s.xs).length = s.xs.length := by rw [flat_length, kk.h, Nat.mul_one]
  have hj : j < (flat s.xs ++ room).length := by have := lt.h; simp [hlen]; omega
  have hcell := hc.cell (i := j) (v := (flat s.xs ++ room)[j]) (by simp [hj])
  have hfr := hc.notFrozen (i := j) (v := (flat s.xs ++ room)[j]) (by simp [hj])
  have eo : o = offs s.a + j := by rw [q.h]; omega
  rw [← er.h, eo]
  refine ⟨⟨_, hcell⟩, hfr, ?_⟩
  have h2 := hc.set (v := v) hj
  have e : (flat s.xs ++ room).set j v = flat (s.xs.set j y) ++ room := by
    rw [List.set_append_left _ _ (by rw [hlen]; exact lt.h), flat_set kk.h s.xs j y v d.enc]
  rw [e] at h2
  refine ownS_of_cells (s := ⟨s.a, s.c, s.xs.set j y⟩) (room := room) ⟨ok.spot, by simpa using ok.cap, ok.null, by simpa using ok.len⟩ (by simpa using hl) ?_
  have h3 := h2.perm (.swap _ _ _)
  refine (h3.head (A' := fun h => ∀ x ∈ s.xs.set j y, Rep.own x h) fun h a x hx => ?_).perm (.swap _ _ _)
  rcases List.mem_or_eq_of_mem_set hx with hx | rfl
  · exact a x hx
  · exact d.own h⟩
end
theorem u8_le (c : UInt8) : (c.toNat : Int) ≤ 255 := by have := UInt8.toNat_lt c; omega
instance (priority := high) exec_load_byte (P : Program) (t : TypeId) (x : Operand) (ty : TypeId) (env : Env) (L : List HProp) (r o : Nat) (c : UInt8) [e : EvO env x (.pointer (some ⟨r, o, none⟩))] [a : TAgg P t false] [l : Ld L r o (.int .u8 c.toNat)] :
    Exec P (.load t x) ty env L (fun K => Giv ((c.toNat : Int) ≤ 255) (K (.int .u8 c.toNat) L)) :=
  ⟨fun B dst pos after guard _ hk w hs => .inl ⟨_, w, L, ((rexec_load t x r o _).run dst pos after guard B w hs).1, hs, hk.giv (u8_le c)⟩⟩
end Go.SL
namespace Go.SL

section
variable {P : Program} {env : Env} {ty : TypeId} {L : List HProp}

theorem flat_replicate {α : Type} [Rep α] (n : Nat) (z : α) : flat (List.replicate n z) = (List.replicate n (Rep.enc z)).flatten := by
  unfold flat; induction n with
  | zero => rfl
  | succ n ih => rw [List.replicate_succ, List.flatMap_cons, ih, List.replicate_succ, List.flatten_cons]

theorem zeroCells_flat {α : Type} [i : Rep α] {z : Value} {zs : List Value} (hz : z.cells = zs.toArray) (x : α) (hx : zs = i.enc x) (n : Nat) : Builtin.zeroCells z.cells n = (flat (List.replicate n x)).toArray := by
  have hp : 0 < zs.length := by rw [hx, Rep.len]; exact Rep.pos
  have := mod_get zs hp n
  rw [flat_replicate, ← hx, ← this]
  simp [Builtin.zeroCells, hz]

theorem wrap_nat {n : Nat} (h : n ≤ 140737488355328) : IntKind.i64.wrap (n : Int) = n :=
  wrap_in ⟨Int.le_trans (by decide : kMin .i64 ≤ 0) (Int.natCast_nonneg n), Int.le_trans (by omega : (n : Int) ≤ 140737488355328) (by decide)⟩

/-- Where there is room. -/
theorem append_zeros_in {t ti e : TypeId} {i : TypeInfo} {z : Value} {kk : IntKind} (hu : P.underlying t = some (.slice e)) (hv : P.underlying ti = some (.int kk)) (hi : P.info? e = some i) (hz : i.zero = some z)
    {base : Option Addr} {sLen sCap n : Nat} {new : Array Value} {w w' : World} (hl : n ≤ 140737488355328) (hb : n * i.bytes ≤ 140737488355328)
    (hf : (if n * i.size = 0 then #[] else Builtin.zeroCells z.cells n) = new) (hroom : sLen + n ≤ sCap)
    (hst : (match base with | some a => (storeCells (a.add (sLen * i.size)) new.toList).run P w = .ok () w' | none => w' = w)) :
    (Builtin.append_ #[t, ti] ty #[.slice base sLen sCap, .int .i64 n]).run P w = .ok (.slice base (sLen + n) sCap) w' := by
  have hw := wrap_nat hl
  have hnn : ¬ ((n : Int) < 0) := by omega
  have h48 : ¬ (281474976710656 < (n : Int) * (i.bytes : Int)) := by
    have := Int.natCast_mul n i.bytes
    omega
  subst hf
  cases base with
  | none =>
    simp only at hst; subst hst
    by_cases h0 : n * i.size = 0 <;> simp [Builtin.append_, run_underlying hu, run_underlying hv, sizeOf, typeInfo, zeroValue, hi, hz, asInt, asIntOf, hw, hnn, h48, hroom, h0]
  | some a =>
    simp only at hst
    by_cases h0 : n * i.size = 0
    · simp [h0] at hst
      simp [Builtin.append_, run_underlying hu, run_underlying hv, sizeOf, typeInfo, zeroValue, hi, hz, asInt, asIntOf, hw, hnn, h48, hroom, h0, hst]
    · simp [h0] at hst
      simp [Builtin.append_, run_underlying hu, run_underlying hv, sizeOf, typeInfo, zeroValue, hi, hz, asInt, asIntOf, hw, hnn, h48, hroom, h0, hst]

/-- Where there is none. -/
theorem append_zeros_grow (w : World) {t ti e : TypeId} {i : TypeInfo} {z : Value} {kk : IntKind} (hu : P.underlying t = some (.slice e)) (hv : P.underlying ti = some (.int kk)) (hi : P.info? e = some i) (hz : i.zero = some z)
    {base : Option Addr} {sLen sCap n : Nat} {olds : Array Value} (hl : n ≤ 140737488355328) (hb : n * i.bytes ≤ 140737488355328) (h0 : n * i.size ≠ 0)
    (hold : (Builtin.firstCells i.size sLen (.slice base sLen sCap)).run P w.drew = .ok olds w.drew)
    (hg : sCap < sLen + n) (h63 : ((sLen + n : Nat) : Int) ≤ 9223372036854775807) (hfit : Builtin.nextslicecap (sLen + n) sCap * i.bytes ≤ 281474976710656) :
    (Builtin.append_ #[t, ti] ty #[.slice base sLen sCap, .int .i64 n]).run P w =
      .ok (.slice (some ⟨w.heap.size, 0, none⟩) (sLen + n) (grownCap w (sLen + n) sCap e))
        (w.drew.alloc (.cells (olds ++ Builtin.zeroCells z.cells n ++ Builtin.zeroCells z.cells (grownCap w (sLen + n) sCap e - (sLen + n))) e)) := by
  have hw := wrap_nat hl
  have hnn : ¬ ((n : Int) < 0) := by omega
  have h48 : ¬ (281474976710656 < (n : Int) * (i.bytes : Int)) := by
    have := Int.natCast_mul n i.bytes
    omega
  have hn : ¬ (sLen + n ≤ sCap) := by omega
  have h63' : ¬ (9223372036854775807 < ((sLen : Int) + (n : Int))) := by omega
  have h48' : ¬ (281474976710656 < Builtin.nextslicecap (sLen + n) sCap * i.bytes) := by omega
  simp [Builtin.append_, run_underlying hu, run_underlying hv, sizeOf, typeInfo, zeroValue, hi, hz, asInt, asIntOf, hw, hnn, h48, h0, hn, h63', h48', Question.forced, hold, newRow, grownCap]

theorem append_zeros_run {α : Type} [ra : Rep α] {B : World} {s : Sl α} {t ti e k b : Nat} {zs : List Value} {kk : IntKind} {x : α} {n : Nat} [u : TUnd P t (.slice e)] [v : TUnd P ti (.int kk)] [tI : TI P e k b zs] [zr : ZRep P e α ra x]
    (hb : (s.xs.length + n) * b ≤ 140737488355328) (hl : s.xs.length + n ≤ 140737488355328) {w : World} (hs : sat B (ownS s :: L) w) :
    ∃ (a : Option Addr) (c : Nat) (w' : World), (Builtin.append_ #[t, ti] ty #[s.val, .int .i64 n]).run P w = .ok (.slice a (s.xs ++ List.replicate n x).length c) w' ∧ sat B (ownS ⟨a, c, s.xs ++ List.replicate n x⟩ :: L) w' := by
  obtain ⟨hzs, hk⟩ := zr.zero _ _ _ tI
  obtain ⟨i, z, hi, hsz, hby, hz, hzc, hzl⟩ := tI.h
  subst hk
  have hpos : 0 < i.size := by rw [hsz]; exact Rep.pos
  obtain ⟨ok, room, hroom, hc⟩ := ownS_cells hs
  have hlen : (s.xs ++ List.replicate n x).length = s.xs.length + n := by simp
  have hzo : ∀ g, (fun h => ∀ y ∈ s.xs ++ List.replicate n x, Rep.own y h) g ↔ (fun h => ∀ y ∈ s.xs, Rep.own y h) g := fun g => by
    constructor
    · intro h y hy; exact h y (List.mem_append_left _ hy)
    · intro h y hy
      rcases List.mem_append.1 hy with h1 | h1
      · exact h y h1
      · rw [(List.mem_replicate.1 h1).2]; exact zr.own g
  have hzf := zeroCells_flat (i := ra) hzc x hzs
  have hpz : n ≠ 0 → n * i.size ≠ 0 := fun h => by rw [Ne, Nat.mul_eq_zero]; omega
  have happ : (if n * i.size = 0 then #[] else Builtin.zeroCells z.cells n) = (flat (List.replicate n x)).toArray := by
    rw [hzf]
    split
    · have : n = 0 := by rcases Nat.mul_eq_zero.1 ‹_› with h | h <;> omega
      subst this; rfl
    · rfl
  have hnb : n * i.bytes ≤ 140737488355328 := by rw [hby]; exact Nat.le_trans (Nat.mul_le_mul_right _ (Nat.le_add_left _ _)) hb
  by_cases hcap : s.xs.length + n ≤ s.c
  · obtain ⟨w', hrun, hsat⟩ := store_run (P := P) (B := B) (r := blk s.a) (o := offs s.a) (flat (List.replicate n x)) (s.xs.length * Rep.k α) 0 (flat s.xs ++ room) ((fun h => ∀ y ∈ s.xs, Rep.own y h) :: L) w hc
      (by simp only [List.length_append, flat_length, hroom, Nat.add_zero, ← Nat.add_mul, List.length_replicate]; exact Nat.mul_le_mul_right _ (by omega)) (flat_one _)
    have hlf : (flat (List.replicate n x)).length = n * Rep.k α := by rw [flat_length, List.length_replicate]
    have hsat' : sat B (ownS ⟨s.a, s.c, s.xs ++ List.replicate n x⟩ :: L) w' := by
      have h3 := ((hsat.perm (.swap _ _ _)).head (fun g a => (hzo g).2 a)).perm (.swap _ _ _)
      refine ownS_of_cells (s := ⟨s.a, s.c, s.xs ++ List.replicate n x⟩) (room := room.drop (flat (List.replicate n x)).length) ⟨ok.spot, by simpa using hcap, ok.null, by simpa using hl⟩ ?_ (h3.head ?_)
      · simp only [List.length_drop, hroom, hlf, List.length_append, ← Nat.sub_mul, List.length_replicate]; congr 1; omega
      · intro h a
        have e : (flat s.xs ++ room).take (s.xs.length * Rep.k α + 0) ++ flat (List.replicate n x) ++ (flat s.xs ++ room).drop (s.xs.length * Rep.k α + 0 + (flat (List.replicate n x)).length) = flat (s.xs ++ List.replicate n x) ++ room.drop (flat (List.replicate n x)).length := by
          rw [Nat.add_zero, ← flat_length, List.take_left', List.drop_append, flat_append]
          · simp
          · rfl
        rw [e] at a; exact a
    refine ⟨s.a, s.c, w', ?_, hsat'⟩
    rw [hlen]
    refine append_zeros_in u.h v.h hi hz (by omega) hnb happ hcap ?_
    cases ha : s.a with
    | none =>
      have hc0 := ok.null ha
      have hn0 : n = 0 := by omega
      subst hn0
      simp [flat, storeCells] at hrun
      exact hrun.symm
    | some ad =>
      have hsp := ok.spot ad ha
      obtain ⟨bk, of, sp⟩ := ad
      simp only at hsp
      subst hsp
      rw [ha] at hrun
      simp only [hsz]
      simpa [Addr.add_lit] using hrun
  · have hn0 : n ≠ 0 := by have := ok.cap; omega
    have hfit := growslice_fits (bytes := i.bytes) (show s.c < s.xs.length + n by omega) (by rw [hby]; exact hb)
    have hold : (Builtin.firstCells i.size s.xs.length s.val).run P w.drew = .ok (flat s.xs).toArray w.drew := by
      cases ha : s.a with
      | none =>
        have hc0 := ok.null ha
        have hx : s.xs = [] := List.eq_nil_of_length_eq_zero (by have := ok.cap; omega)
        simp [Sl.val, ha, hx, Builtin.firstCells, flat]
      | some a0 =>
        have hsp := ok.spot a0 ha
        obtain ⟨bk, of, sp⟩ := a0
        simp only at hsp
        subst hsp
        rw [Sl.val, ha]
        refine run_firstCells_some (P := P) w.drew i.size s.xs.length ⟨bk, of, none⟩ s.xs.length s.c (flat s.xs) (by rw [flat_length, hsz]) ?_
        intro j v hj
        rw [Addr.add_lit]
        have := hc.drew.cell (i := j) (v := v) (by rw [List.getElem?_append_left]; exact hj; rcases Nat.lt_or_ge j (flat s.xs).length with h | h; exact h; rw [List.getElem?_eq_none h] at hj; cases hj)
        rw [ha] at this
        exact this
    refine ⟨some ⟨w.heap.size, 0, none⟩, grownCap w (s.xs.length + n) s.c e, _, by rw [hlen]; exact append_zeros_grow w u.h v.h hi hz (by omega) hnb (hpz hn0) hold (by omega) (by omega) hfit, ?_⟩
    · have hge : s.xs.length + n ≤ grownCap w (s.xs.length + n) s.c e := by simp [grownCap, Question.cut]
      generalize grownCap w (s.xs.length + n) s.c e = cap at hge
      have h1 := hc.drew.tail.alloc_cells (c := (flat s.xs).toArray ++ Builtin.zeroCells z.cells n ++ Builtin.zeroCells z.cells (cap - (s.xs.length + n))) (t := e)
      have h3 := ((h1.perm (.swap _ _ _)).head (fun g a => (hzo g).2 a)).perm (.swap _ _ _)
      refine ownS_of_cells (s := ⟨some ⟨w.heap.size, 0, none⟩, cap, s.xs ++ List.replicate n x⟩) (room := (Builtin.zeroCells z.cells (cap - (s.xs.length + n))).toList)
        ⟨fun x hx => by simp at hx; rw [← hx], by simpa using hge, by simp, by simpa using hl⟩ ?_ (h3.head ?_)
      · simp [Builtin.zeroCells, hzc, hzl]
      · intro h a
        have e1 : ((flat s.xs).toArray ++ Builtin.zeroCells z.cells n ++ Builtin.zeroCells z.cells (cap - (s.xs.length + n))).toList = flat (s.xs ++ List.replicate n x) ++ (Builtin.zeroCells z.cells (cap - (s.xs.length + n))).toList := by
          rw [flat_append, hzf n]; simp
        rw [e1] at a
        exact a

def AppZ (P : Program) (t ti ty : TypeId) (v1 : Value) (n : Int) (L : List HProp) (K : Value → List HProp → Prop) : Prop :=
  ∀ B w, sat B L w → ∃ v w' L', (Builtin.append_ #[t, ti] ty #[v1, .int .i64 n]).run P w = .ok v w' ∧ sat B L' w' ∧ K v L'
instance exec_appendz (t ti : TypeId) (x y : Operand) (v1 : Value) (n : Int) [e : EvO env x v1] [f : EvO env y (.int .i64 n)] :
    Exec P (.call ⟨.builtin .append, [x, y].toArray, [t, ti].toArray⟩) ty env L (fun K => AppZ P t ti ty v1 n L K) :=
  ⟨fun B dst pos after guard K hk w hs => by
    obtain ⟨v, w', L', h1, h2, h3⟩ := hk B w hs
    exact .inl ⟨v, w', L', by simp [execOp, resolve, invoke, builtin, e.h, f.h, h1], h2, h3⟩⟩
theorem AppZ.use {α : Type} [ra : Rep α] {t ti e k b : Nat} {zs : List Value} {kk : IntKind} {x : α} {R : List HProp} {K : Value → List HProp → Prop} (s : Sl α) (n : Nat) {m : Int} [u : TUnd P t (.slice e)] [v : TUnd P ti (.int kk)] [tI : TI P e k b zs] [zr : ZRep P e α ra x]
    [p : Pick (ownS s) L R] (hm : m = n) (hb : (s.xs.length + n) * b ≤ 140737488355328 ∧ s.xs.length + n ≤ 140737488355328)
    (h : ∀ a c, K (.slice a (s.xs ++ List.replicate n x).length c) (ownS ⟨a, c, s.xs ++ List.replicate n x⟩ :: R)) {v1 : Value} (e1 : v1 = s.val := by rfl) : AppZ P t ti ty v1 m L K := by
  intro B w hs
  subst hm e1
  obtain ⟨a, c, w', hr, hs'⟩ := append_zeros_run (P := P) (t := t) (ti := ti) (ty := ty) (e := e) (n := n) (x := x) hb.1 hb.2 (hs.perm p.perm)
  exact ⟨_, w', _, hr, hs', h a c⟩

theorem AppG_conv {t : TypeId} {v1 v2 : Value} {L' : List HProp} {K : Value → List HProp → Prop} (hL : ∀ B w, sat B L w → sat B L' w) (h : AppG P t ty v1 v2 L' K) : AppG P t ty v1 v2 L K := fun B w hs => h B w (hL B w hs)
theorem AppZ_conv {t ti : TypeId} {v1 : Value} {n : Int} {L' : List HProp} {K : Value → List HProp → Prop} (hL : ∀ B w, sat B L w → sat B L' w) (h : AppZ P t ti ty v1 n L' K) : AppZ P t ti ty v1 n L K := fun B w hs => h B w (hL B w hs)

theorem eqlIn_sl_nil (d : Nat) {t e : TypeId} (u : P.underlying t = some (.slice e)) (a : Option Addr) (n c : Nat) (w : World) : (Op.equalIn (d + 1) t (.slice a n c) (.slice none 0 0)).run P w = .ok a.isNone w := by
  cases a <;> simp [Op.equalIn, run_underlying_of u]
theorem eql_sl_nil {t e : TypeId} (u : P.underlying t = some (.slice e)) (a : Option Addr) (n c : Nat) (w : World) : (Op.equal t (.slice a n c) (.slice none 0 0)).run P w = .ok a.isNone w := eqlIn_sl_nil 9999 u a n c w
instance pexec_eqnils (t u el : TypeId) (x y : Operand) (a : Option Addr) (n c : Nat) (b : Bool) [e : EvO env x (.slice a n c)] [f : EvO env y (.slice none 0 0)] [ut : TUnd P t (.slice el)] [h : NoneP a b] : PExec P (.binOp .eql t x y u) ty env (.bool b) := ⟨fun _ _ _ _ w => by
  simp [execOp, e.h, f.h, binOp, eqGuard_at_slice, eql_sl_nil ut.h, h.h]⟩
class OwnAt (L : List HProp) (a : Option Addr) (len c : Nat) (α : outParam Type) (i : outParam (Rep α)) (s : outParam (Sl α)) (R : outParam (List HProp)) : Prop where
  out : L.Perm (@ownS α i s :: R)
  ea : s.a = a
  el : s.xs.length = len
  ec : s.c = c
instance (priority := high) ownAt_here {α : Type} [i : Rep α] (s : Sl α) (L : List HProp) (a : Option Addr) (len c : Nat) [x : Eq1 s.a a] [y : Eq1 s.xs.length len] [z : Eq1 s.c c] : OwnAt (ownS s :: L) a len c α i s L :=
  ⟨.refl _, x.h, y.h, z.h⟩
theorem own_take {α : Type} [Rep α] {B : World} {s : Sl α} {w : World} {hi : Nat} (h2 : hi ≤ s.xs.length) (hs : sat B (ownS s :: L) w) : sat B (ownS (⟨s.a, s.c, s.xs.take hi⟩ : Sl α) :: L) w := by
  refine hs.head ?_
  rintro h ⟨ok, ⟨room, hr, hc⟩, ho⟩
  refine ⟨⟨ok.spot, by have := ok.cap; simp; omega, ok.null, by have := ok.len; simp; omega⟩, ⟨flat (s.xs.drop hi) ++ room, ?_, ?_⟩, fun x hx => ho x (List.mem_of_mem_take hx)⟩
  · have e1 : (s.xs.take hi).length = hi := by simp; omega
    rw [List.length_append, flat_length, hr, List.length_drop, ← Nat.add_mul, e1]
    have := ok.cap
    congr 1
    show s.xs.length - hi + (s.c - s.xs.length) = s.c - hi
    omega
  · intro i v hv
    refine hc i v ?_
    rw [← List.append_assoc, ← flat_append, List.take_append_drop] at hv
    exact hv

instance exec_sliceOwn (t e : TypeId) (k : Nat) (x : Operand) (hi : Option Operand) (a : Option Addr) (len c jh : Nat) (h : Int) (α : Type) (i : Rep α) (s : Sl α) (R : List HProp) [ex : EvO env x (.slice a len c)] [u : TUnd P t (.slice e)] [ts : TSize P e k] [kk : @KIs α i k]
    [r : OwnAt L a len c α i s R] [bh : Bnd env hi len h] [nh : ToNat h jh] :
    Exec P (.slice t x none hi none) ty env L (fun K => Side (0 ≤ h ∧ h ≤ len)
      (K (.slice a (s.xs.take jh).length c) (@ownS α i ⟨a, c, s.xs.take jh⟩ :: R))) :=
  ⟨fun B dst pos after guard K hk w hs => by
    obtain ⟨h0, h2⟩ := hk.side
    have hs' := hs.perm r.out
    have ok : s.ok := by obtain ⟨g, a, _⟩ := hs'.headOf; exact a.1
    have hc := ok.cap
    rw [r.el, r.ec] at hc
    have eh := nh.h
    have hlen : (s.xs.take jh).length = jh := by simp [r.el]; omega
    have hcut := own_take (hi := jh) (by rw [r.el]; omega) hs'
    rw [r.ea, r.ec] at hcut
    have ha : (if c = 0 then a else a.map (·.add (0 * i.k))) = a := by
      split
      · rfl
      · cases a with
        | none => rfl
        | some ad =>
          have hsp := ok.spot ad r.ea
          obtain ⟨bk, of, sp⟩ := ad
          simp only at hsp
          subst hsp
          simp [Addr.add_lit]
    refine .inl ⟨.slice a jh c, w, _, ?_, hcut, by have := hk.rest; rwa [hlen] at this⟩
    have hb := sliceBounds_run (P := P) (bnd_none 0) bh (Int.le_refl _) h0 h2 hc w
    rw [eh] at hb
    have hkk : i.k = k := kk.h
    have hx : ev env x = .slice a len c := ex.h
    have ha' : (if c = 0 then a else a.map (·.add (0 * k))) = a := by rw [← hkk]; exact ha
    rw [Option.map_none] at hb
    have h00 : ((0 : Nat) : Int).toNat = 0 := rfl
    simp only [execOp, Instr.sliceAt, Instr.slice, Sem.run_bind, u.run, Result.andThen_ok, hx, hb, ts.h, Sem.run_pure, Option.map_none, h00, Nat.sub_zero]
    rw [ha']⟩

/-- What an element refers to. -/
theorem ro_pull {α : Type} [Rep α] {B : World} {s : Sl α} {w : World} {j : Nat} (hj : j < s.xs.length) (hs : sat B (roS s :: L) w) : sat B (Rep.own s.xs[j] :: roS s :: L) w :=
  hs.also fun _ a => a.2.2 _ (List.getElem_mem hj)
theorem ro_pull_sl {α : Type} [Rep α] {B : World} {s : Sl (Sl α)} {w : World} {j : Nat} (hj : j < s.xs.length) (hs : sat B (roS s :: L) w) : sat B (roS s.xs[j] :: roS s :: L) w := ro_pull hj hs
end

/-- A state of memory may be said so; what is left over is dropped. -/
class To (L M : List HProp) : Prop where out : ∀ B X w, sat B (X ++ L) w → sat B (X ++ M) w
instance (priority := high) to_refl (L : List HProp) : To L L := ⟨fun _ _ _ h => h⟩
instance to_cons (A : HProp) (L R M : List HProp) [p : Picks [A] L R] [t : To R M] : To L (A :: M) := ⟨fun B X w h => by
  have h1 := p.out B X w (h.perm List.perm_append_comm)
  have h2 : sat B ((X ++ [A]) ++ R) w := h1.perm (by
    have : ([A] ++ R ++ X).Perm (X ++ ([A] ++ R)) := List.perm_append_comm
    simpa using this)
  have h3 := t.out B (X ++ [A]) w h2
  simpa using h3⟩
instance (priority := low) to_tail (L F : List HProp) [t : Tl L F] : To L F := ⟨t.out⟩
theorem goes {B : World} {L M : List HProp} [t : To L M] : ∀ w, sat B L w → sat B M w := fun w h => t.out B [] w h
end Go.SL
