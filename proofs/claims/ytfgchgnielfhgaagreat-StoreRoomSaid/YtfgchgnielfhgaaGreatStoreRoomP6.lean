/- Parts of the proof of StoreRoom: a logic of memory, contracts of functions, plain laws (PuG, Sto9, Sto10, Sto11, Pr, PuA, PuB, PuH, PuC, PuD, PuE, PuI, PuJ, PuK, Lw, Aw, Aw2, Mi, Mi2, Mi3, Lk, Qt, Rm, Aw3). Conditions: those that each theorem names. -/
import Derived.Test.YtfgchgnielfhgaaGreatStoreRoomP5
set_option linter.unusedSimpArgs false
set_option linter.unusedVariables false
namespace Go.SL
open Go.Proofs
set_option synthInstance.maxSize 4000
set_option synthInstance.maxHeartbeats 400000
set_option maxRecDepth 4000
set_option maxHeartbeats 2000000

theorem nodup_range : ∀ (n : Nat) (l : List Int), l.Nodup → (∀ k ∈ l, 0 ≤ k ∧ k < n) → l.length ≤ n
  | 0, l, _, h => by
    cases l with
    | nil => simp
    | cons a l => have := h a (List.mem_cons_self ..); omega
  | n + 1, l, hn, h => by
    have h1 := nodup_range n (l.erase (n : Int)) (hn.erase _) (fun k hk => by
      have h2 := (hn.mem_erase_iff).1 hk
      have h3 := h k h2.2
      have h4 := h2.1
      omega)
    by_cases hm : (n : Int) ∈ l
    · rw [List.length_erase_of_mem hm] at h1; omega
    · rw [List.erase_of_not_mem hm] at h1; omega
theorem rises_range : ∀ (ps : List PV) (n : Int), rises ps = true → (∀ p, ps.head? = some p → 0 ≤ p.1) → (∀ p, ps.getLast? = some p → p.1 < n) → ∀ p ∈ ps, 0 ≤ p.1 ∧ p.1 < n
  | [], _, _, _, _, _, h => by cases h
  | [a], n, _, h0, h1, p, hp => by
    rw [List.mem_singleton.1 hp]
    exact ⟨h0 a rfl, h1 a rfl⟩
  | a :: b :: l, n, hr, h0, h1, p, hp => by
    rw [rises, Bool.and_eq_true, decide_eq_true_eq] at hr
    have ih := rises_range (b :: l) n hr.2 (fun q hq => by cases hq; have := h0 a rfl; omega) (fun q hq => h1 q (by rw [List.getLast?_cons_cons]; exact hq))
    rcases List.mem_cons.1 hp with rfl | hp
    · have := ih b (List.mem_cons_self ..)
      have h00 := h0 _ rfl
      omega
    · exact ih p hp

/-- What a map of versions is. -/
structure EOk (E : Em) (c : Nat) : Prop where
  b : 1 ≤ E.blocks ∧ E.blocks ≤ 1048576
  nod : (E.vs.map (·.1)).Nodup
  key : ∀ e ∈ E.vs, (0 ≤ e.1 ∧ e.1 < E.blocks) ∧ (0 < e.2.length ∧ e.2.length ≤ c) ∧ ∀ p ∈ e.2, p.2.length = 40
theorem EOk.mono {E : Em} {c d : Nat} (h : EOk E c) (hd : c ≤ d) : EOk E d := ⟨h.b, h.nod, fun e he => ⟨(h.key e he).1, ⟨(h.key e he).2.1.1, by have := (h.key e he).2.1.2; omega⟩, (h.key e he).2.2⟩⟩
theorem vget_memE {α : Type} {vs : List (Int × α)} {k : Int} {x : α} (h : vget vs k = some x) : (k, x) ∈ vs := by
  unfold vget at h
  obtain ⟨e, he, rfl⟩ := Option.map_eq_some_iff.1 h
  have h1 := List.find?_some he
  have h2 : e.1 = k := by simpa using h1
  exact h2 ▸ List.mem_of_find?_eq_some he
theorem vget_vset_eq {α : Type} (vs : List (Int × α)) (k j : Int) (x : α) : vget (vset vs k x) j = if j = k then some x else vget vs j := by
  split
  · rename_i h; rw [h, vget_vset]
  · rename_i h; exact vget_vset_ne vs x h
theorem puts_ok : ∀ (ps : List PV) (t : Int) (bl : Nat) (la : Int) (vs : List (Int × List PV)) (c : Nat), EOk ⟨bl, vs, la⟩ c → (∀ p ∈ ps, (0 ≤ p.1 ∧ p.1 < bl) ∧ p.2.length = 40) → EOk ⟨bl, ps.foldl (fun vs p => vput vs p.1 (t, p.2)) vs, la⟩ (c + ps.length)
  | [], _, _, _, _, _, h, _ => h
  | p :: ps, t, bl, la, vs, c, h, hp => by
    have h1 := hp p (List.mem_cons_self ..)
    have ih := puts_ok ps t bl la (vput vs p.1 (t, p.2)) (c + 1) ⟨h.b, vset_nodup _ _ h.nod, fun e he => ?_⟩ (fun q hq => hp q (List.mem_cons_of_mem _ hq))
    · rw [List.foldl_cons, List.length_cons, Nat.add_comm ps.length, ← Nat.add_assoc]; exact ih
    · rcases vset_mem he with rfl | he
      · refine ⟨h1.1, ⟨by simp, ?_⟩, fun q hq => ?_⟩
        · dsimp only
          rw [List.length_append, List.length_singleton]
          cases hg : vget vs p.1 with
          | none => simp
          | some x => have := (h.key _ (vget_memE hg)).2.1.2; dsimp only [Option.getD_some] at this ⊢; omega
        · rcases List.mem_append.1 hq with hq | hq
          · cases hg : vget vs p.1 with
            | none => rw [hg] at hq; cases hq
            | some x => rw [hg] at hq; exact (h.key _ (vget_memE hg)).2.2 q hq
          · rw [List.mem_singleton.1 hq]; exact h1.2
      · have := h.key e he
        exact ⟨this.1, ⟨this.2.1.1, by have := this.2.1.2; omega⟩, this.2.2⟩
theorem apply_no {E : Em} {t : Int} {ps : List PV} (h : (E.apply t ps).1 ≠ 0) : (E.apply t ps).2 = E := by
  unfold Em.apply at h ⊢
  repeat' split
  all_goals first | rfl | skip
  rename_i h1 h2 h3 h4 h5
  rw [if_neg h1, if_neg h2, if_neg h3, if_neg h4, if_neg h5] at h
  exact absurd rfl h
/-- What is taken in was as it should be. -/
theorem apply_yes {E : Em} {t : Int} {ps : List PV} (h : (E.apply t ps).1 = 0) : (E.apply t ps).2 = E.put t ps ∧ (E.last < t ∧ t ≤ 1099511627776) ∧ rises ps = true ∧ 0 < ps.length ∧ ∀ p ∈ ps, (0 ≤ p.1 ∧ p.1 < E.blocks) ∧ p.2.length = 40 := by
  unfold Em.apply at h ⊢
  split at h
  · exact absurd h (show (1 : Int) ≠ 0 by decide)
  split at h
  · exact absurd h (show (11 : Int) ≠ 0 by decide)
  split at h
  · exact absurd h (show (1 : Int) ≠ 0 by decide)
  split at h
  · exact absurd h (show (2 : Int) ≠ 0 by decide)
  split at h
  · exact absurd h (show (3 : Int) ≠ 0 by decide)
  rename_i h1 h2 h3 h4 h5
  have hr : rises ps = true ∧ 0 < ps.length := by simpa [List.length_pos_iff] using h3
  have hl : ∀ p, ps.head? = some p → 0 ≤ p.1 := fun p hp => by
    rw [hp] at h4; dsimp only [Option.getD_some] at h4; omega
  have hg : ∀ p, ps.getLast? = some p → p.1 < (E.blocks : Int) := fun p hp => by
    rw [hp] at h4; dsimp only [Option.getD_some] at h4; omega
  refine ⟨?_, by omega, hr.1, hr.2, fun p hp => ⟨rises_range ps E.blocks hr.1 hl hg p hp, ?_⟩⟩
  · rw [if_neg h1, if_neg h2, if_neg h3, if_neg h4, if_neg h5]
  · apply Classical.byContradiction
    intro hc
    exact h5 (List.any_eq_true.2 ⟨p, hp, decide_eq_true hc⟩)
theorem apply_ok {E : Em} {t : Int} {ps : List PV} {c : Nat} (h : EOk E c) : EOk (E.apply t ps).2 (c + ps.length) := by
  by_cases h0 : (E.apply t ps).1 = 0
  · obtain ⟨h1, h2, h3, h4, h5⟩ := apply_yes h0
    rw [h1]
    have := puts_ok ps t E.blocks E.last E.vs c h h5
    exact ⟨this.b, this.nod, this.key⟩
  · rw [apply_no h0]; exact h.mono (by omega)
theorem apply_geo (E : Em) (t : Int) (ps : List PV) : (E.apply t ps).2.blocks = E.blocks := by
  by_cases h0 : (E.apply t ps).1 = 0
  · rw [(apply_yes h0).1]; rfl
  · rw [apply_no h0]
theorem EOk.keys {E : Em} {c : Nat} (h : EOk E c) : ∀ k : Int, k ∈ E.vs.map (·.1) → 0 ≤ k ∧ k < E.blocks := by
  intro k hk
  obtain ⟨e, he, rfl⟩ := List.mem_map.1 hk
  exact (h.key e he).1
theorem EOk.len {E : Em} {c : Nat} (h : EOk E c) : E.vs.length ≤ E.blocks := by
  have := nodup_range E.blocks (E.vs.map (·.1)) h.nod h.keys
  rwa [List.length_map] at this
theorem EOk.dumpLen {E : Em} {c : Nat} (h : EOk E c) : E.dump.length ≤ E.blocks := by
  unfold Em.dump
  split
  · simp
  · rw [List.length_map, sortI_len, List.length_map]; exact h.len
theorem EOk.dumpOk {E : Em} {c : Nat} (h : EOk E c) : ∀ x ∈ E.dump, (0 ≤ x.1 ∧ x.1 < E.blocks) ∧ x.2.length = 40 := by
  intro x hx
  unfold Em.dump at hx
  rw [if_neg (by have := h.b; omega)] at hx
  obtain ⟨k, hk, rfl⟩ := List.mem_map.1 hx
  have hk2 := sortI_mem.1 hk
  refine ⟨h.keys k hk2, ?_⟩
  obtain ⟨l, hl, hm⟩ := vget_mem hk2
  have hkey := h.key _ hm
  dsimp only
  rw [hl, Option.getD_some]
  have hne : l ≠ [] := fun e => by rw [e] at hkey; simp at hkey
  rw [List.getLast?_eq_some_getLast hne, Option.getD_some]
  exact hkey.2.2 _ (List.getLast_mem hne)
theorem EOk.hk {E : Em} {c : Nat} (h : EOk E c) (hc : c ≤ 2000000) : ∀ e ∈ E.vs, I64 e.1 ∧ 0 < e.2.length ∧ e.2.length ≤ 2000000 := fun e he => by
  have h1 := h.key e he
  have h2 := h.b
  exact ⟨⟨by omega, by omega⟩, by omega, by omega⟩
theorem EOk.hd {E : Em} {c : Nat} (h : EOk E c) : ∀ x ∈ E.dump, (0 ≤ x.1 ∧ x.1 ≤ 1048576) ∧ x.2.length = 40 := fun x hx => by
  have h1 := h.dumpOk x hx
  have h2 := h.b
  exact ⟨by omega, h1.2⟩
theorem new_ok {n : Nat} (hn : 1 ≤ n ∧ n ≤ 1048576) (last : Int) : EOk (Mg.new n last).E 0 := ⟨hn, by simp [Mg.new], by simp [Mg.new]⟩
theorem load_ok {n : Nat} (hn : 1 ≤ n ∧ n ≤ 1048576) (last : Int) (ps : List PV) : EOk ((Mg.new n last).load ps).2.E ps.length ∧ ((Mg.new n last).load ps).2.E.blocks = n ∧ ((Mg.new n last).load ps).2.last = last := by
  unfold Mg.load
  split
  · exact ⟨(new_ok hn last).mono (by omega), rfl, rfl⟩
  · split
    · exact ⟨(new_ok hn last).mono (by omega), rfl, rfl⟩
    · refine ⟨?_, ?_, rfl⟩
      · have := apply_ok (t := (Mg.new n last).base) (ps := ps) (new_ok hn last)
        rw [Nat.zero_add] at this; exact this
      · exact apply_geo _ _ _
end Go.SL
namespace Go.SL
open Go.Proofs
set_option synthInstance.maxSize 4000
set_option synthInstance.maxHeartbeats 400000
set_option maxRecDepth 4000
set_option maxHeartbeats 2000000

theorem contains_stray (t : Sl (Sl UInt8)) (hl : t.xs.length ≤ 1000000) (h64 : ∀ j (h : j < t.xs.length), t.xs[j].xs.length = 64) :
    Spec Tryz.prog 42 #[t.val, .func (.func 43) #[] #[]] [roS t] (fun v L => v = .bool ((raws t.xs).any strayOf) ∧ L = []) :=
  contains_func t 43 strayOf hl (fun j hj => st_strange t.xs[j] (by rw [h64 j hj]; decide))

theorem logOf_mem {D : Dv} (ok : D.ok) : ∀ (n z : Nat) (g : Bool), (∀ b ∈ (logOf D n z g).1, b.length = 64) ∧ (∀ b ∈ (logOf D n z g).2, b.length = 64)
  | 0, _, _ => by simp [logOf]
  | n + 1, z, g => by
    have ih := logOf_mem ok n (z + 1) (g || decide ((zoneOf D z).length < D.S))
    rw [logOf]
    refine ⟨fun b hb => ?_, fun b hb => ?_⟩
    · rcases List.mem_append.1 hb with h | h
      · split at h
        · cases h
        · exact zoneOf_mem ok h
      · exact ih.1 b h
    · rcases List.mem_append.1 hb with h | h
      · split at h
        · exact zoneOf_mem ok h
        · cases h
      · exact ih.2 b h
theorem logOf_len {D : Dv} (ok : D.ok) : ∀ (n z : Nat) (g : Bool), (logOf D n z g).1.length + (logOf D n z g).2.length ≤ 192 * n
  | 0, _, _ => by simp [logOf]
  | n + 1, z, g => by
    have ih := logOf_len ok n (z + 1) (g || decide ((zoneOf D z).length < D.S))
    have hz := zoneOf_len ok z
    rw [logOf, List.length_append, List.length_append]
    cases g <;> simp at ih ⊢ <;> omega
def MPost (d Z S : Nat) (R : Mo) : Value → List HProp → Prop := fun v L =>
  (R.e ≠ 0 ∧ v = .tuple #[.pointer none, .int .i64 R.e] ∧ ∃ n, L = [devO d { R.D with reads := n }]) ∨
  (R.e = 0 ∧ ∃ p, v = .tuple #[.pointer (some ⟨p, 0, none⟩), .int .i64 0] ∧ L = [stO p d Z S R.T, devO d R.D])

theorem cap_ok {D : Dv} (ok : D.ok) : 1 ≤ capOf D.Z D.S ∧ capOf D.Z D.S ≤ 4200 := by
  have z0 := ok.z0
  have z1 := ok.z1
  have s0 := ok.s0
  have s1 := ok.s1
  have hm : midOf D.Z ≤ 24 := by unfold midOf; omega
  have hm2 : 3 ≤ midOf D.Z := by unfold midOf; omega
  have hp : midOf D.Z * D.S ≤ 24 * 192 := Nat.mul_le_mul hm (by omega)
  have hp2 : 3 * 96 ≤ midOf D.Z * D.S := Nat.mul_le_mul hm2 (by omega)
  unfold capOf
  omega
theorem chk_sp {D : Dv} {x : SP} {t : Sl UInt8} (ht : t.xs = x.text) (text new : Sl UInt8) (hnew : new.xs = text.xs) :
    ∃ t', chkOf D (x.sr D.Z D.S t) text new = ⟨(chkP D x text.xs).e, (chkP D x text.xs).x.sr D.Z D.S t', (chkP D x text.xs).D, decide ((chkP D x text.xs).e ≠ 0)⟩ ∧ t'.xs = (chkP D x text.xs).x.text := by
  obtain ⟨h1, t', h2, h3⟩ := save_sp (D := D) ht text new hnew
  have hW : chkW (saveOf (x.sr D.Z D.S t) D text new) (D.Z - 2 * midOf D.Z) (2 * midOf D.Z) = chW (savP D x text.xs) (D.Z - 2 * midOf D.Z) (2 * midOf D.Z) := by rw [h1]; rfl
  refine ⟨t', ?_, ?_⟩
  · rw [chk_eq, hW, h2]
    unfold chkP
    split
    · rfl
    · rfl
  · unfold chkP
    split <;> exact h3
theorem st_mount (d : Nat) (D : Dv) (ok : D.ok) (hc : ∀ s, openAt D 0 (midOf D.Z) (2 * midOf D.Z) 2 = some s → s.2.2 < 1099511627776) :
    Spec Tryz.prog 12 #[.pointer (some ⟨d, 0, none⟩)] [devO d D] (MPost d D.Z D.S (mountOf D)) := by
  have z0 := ok.z0
  have z1 := ok.z1
  have s0 := ok.s0
  have s1 := ok.s1
  have hmid : 2 * midOf D.Z < D.Z ∧ 3 ≤ midOf D.Z := by unfold midOf; omega
  have hlay : 0 < midOf D.Z ∧ midOf D.Z < 2 * midOf D.Z ∧ 2 * midOf D.Z ≤ D.Z := by omega
  refine enter1 Tryz.func12 rfl (by decide) (by decide) ?_
  intro B F
  dsimp only [lcA, lnA]
  repeat' first | refine adv ?_ | refine Side.go ?_ | refine Giv.mk fun _ => ?_ | refine All.mk fun q => ?_ | refine Fork.mk ?_ ?_ | (refine Two.mk (fun h => ?_) (fun h => ?_) <;> try first | contradiction | (exfalso; omega))
  refine CallG.use (dev_geometry d D ok) ?_
  rintro r M ⟨rfl, rfl⟩
  dsimp only [lcA, lnA]
  repeat' first | refine adv ?_ | refine Side.go ?_ | refine Giv.mk fun _ => ?_ | refine All.mk fun q => ?_ | refine Fork.mk ?_ ?_ | (refine Two.mk (fun h => ?_) (fun h => ?_) <;> try first | contradiction | (exfalso; omega))
  refine CallG.use (space_split D.Z D.S ⟨⟨by omega, by omega⟩, by omega, by omega⟩) ?_
  rintro r M ⟨rfl, rfl⟩
  dsimp only [lcA, lnA]
  repeat' first | refine adv ?_ | refine Side.go ?_ | refine Giv.mk fun _ => ?_ | refine All.mk fun q => ?_ | refine Fork.mk ?_ ?_ | (refine Two.mk (fun h => ?_) (fun h => ?_) <;> try first | contradiction | (exfalso; omega))
  obtain ⟨p, hp⟩ : ∃ b, b = q := ⟨q, rfl⟩
  subst hp
  refine CallG.use (slot_open d D ok 0 (midOf D.Z) (2 * midOf D.Z) hlay) ?_
  rintro v M (⟨hn, rfl, n, rfl⟩ | ⟨x, hx, ⟨hf, rfl, rfl⟩ | ⟨hf, s, t, ht, rfl, rfl⟩⟩)
  · dsimp only [lcA, lnA]
    repeat' first | refine adv ?_ | refine Side.go ?_ | refine Giv.mk fun _ => ?_ | refine All.mk fun q => ?_ | refine Fork.mk ?_ ?_ | (refine Two.mk (fun h => ?_) (fun h => ?_) <;> try first | contradiction | (exfalso; omega))
    have e : mountOf D = ⟨13, D, noSt⟩ := by rw [mountOf, hn]
    rw [e]
    refine endQ.twoW Tryz.results12 (.inl ⟨show (13 : Int) ≠ 0 by decide, rfl, n, rfl⟩) (fun w h => goes w h)
  · dsimp only [lcA, lnA]
    have e : mountOf D = ⟨({ D with reads := readsAt D 0 (midOf D.Z) (2 * midOf D.Z) 2 } : Dv).flush.1, ({ D with reads := readsAt D 0 (midOf D.Z) (2 * midOf D.Z) 2 } : Dv).flush.2, noSt⟩ := by
      rw [mountOf, hx]; dsimp only; rw [if_pos hf]
    rw [e]
    generalize ({ D with reads := readsAt D 0 (midOf D.Z) (2 * midOf D.Z) 2 } : Dv).flush = G at hf ⊢
    repeat' first | refine adv ?_ | refine Side.go ?_ | refine Giv.mk fun _ => ?_ | refine All.mk fun q => ?_ | refine Fork.mk ?_ ?_ | (refine Two.mk (fun h => ?_) (fun h => ?_) <;> try first | contradiction | (exfalso; omega))
    exact endQ.twoW Tryz.results12 (.inl ⟨hf, rfl, G.2.reads, rfl⟩) (fun w h => goes w h)
  · dsimp only [lcA, lnA]
    have hx2 := open_len ok hlay 2 (Nat.le_refl _) hx
    have hxc := hc x hx
    obtain ⟨inn, text, cn⟩ := x
    dsimp only at ht hx2 hxc ⊢
    have e : mountOf D = mountIn ({ D with reads := readsAt D 0 (midOf D.Z) (2 * midOf D.Z) 2 } : Dv).flush.2 ⟨inn, t.xs, cn, false⟩ := by
      rw [mountOf, hx]; dsimp only; rw [if_neg (by omega), ht]
    have ok1 := Dv.flush_ok (ok.reads (readsAt D 0 (midOf D.Z) (2 * midOf D.Z) 2))
    have hZS := Dv.flush_geo { D with reads := readsAt D 0 (midOf D.Z) (2 * midOf D.Z) 2 }
    rw [e]
    clear e hx hc
    generalize ({ D with reads := readsAt D 0 (midOf D.Z) (2 * midOf D.Z) 2 } : Dv).flush = G at hf ok1 hZS ⊢
    dsimp only at hZS
    have hf0 : G.1 = 0 := by omega
    rw [← hZS.1, ← hZS.2]
    rw [← hZS.1] at z0 z1 hmid hlay
    rw [← hZS.2] at s0 s1
    generalize G.2 = D1 at ok1 z0 z1 s0 s1 hmid hlay ⊢
    dsimp only [slotC]
    repeat' first | refine adv ?_ | refine Side.go ?_ | refine Giv.mk fun _ => ?_ | refine All.mk fun q => ?_ | refine Fork.mk ?_ ?_ | (refine Two.mk (fun h => ?_) (fun h => ?_) <;> try first | contradiction | (exfalso; omega))
    refine CallG.use (slot_load s d ⟨0, midOf D1.Z, 2 * midOf D1.Z, D1.S, inn, t, cn, false⟩) ?_
    rintro r M ⟨a0, c0, rfl, rfl⟩
    dsimp only [lcA, lnA]
    dsimp only [slotC]
    repeat' first | refine adv ?_ | refine Side.go ?_ | refine Giv.mk fun _ => ?_ | refine All.mk fun q => ?_ | refine Fork.mk ?_ ?_ | (refine Two.mk (fun h => ?_) (fun h => ?_) <;> try first | contradiction | (exfalso; omega))
    refine CallG.freeze (⟨a0, c0, t.xs⟩ : Sl UInt8) ?_
    refine CallG.use (st_parse (⟨a0, c0, t.xs⟩ : Sl UInt8)) ?_
    rintro v M (⟨hp0, rfl, rfl⟩ | ⟨S, b, hp0, rfl, rfl⟩)
    · dsimp only at hp0
      have e : mountIn D1 ⟨inn, t.xs, cn, false⟩ = ⟨13, D1, noSt⟩ := by rw [mountIn]; dsimp only; rw [hp0]
      rw [e]
      dsimp only [lcA, lnA]
      repeat' first | refine adv ?_ | refine Side.go ?_ | refine Giv.mk fun _ => ?_ | refine All.mk fun q => ?_ | refine Fork.mk ?_ ?_ | (refine Two.mk (fun h => ?_) (fun h => ?_) <;> try first | contradiction | (exfalso; omega))
      exact endQ.twoW Tryz.results12 (.inl ⟨show (13 : Int) ≠ 0 by decide, rfl, D1.reads, rfl⟩) (fun w h => goes w h)
    dsimp only at hp0
    have hbd := parse_bd hp0
    have e : mountIn D1 ⟨inn, t.xs, cn, false⟩ = mountLog { D1 with reads := D1.reads + ((logOf D1 (D1.Z - 2 * midOf D1.Z) (2 * midOf D1.Z) false).1.length : Int) + ((logOf D1 (D1.Z - 2 * midOf D1.Z) (2 * midOf D1.Z) false).2.length : Int) } ⟨inn, t.xs, cn, false⟩ (logOf D1 (D1.Z - 2 * midOf D1.Z) (2 * midOf D1.Z) false).1 (logOf D1 (D1.Z - 2 * midOf D1.Z) (2 * midOf D1.Z) false).2 S := by
      rw [mountIn]; dsimp only; rw [hp0]
    rw [e]
    clear e
    dsimp only [lcA, lnA]
    repeat' first | refine adv ?_ | refine Side.go ?_ | refine Giv.mk fun _ => ?_ | refine All.mk fun q => ?_ | refine Fork.mk ?_ ?_ | (refine Two.mk (fun h => ?_) (fun h => ?_) <;> try first | contradiction | (exfalso; omega))
    have e2m : ((2 * midOf D1.Z : Nat) : Int) = 2 * (midOf D1.Z : Int) := by omega
    have e0n : ((0 : Nat) : Int) = 0 := rfl
    refine CallG_conv (L' := stC p d D1.Z (.pointer none) (.pointer (some ⟨s, 0, none⟩)) 0 0 false :: devO d D1 :: staO b S :: slotC s d ⟨0, midOf D1.Z, 2 * midOf D1.Z, D1.S, inn, t, cn, false⟩ :: roS t :: F) (fun B w h => by dsimp only [stC, slotC]; simp only [e2m, e0n] at h ⊢; exact goes w h) ?_
    refine CallG.use (st_log p d D1 (.pointer none) (.pointer (some ⟨s, 0, none⟩)) 0 0 false ok1) ?_
    rintro r M ⟨l, u, hl, hu, rfl, rfl⟩
    dsimp only [lcA, lnA]
    have hlm := logOf_mem ok1 (D1.Z - 2 * midOf D1.Z) (2 * midOf D1.Z) false
    have hll := logOf_len ok1 (D1.Z - 2 * midOf D1.Z) (2 * midOf D1.Z) false
    have hlx : (logOf D1 (D1.Z - 2 * midOf D1.Z) (2 * midOf D1.Z) false).1.length = l.xs.length := by rw [← hl, raws_len]
    have hux : (logOf D1 (D1.Z - 2 * midOf D1.Z) (2 * midOf D1.Z) false).2.length = u.xs.length := by rw [← hu, raws_len]
    rw [hlx, hux]
    rw [hlx, hux] at hll
    rw [← hl, ← hu] at hlm ⊢
    clear hl hu hlx hux
    have ok2 := ok1.reads (D1.reads + (l.xs.length : Int) + (u.xs.length : Int))
    obtain ⟨D2, hD2⟩ : ∃ D2, D2 = ({ D1 with reads := D1.reads + (l.xs.length : Int) + (u.xs.length : Int) } : Dv) := ⟨_, rfl⟩
    have hZ2 : D1.Z = D2.Z := by rw [hD2]
    have hS2 : D1.S = D2.S := by rw [hD2]
    rw [← hD2] at ok2 ⊢
    rw [hZ2, hS2]
    rw [hZ2] at z0 z1 hmid hlay hll e2m
    rw [hS2] at s0 s1
    clear hD2 hZ2 hS2 ok1
    have h64l : ∀ j (h : j < l.xs.length), l.xs[j].xs.length = 64 := fun j hj => hlm.1 _ (List.mem_map.2 ⟨_, List.getElem_mem hj, rfl⟩)
    have h64u : ∀ j (h : j < u.xs.length), u.xs[j].xs.length = 64 := fun j hj => hlm.2 _ (List.mem_map.2 ⟨_, List.getElem_mem hj, rfl⟩)
    repeat' first | refine adv ?_ | refine Side.go ?_ | refine Giv.mk fun _ => ?_ | refine All.mk fun q => ?_ | refine Fork.mk ?_ ?_ | (refine Two.mk (fun h => ?_) (fun h => ?_) <;> try first | contradiction | (exfalso; omega))
    refine CallG.freeze l ?_
    refine CallG.use (contains_stray l (by omega) h64l) ?_
    rintro r M ⟨rfl, rfl⟩
    dsimp only [lcA, lnA]
    cases hs1 : (raws l.xs).any strayOf with
    | true =>
      have e : mountLog D2 ⟨inn, t.xs, cn, false⟩ (raws l.xs) (raws u.xs) S = ⟨13, D2, noSt⟩ := by rw [mountLog, if_pos (.inl hs1)]
      rw [e]
      repeat' first | refine adv ?_ | refine Side.go ?_ | refine Giv.mk fun _ => ?_ | refine All.mk fun q => ?_ | refine Fork.mk ?_ ?_ | (refine Two.mk (fun h => ?_) (fun h => ?_) <;> try first | contradiction | (exfalso; omega))
      exact endQ.twoW Tryz.results12 (.inl ⟨show (13 : Int) ≠ 0 by decide, rfl, D2.reads, rfl⟩) (fun w h => goes w h)
    | false =>
    repeat' first | refine adv ?_ | refine Side.go ?_ | refine Giv.mk fun _ => ?_ | refine All.mk fun q => ?_ | refine Fork.mk ?_ ?_ | (refine Two.mk (fun h => ?_) (fun h => ?_) <;> try first | contradiction | (exfalso; omega))
    refine CallG.freeze u ?_
    refine CallG.use (contains_stray u (by omega) h64u) ?_
    rintro r M ⟨rfl, rfl⟩
    dsimp only [lcA, lnA]
    cases hs2 : (raws u.xs).any strayOf with
    | true =>
      have e : mountLog D2 ⟨inn, t.xs, cn, false⟩ (raws l.xs) (raws u.xs) S = ⟨13, D2, noSt⟩ := by rw [mountLog, if_pos (.inr hs2)]
      rw [e]
      repeat' first | refine adv ?_ | refine Side.go ?_ | refine Giv.mk fun _ => ?_ | refine All.mk fun q => ?_ | refine Fork.mk ?_ ?_ | (refine Two.mk (fun h => ?_) (fun h => ?_) <;> try first | contradiction | (exfalso; omega))
      exact endQ.twoW Tryz.results12 (.inl ⟨show (13 : Int) ≠ 0 by decide, rfl, D2.reads, rfl⟩) (fun w h => goes w h)
    | false =>
    repeat' first | refine adv ?_ | refine Side.go ?_ | refine Giv.mk fun _ => ?_ | refine All.mk fun q => ?_ | refine Fork.mk ?_ ?_ | (refine Two.mk (fun h => ?_) (fun h => ?_) <;> try first | contradiction | (exfalso; omega))
    refine CallG.use (st_replay p d s b D2.Z (.pointer none) ⟨0, midOf D2.Z, 2 * midOf D2.Z, D2.S, inn, t, cn, false⟩ 0 0 false S l (by omega) (Nat.zero_le _) (Nat.le_refl _)) ?_
    rintro v M ⟨rfl, rfl⟩
    have hrb := replay_bd (raws l.xs) cn (l.xs.length + 1) 0 0 S _ hbd
    rw [raws_len] at hrb
    have e : mountLog D2 ⟨inn, t.xs, cn, false⟩ (raws l.xs) (raws u.xs) S = if ((Mg.new (capOf D2.Z D2.S) (replayGo (raws l.xs) cn (l.xs.length + 1) 0 0 S).S.last).load (putsOf (replayGo (raws l.xs) cn (l.xs.length + 1) 0 0 S).S.vs)).1 ≠ 0 then ⟨13, D2, noSt⟩
        else mountEnd D2 ⟨inn, t.xs, cn, false⟩ ((Mg.new (capOf D2.Z D2.S) (replayGo (raws l.xs) cn (l.xs.length + 1) 0 0 S).S.last).load (putsOf (replayGo (raws l.xs) cn (l.xs.length + 1) 0 0 S).S.vs)).2
          (replayGo (raws l.xs) cn (l.xs.length + 1) 0 0 S).pos (replayGo (raws l.xs) cn (l.xs.length + 1) 0 0 S).num ((replayGo (raws l.xs) cn (l.xs.length + 1) 0 0 S).torn || decide (0 < u.xs.length)) := by
      rw [mountLog, if_neg (by rw [hs1, hs2]; simp), raws_len, raws_len]
    rw [e]
    clear e
    dsimp only [lcA, lnA]
    rw [show l.xs.length + 1 - 0 = l.xs.length + 1 from rfl]
    generalize replayGo (raws l.xs) cn (l.xs.length + 1) 0 0 S = r at hrb ⊢
    obtain ⟨rpos, rnum, rS, rt⟩ := r
    dsimp only at hrb ⊢
    obtain ⟨⟨hrl, hrv, hrn, hrk⟩, hrp, hrm⟩ := hrb
    have hcap := cap_ok ok2
    have hpl : (putsOf rS.vs).length = rS.vs.length := by unfold putsOf; rw [List.length_map, sortI_len, List.length_map]
    have hld := load_ok (n := capOf D2.Z D2.S) ⟨hcap.1, by omega⟩ rS.last (putsOf rS.vs)
    rw [hpl] at hld
    have htx : t.xs.length ≤ 800000 := by rw [ht]; omega
    have hrv2 : rS.vs.length ≤ 1000000 := by omega
    refine SyO_all (staO_pick (p := b) (S := rS)) (fun rr => ?_)
    obtain ⟨⟨rm, vs⟩, hr⟩ := rr
    dsimp only at hr ⊢
    cases rt with
    | true =>
      rw [Bool.true_or]
      dsimp only [stC, slotC]
      repeat' first | refine adv ?_ | refine Side.go ?_ | refine Giv.mk fun _ => ?_ | refine All.mk fun q => ?_ | refine Fork.mk ?_ ?_ | (refine Two.mk (fun h => ?_) (fun h => ?_) <;> try first | contradiction | (exfalso; omega))
      refine CallG.use (dev_geometry d D2 ok2) ?_
      rintro r M ⟨rfl, rfl⟩
      dsimp only [lcA, lnA]
      repeat' first | refine adv ?_ | refine Side.go ?_ | refine Giv.mk fun _ => ?_ | refine All.mk fun q => ?_ | refine Fork.mk ?_ ?_ | (refine Two.mk (fun h => ?_) (fun h => ?_) <;> try first | contradiction | (exfalso; omega))
      refine CallG.use (space_capacity D2.Z D2.S ⟨⟨by omega, by omega⟩, by omega, by omega⟩) ?_
      rintro r M ⟨rfl, rfl⟩
      dsimp only [lcA, lnA]
      repeat' first | refine adv ?_ | refine Side.go ?_ | refine Giv.mk fun _ => ?_ | refine All.mk fun q => ?_ | refine Fork.mk ?_ ?_ | (refine Two.mk (fun h => ?_) (fun h => ?_) <;> try first | contradiction | (exfalso; omega))
      refine CallG.use (tx_new (capOf D2.Z D2.S) ⟨hcap.1, by omega⟩ rS.last hrl) ?_
      rintro r M ⟨m, rfl, rfl⟩
      dsimp only [lcA, lnA]
      repeat' first | refine adv ?_ | refine Side.go ?_ | refine Giv.mk fun _ => ?_ | refine All.mk fun q => ?_ | refine Fork.mk ?_ ?_ | (refine Two.mk (fun h => ?_) (fun h => ?_) <;> try first | contradiction | (exfalso; omega))
      refine CallG_conv (L' := staO b rS :: mgO m (Mg.new (capOf D2.Z D2.S) rS.last) :: stC p d D2.Z (.pointer (some ⟨m, 0, none⟩)) (.pointer (some ⟨s, 0, none⟩)) rpos rnum false :: slotC s d ⟨0, midOf D2.Z, 2 * midOf D2.Z, D2.S, inn, t, cn, false⟩ :: roS t :: devO d D2 :: F) (fun B w h => staO_close rS rm vs hr (by dsimp only [stC, slotC]; exact goes w h)) ?_
      refine CallG.use (st_puts b rS (fun e he => by have := hrk e he; exact ⟨by omega, by omega⟩) hrv2) ?_
      rintro r M ⟨ps, hps, rfl, rfl⟩
      dsimp only [lcA, lnA]
      dsimp only [stC, slotC]
      repeat' first | refine adv ?_ | refine Side.go ?_ | refine Giv.mk fun _ => ?_ | refine All.mk fun q => ?_ | refine Fork.mk ?_ ?_ | (refine Two.mk (fun h => ?_) (fun h => ?_) <;> try first | contradiction | (exfalso; omega))
      refine CallG.freeze ps ?_
      refine CallG.use (tx_load m (Mg.new (capOf D2.Z D2.S) rS.last) ps (by simp [Mg.new]) (by have := congrArg List.length hps; rw [List.length_map, hpl] at this; omega)) ?_
      rintro r M ⟨rfl, rfl⟩
      dsimp only [lcA, lnA]
      rw [hps]
      generalize (Mg.new (capOf D2.Z D2.S) rS.last).load (putsOf rS.vs) = Ld at hld ⊢
      repeat' first | refine adv ?_ | refine Side.go ?_ | refine Giv.mk fun _ => ?_ | refine All.mk fun q => ?_ | refine Fork.mk ?_ ?_ | (refine Two.mk (fun h => ?_) (fun h => ?_) <;> try first | contradiction | (exfalso; omega))
      case refine_1 => exact endQ.twoW Tryz.results12 (.inl ⟨by rw [if_pos (by assumption)]; exact (show (13 : Int) ≠ 0 by decide), by rw [if_pos (by assumption)], D2.reads, by rw [if_pos (by assumption)]⟩) (fun w h => goes w h)
      rw [if_neg (by omega), mountEnd, if_pos rfl]
      refine CallG.use (st_checkpoint p d m s D2 ok2 Ld.2 ⟨0, midOf D2.Z, 2 * midOf D2.Z, D2.S, inn, t, cn, false⟩ rpos rnum ⟨rfl, rfl, rfl, rfl⟩ hx2.1 hxc (hld.1.hk (by omega)) (by have := hld.1.len; omega) (by rw [hld.2.2]; exact hrl) hld.1.hd (by have := hld.1.dumpLen; omega)) ?_
      rintro v M ⟨tx, new, htx2, hnew, rfl, rfl⟩
      obtain ⟨t2, hck, ht2⟩ := chk_sp (D := D2) (x := ⟨inn, t.xs, cn, false⟩) (t := t) rfl tx new hnew
      rw [show (⟨0, midOf D2.Z, 2 * midOf D2.Z, D2.S, inn, t, cn, false⟩ : SR) = SP.sr D2.Z D2.S ⟨inn, t.xs, cn, false⟩ t from rfl, hck]
      rw [htx2] at hck ht2 ⊢
      clear hck
      generalize chkP D2 ⟨inn, t.xs, cn, false⟩ (textOf Ld.2.last Ld.2.E.dump) = C at ht2 ⊢
      dsimp only [lcA, lnA]
      repeat' first | refine adv ?_ | refine Side.go ?_ | refine Giv.mk fun _ => ?_ | refine All.mk fun q => ?_ | refine Fork.mk ?_ ?_ | (refine Two.mk (fun h => ?_) (fun h => ?_) <;> try first | contradiction | (exfalso; omega))
      · rw [if_pos (by assumption)]
        exact endQ.twoW Tryz.results12 (.inl ⟨by assumption, rfl, C.D.reads, rfl⟩) (fun w h => goes w h)
      · have hC0 : C.e = 0 := by omega
        rw [if_neg (by omega)]
        refine endQ.twoW Tryz.results12 (.inr ⟨rfl, p, rfl, rfl⟩) (fun w h => ?_)
        refine stO_close ⟨C.x, Ld.2, 0, 0, false⟩ m s t2 ht2 ?_
        rw [hC0] at h
        rw [if_pos rfl, if_pos rfl, show decide ((0 : Int) ≠ 0) = false from rfl] at h
        dsimp only [stC, slotC, SP.sr] at h ⊢
        exact goes w h
    | false =>
      rw [Bool.false_or]
      dsimp only [stC, slotC]
      repeat' first | refine adv ?_ | refine Side.go ?_ | refine Giv.mk fun _ => ?_ | refine All.mk fun q => ?_ | refine Fork.mk ?_ ?_ | (refine Two.mk (fun h => ?_) (fun h => ?_) <;> try first | contradiction | (exfalso; omega))
      refine CallG.use (dev_geometry d D2 ok2) ?_
      rintro r M ⟨rfl, rfl⟩
      dsimp only [lcA, lnA]
      repeat' first | refine adv ?_ | refine Side.go ?_ | refine Giv.mk fun _ => ?_ | refine All.mk fun q => ?_ | refine Fork.mk ?_ ?_ | (refine Two.mk (fun h => ?_) (fun h => ?_) <;> try first | contradiction | (exfalso; omega))
      refine CallG.use (space_capacity D2.Z D2.S ⟨⟨by omega, by omega⟩, by omega, by omega⟩) ?_
      rintro r M ⟨rfl, rfl⟩
      dsimp only [lcA, lnA]
      repeat' first | refine adv ?_ | refine Side.go ?_ | refine Giv.mk fun _ => ?_ | refine All.mk fun q => ?_ | refine Fork.mk ?_ ?_ | (refine Two.mk (fun h => ?_) (fun h => ?_) <;> try first | contradiction | (exfalso; omega))
      refine CallG.use (tx_new (capOf D2.Z D2.S) ⟨hcap.1, by omega⟩ rS.last hrl) ?_
      rintro r M ⟨m, rfl, rfl⟩
      dsimp only [lcA, lnA]
      repeat' first | refine adv ?_ | refine Side.go ?_ | refine Giv.mk fun _ => ?_ | refine All.mk fun q => ?_ | refine Fork.mk ?_ ?_ | (refine Two.mk (fun h => ?_) (fun h => ?_) <;> try first | contradiction | (exfalso; omega))
      refine CallG_conv (L' := staO b rS :: mgO m (Mg.new (capOf D2.Z D2.S) rS.last) :: stC p d D2.Z (.pointer (some ⟨m, 0, none⟩)) (.pointer (some ⟨s, 0, none⟩)) rpos rnum false :: slotC s d ⟨0, midOf D2.Z, 2 * midOf D2.Z, D2.S, inn, t, cn, false⟩ :: roS t :: devO d D2 :: F) (fun B w h => staO_close rS rm vs hr (by dsimp only [stC, slotC]; exact goes w h)) ?_
      refine CallG.use (st_puts b rS (fun e he => by have := hrk e he; exact ⟨by omega, by omega⟩) hrv2) ?_
      rintro r M ⟨ps, hps, rfl, rfl⟩
      dsimp only [lcA, lnA]
      dsimp only [stC, slotC]
      repeat' first | refine adv ?_ | refine Side.go ?_ | refine Giv.mk fun _ => ?_ | refine All.mk fun q => ?_ | refine Fork.mk ?_ ?_ | (refine Two.mk (fun h => ?_) (fun h => ?_) <;> try first | contradiction | (exfalso; omega))
      refine CallG.freeze ps ?_
      refine CallG.use (tx_load m (Mg.new (capOf D2.Z D2.S) rS.last) ps (by simp [Mg.new]) (by have := congrArg List.length hps; rw [List.length_map, hpl] at this; omega)) ?_
      rintro r M ⟨rfl, rfl⟩
      dsimp only [lcA, lnA]
      rw [hps]
      generalize (Mg.new (capOf D2.Z D2.S) rS.last).load (putsOf rS.vs) = Ld at hld ⊢
      repeat' first | refine adv ?_ | refine Side.go ?_ | refine Giv.mk fun _ => ?_ | refine All.mk fun q => ?_ | refine Fork.mk ?_ ?_ | (refine Two.mk (fun h => ?_) (fun h => ?_) <;> try first | contradiction | (exfalso; omega))
      case refine_1 => exact endQ.twoW Tryz.results12 (.inl ⟨by rw [if_pos (by assumption)]; exact (show (13 : Int) ≠ 0 by decide), by rw [if_pos (by assumption)], D2.reads, by rw [if_pos (by assumption)]⟩) (fun w h => goes w h)
      · rw [decide_eq_true (show 0 < u.xs.length from by omega)]
        rw [if_neg (by omega), mountEnd, if_pos rfl]
        refine CallG.use (st_checkpoint p d m s D2 ok2 Ld.2 ⟨0, midOf D2.Z, 2 * midOf D2.Z, D2.S, inn, t, cn, false⟩ rpos rnum ⟨rfl, rfl, rfl, rfl⟩ hx2.1 hxc (hld.1.hk (by omega)) (by have := hld.1.len; omega) (by rw [hld.2.2]; exact hrl) hld.1.hd (by have := hld.1.dumpLen; omega)) ?_
        rintro v M ⟨tx, new, htx2, hnew, rfl, rfl⟩
        obtain ⟨t2, hck, ht2⟩ := chk_sp (D := D2) (x := ⟨inn, t.xs, cn, false⟩) (t := t) rfl tx new hnew
        rw [show (⟨0, midOf D2.Z, 2 * midOf D2.Z, D2.S, inn, t, cn, false⟩ : SR) = SP.sr D2.Z D2.S ⟨inn, t.xs, cn, false⟩ t from rfl, hck]
        rw [htx2] at hck ht2 ⊢
        clear hck
        generalize chkP D2 ⟨inn, t.xs, cn, false⟩ (textOf Ld.2.last Ld.2.E.dump) = C at ht2 ⊢
        dsimp only [lcA, lnA]
        repeat' first | refine adv ?_ | refine Side.go ?_ | refine Giv.mk fun _ => ?_ | refine All.mk fun q => ?_ | refine Fork.mk ?_ ?_ | (refine Two.mk (fun h => ?_) (fun h => ?_) <;> try first | contradiction | (exfalso; omega))
        · rw [if_pos (by assumption)]
          exact endQ.twoW Tryz.results12 (.inl ⟨by assumption, rfl, C.D.reads, rfl⟩) (fun w h => goes w h)
        · have hC0 : C.e = 0 := by omega
          rw [if_neg (by omega)]
          refine endQ.twoW Tryz.results12 (.inr ⟨rfl, p, rfl, rfl⟩) (fun w h => ?_)
          refine stO_close ⟨C.x, Ld.2, 0, 0, false⟩ m s t2 ht2 ?_
          rw [hC0] at h
          rw [if_pos rfl, if_pos rfl, show decide ((0 : Int) ≠ 0) = false from rfl] at h
          dsimp only [stC, slotC, SP.sr] at h ⊢
          exact goes w h
      · rw [if_neg (by omega), decide_eq_false (show ¬ 0 < u.xs.length from by omega), mountEnd, if_neg (by simp)]
        refine endQ.twoW Tryz.results12 (.inr ⟨rfl, p, rfl, rfl⟩) (fun w h => ?_)
        refine stO_close ⟨⟨inn, t.xs, cn, false⟩, Ld.2, rpos, rnum, false⟩ m s t rfl ?_
        dsimp only [stC, slotC, SP.sr]
        exact goes w h
end Go.SL
namespace Go.SL
open Go.Proofs
set_option synthInstance.maxSize 4000
set_option synthInstance.maxHeartbeats 400000
set_option maxRecDepth 4000
set_option maxHeartbeats 2000000

theorem Spec.wrap {P : Program} {f : FuncId} {args : Array Value} {pre R : List HProp} {α : Type} {g : α → List HProp} {rest : α → List HProp} {post : α → Value → List HProp → Prop} {post' : Value → List HProp → Prop}
    (hop : ∀ B F w, sat B (pre ++ F) w → ∃ x, sat B (g x ++ (rest x ++ F)) w) (h : ∀ x, Spec P f args (g x) (post x))
    (hcl : ∀ x v L, post x v L → ∃ L', post' v L' ∧ ∀ B F w, sat B (L ++ (rest x ++ F)) w → sat B (L' ++ F) w) : Spec P f args pre post' := by
  intro B F w hs
  obtain ⟨x, hx⟩ := hop B F w hs
  refine (h x B (rest x ++ F) w hx).mono ?_
  rintro e w' ⟨v, L, rfl, hp, hm⟩
  obtain ⟨L', hp', hc⟩ := hcl x v L hp
  exact ⟨v, L', rfl, hp', hc B F w' hm⟩
abbrev StQ (T : SS) := {q : Nat × Nat × Sl UInt8 // q.2.2.xs = T.x.text}
theorem sto_open2 {p d Z S : Nat} {T : SS} (B : World) (F : List HProp) (w : World) (h : sat B ([stO p d Z S T] ++ F) w) : ∃ q : StQ T,
    sat B ([stC p d Z (.pointer (some ⟨q.1.1, 0, none⟩)) (.pointer (some ⟨q.1.2.1, 0, none⟩)) T.pos T.num T.off, mgO q.1.1 T.M] ++ ([slotC q.1.2.1 d (T.x.sr Z S q.1.2.2), roS q.1.2.2] ++ F)) w := by
  obtain ⟨q, hq⟩ := stO_open h
  exact ⟨q, hq.perm (.cons _ (.trans (.cons _ (.swap _ _ _)) (.swap _ _ _)))⟩
theorem sto_close2 {p d Z S : Nat} {T : SS} {M : Mg} {b : Bool} (q : StQ T) (B : World) (F : List HProp) (w : World)
    (h : sat B ([stC p d Z (.pointer (some ⟨q.1.1, 0, none⟩)) (.pointer (some ⟨q.1.2.1, 0, none⟩)) T.pos T.num b, mgO q.1.1 M] ++ ([slotC q.1.2.1 d (T.x.sr Z S q.1.2.2), roS q.1.2.2] ++ F)) w) : sat B ([stO p d Z S { T with M := M, off := b }] ++ F) w :=
  stO_close { T with M := M, off := b } q.1.1 q.1.2.1 q.1.2.2 q.2 (h.perm (.cons _ (.trans (.swap _ _ _) (.cons _ (.swap _ _ _)))))

theorem sto_begin (p d Z S : Nat) (T : SS) (hoff : T.off = false) (hb : 1 ≤ T.M.E.blocks ∧ T.M.E.blocks ≤ 1048576) (hi : ∀ e ∈ T.M.K.ts, I64 e.1) (hl : T.M.K.ts.length ≤ 1000000) (hla : T.M.K.last ≤ 1000000000) :
    Spec Tryz.prog 16 #[.pointer (some ⟨p, 0, none⟩)] [stO p d Z S T] (fun v L => v = .tuple #[.int .i64 T.M.begin.1, .int .i64 T.M.begin.2.1] ∧ L = [stO p d Z S { T with M := T.M.begin.2.2 }]) := by
  refine Spec.wrap (R := []) (fun B F w h => sto_open2 B F w h) (fun q => by rw [hoff]; exact st_begin p d Z q.1.1 T.M (.pointer (some ⟨q.1.2.1, 0, none⟩)) T.pos T.num hb hi hl hla) ?_
  rintro q v L ⟨rfl, rfl⟩
  refine ⟨_, ⟨rfl, rfl⟩, fun B F w h => ?_⟩
  have := sto_close2 q B F w h
  rwa [← hoff] at this
theorem sto_last (p d Z S : Nat) (T : SS) : Spec Tryz.prog 26 #[.pointer (some ⟨p, 0, none⟩)] [stO p d Z S T] (fun v L => v = .int .i64 T.M.last ∧ L = [stO p d Z S T]) := by
  refine Spec.wrap (R := []) (fun B F w h => sto_open2 B F w h) (fun q => st_last p d Z q.1.1 T.M (.pointer (some ⟨q.1.2.1, 0, none⟩)) T.pos T.num T.off) ?_
  rintro q v L ⟨rfl, rfl⟩
  exact ⟨_, ⟨rfl, rfl⟩, fun B F w h => sto_close2 q B F w h⟩
theorem sto_dump (p d Z S : Nat) (T : SS) (hk : ∀ e ∈ T.M.E.vs, I64 e.1 ∧ 0 < e.2.length ∧ e.2.length ≤ 2000000) (hl : T.M.E.vs.length ≤ 1000000) :
    Spec Tryz.prog 27 #[.pointer (some ⟨p, 0, none⟩)] [stO p d Z S T] (fun v L => ∃ t : Sl PutR, t.xs.map PutR.v = T.M.E.dump ∧ v = t.val ∧ L = [stO p d Z S T, ownS t]) := by
  refine Spec.wrap (R := []) (fun B F w h => sto_open2 B F w h) (fun q => st_dump p d Z q.1.1 T.M (.pointer (some ⟨q.1.2.1, 0, none⟩)) T.pos T.num T.off hk hl) ?_
  rintro q v L ⟨t, ht, rfl, rfl⟩
  exact ⟨_, ⟨t, ht, rfl, rfl⟩, fun B F w h => sto_close2 q B (ownS t :: F) w (h.perm (.cons _ (.cons _ (.trans (.swap _ _ _) (.cons _ (.swap _ _ _))))))⟩
theorem sto_write (p d Z S : Nat) (T : SS) (hoff : T.off = false) (h : Int) (ps : Sl PutR) (hi : ∀ x ∈ ps.xs, I64 x.lba) (hW : ∀ e ∈ T.M.all, e.2.W.vs.length ≤ 1000000) :
    Spec Tryz.prog 19 #[.pointer (some ⟨p, 0, none⟩), .int .i64 h, ps.val] [stO p d Z S T, roS ps]
    (fun v L => v = .int .i64 (T.M.write h (ps.xs.map PutR.v)).1 ∧ L = [stO p d Z S { T with M := (T.M.write h (ps.xs.map PutR.v)).2 }]) := by
  refine Spec.wrap (R := []) (g := fun q : StQ T => [stC p d Z (.pointer (some ⟨q.1.1, 0, none⟩)) (.pointer (some ⟨q.1.2.1, 0, none⟩)) T.pos T.num T.off, mgO q.1.1 T.M, roS ps]) (rest := fun q => [slotC q.1.2.1 d (T.x.sr Z S q.1.2.2), roS q.1.2.2])
    (fun B F w h => ?_) (fun q => by rw [hoff]; exact st_write p d Z q.1.1 T.M (.pointer (some ⟨q.1.2.1, 0, none⟩)) T.pos T.num h ps hi hW) ?_
  · obtain ⟨q, hq⟩ := sto_open2 B (roS ps :: F) w h
    exact ⟨q, hq.perm (.cons _ (.cons _ (.trans (.cons _ (.swap _ _ _)) (.swap _ _ _))))⟩
  rintro q v L ⟨rfl, rfl⟩
  refine ⟨_, ⟨rfl, rfl⟩, fun B F w h => ?_⟩
  have := sto_close2 q B F w h
  rwa [← hoff] at this
theorem sto_commit1 (p d Z S : Nat) (T : SS) (hoff : T.off = false) (h : Int) (Tx : Tr) (k : Int) (b : List UInt8) (hT : vget T.M.all h = some Tx) (hst : Tx.st = 1) (hq : T.M.queue = []) (hS : Tx.S.l = []) (hW : Tx.W.vs = [(k, b)]) (hk : 0 ≤ k ∧ k ≤ 1048575)
    (hE : ∀ e ∈ T.M.E.vs, I64 e.1 ∧ 0 < e.2.length ∧ e.2.length ≤ 2000000) (hall : ∀ e ∈ T.M.all, e.2.W.vs.length ≤ 1000000 ∧ ∀ x ∈ e.2.W.vs, I64 x.1) (hgv : (0 : Int) ≤ T.M.given) :
    Spec Tryz.prog 20 #[.pointer (some ⟨p, 0, none⟩), .int .i64 h] [stO p d Z S T] (fun v L => v = .int .i64 (T.M.commit1 h Tx k).1 ∧ L = [stO p d Z S { T with M := (T.M.commit1 h Tx k).2 }]) := by
  refine Spec.wrap (R := []) (fun B F w h => sto_open2 B F w h) (fun q => by rw [hoff]; exact st_commit1 p d Z q.1.1 T.M (.pointer (some ⟨q.1.2.1, 0, none⟩)) T.pos T.num h Tx k b hT hst hq hS hW hk hE hall hgv) ?_
  rintro q v L ⟨rfl, rfl⟩
  refine ⟨_, ⟨rfl, rfl⟩, fun B F w h => ?_⟩
  have := sto_close2 q B F w h
  rwa [← hoff] at this
theorem sto_blocks (p d : Nat) (D : Dv) (T : SS) (ok : D.ok) : Spec Tryz.prog 17 #[.pointer (some ⟨p, 0, none⟩)] [stO p d D.Z D.S T, devO d D] (fun v L => v = .int .i64 (capOf D.Z D.S) ∧ L = [stO p d D.Z D.S T, devO d D]) := by
  refine Spec.wrap (R := []) (g := fun q : StQ T => [stC p d D.Z (.pointer (some ⟨q.1.1, 0, none⟩)) (.pointer (some ⟨q.1.2.1, 0, none⟩)) T.pos T.num T.off, devO d D]) (rest := fun q => [mgO q.1.1 T.M, slotC q.1.2.1 d (T.x.sr D.Z D.S q.1.2.2), roS q.1.2.2])
    (fun B F w h => ?_) (fun q => st_blocks p d D (.pointer (some ⟨q.1.1, 0, none⟩)) (.pointer (some ⟨q.1.2.1, 0, none⟩)) T.pos T.num T.off ok) ?_
  · obtain ⟨q, hq⟩ := sto_open2 B (devO d D :: F) w h
    simp only [lcA, lnA] at hq ⊢
    exact ⟨q, goes w hq⟩
  rintro q v L ⟨rfl, rfl⟩
  refine ⟨_, ⟨rfl, rfl⟩, fun B F w h => ?_⟩
  simp only [lcA, lnA] at h
  exact sto_close2 q B (devO d D :: F) w (by simp only [lcA, lnA]; exact goes w h)
/-- What a flush leaves of store and device. -/
def SS.flush (T : SS) (D : Dv) : Int × SS × Dv :=
  ((flushOf D T.x.count T.pos T.num T.M).e, ⟨T.x, (flushOf D T.x.count T.pos T.num T.M).M, (flushOf D T.x.count T.pos T.num T.M).pos, (flushOf D T.x.count T.pos T.num T.M).num, (flushOf D T.x.count T.pos T.num T.M).off⟩, (flushOf D T.x.count T.pos T.num T.M).D)
theorem sto_flush (p d : Nat) (D : Dv) (T : SS) (ok : D.ok) (hoff : T.off = false) (hpos : T.pos ≤ 1000000) (hnum : T.num ≤ 1000000000) (hM : MgF T.M) :
    Spec Tryz.prog 21 #[.pointer (some ⟨p, 0, none⟩)] [stO p d D.Z D.S T, devO d D] (fun v L => v = .int .i64 (T.flush D).1 ∧ L = [stO p d D.Z D.S (T.flush D).2.1, devO d (T.flush D).2.2]) := by
  refine Spec.wrap (R := []) (g := fun q : StQ T => [stC p d D.Z (.pointer (some ⟨q.1.1, 0, none⟩)) (.pointer (some ⟨q.1.2.1, 0, none⟩)) T.pos T.num T.off, slotC q.1.2.1 d (T.x.sr D.Z D.S q.1.2.2), roS q.1.2.2, devO d D, mgO q.1.1 T.M]) (rest := fun q => [])
    (fun B F w h => ?_) (fun q => by rw [hoff]; exact st_flush p d q.1.1 q.1.2.1 D ok T.M (T.x.sr D.Z D.S q.1.2.2) T.pos T.num hpos hnum hM) ?_
  · obtain ⟨q, hq⟩ := sto_open2 B (devO d D :: F) w h
    simp only [lcA, lnA] at hq ⊢
    exact ⟨q, goes w hq⟩
  rintro q v L ⟨rfl, rfl⟩
  refine ⟨_, ⟨rfl, rfl⟩, fun B F w h => ?_⟩
  exact stO_close (T.flush D).2.1 q.1.1 q.1.2.1 q.1.2.2 q.2 (h.perm (.cons _ (.cons _ (.cons _ (.swap _ _ _)))))
def SS.check (T : SS) (D : Dv) : Int × SS × Dv :=
  if (chkP D T.x (textOf T.M.last T.M.E.dump)).e = 0 then (0, ⟨(chkP D T.x (textOf T.M.last T.M.E.dump)).x, T.M, 0, 0, false⟩, (chkP D T.x (textOf T.M.last T.M.E.dump)).D)
  else ((chkP D T.x (textOf T.M.last T.M.E.dump)).e, ⟨(chkP D T.x (textOf T.M.last T.M.E.dump)).x, T.M, T.pos, T.num, true⟩, (chkP D T.x (textOf T.M.last T.M.E.dump)).D)
theorem sto_check (p d : Nat) (D : Dv) (T : SS) (ok : D.ok) (hoff : T.off = false) (hin : T.x.inn < 2) (hn : T.x.count < 1099511627776) {c : Nat} (hE : EOk T.M.E c) (hc : c ≤ 2000000) (hb : T.M.E.blocks ≤ 20000) (hla : 0 ≤ T.M.last ∧ T.M.last ≤ 1099511627776) :
    Spec Tryz.prog 22 #[.pointer (some ⟨p, 0, none⟩)] [stO p d D.Z D.S T, devO d D] (fun v L => v = .int .i64 (T.check D).1 ∧ L = [stO p d D.Z D.S (T.check D).2.1, devO d (T.check D).2.2]) := by
  refine Spec.wrap (R := []) (g := fun q : StQ T => [stC p d D.Z (.pointer (some ⟨q.1.1, 0, none⟩)) (.pointer (some ⟨q.1.2.1, 0, none⟩)) T.pos T.num T.off, slotC q.1.2.1 d (T.x.sr D.Z D.S q.1.2.2), roS q.1.2.2, devO d D, mgO q.1.1 T.M]) (rest := fun q => [])
    (fun B F w h => ?_) (fun q => by rw [hoff]; exact st_checkpoint p d q.1.1 q.1.2.1 D ok T.M (T.x.sr D.Z D.S q.1.2.2) T.pos T.num ⟨rfl, rfl, rfl, rfl⟩ hin hn (hE.hk hc) (by have := hE.len; omega) hla hE.hd (by have := hE.dumpLen; omega)) ?_
  · obtain ⟨q, hq⟩ := sto_open2 B (devO d D :: F) w h
    simp only [lcA, lnA] at hq ⊢
    exact ⟨q, goes w hq⟩
  rintro q v L ⟨t, new, ht, hnew, rfl, rfl⟩
  obtain ⟨t2, hck, ht2⟩ := chk_sp (D := D) (x := T.x) (t := q.1.2.2) q.2 t new hnew
  rw [ht] at hck ht2
  rw [hck]
  refine ⟨_, ⟨?_, rfl⟩, fun B F w h => ?_⟩
  · unfold SS.check; split
    · rename_i h0; rw [h0]
    · rfl
  · unfold SS.check
    split
    · rename_i h0
      rw [if_pos h0, if_pos h0, h0] at h
      exact stO_close ⟨(chkP D T.x (textOf T.M.last T.M.E.dump)).x, T.M, 0, 0, false⟩ q.1.1 q.1.2.1 t2 ht2 (h.perm (.cons _ (.cons _ (.cons _ (.swap _ _ _)))))
    · rename_i h0
      rw [if_neg h0, if_neg h0, decide_eq_true h0] at h
      exact stO_close ⟨(chkP D T.x (textOf T.M.last T.M.E.dump)).x, T.M, T.pos, T.num, true⟩ q.1.1 q.1.2.1 t2 ht2 (h.perm (.cons _ (.cons _ (.cons _ (.swap _ _ _)))))
end Go.SL
namespace Go.SL
open Go.Proofs
set_option synthInstance.maxSize 4000
set_option synthInstance.maxHeartbeats 400000
set_option maxRecDepth 4000
set_option maxHeartbeats 2000000

theorem st_commit (p d Z m : Nat) (M : Mg) (sv : Value) (pos num : Nat) (h : Int) (hq : ∀ j ∈ M.queue, ∃ T, vget M.all j = some T) (hql : M.queue.length ≤ 1000000)
    (hO : ∀ T, openT M h = some T → h ∉ M.queue ∧ T.S.l = [] ∧ WOk T.W)
    (hE : ∀ e ∈ M.E.vs, I64 e.1 ∧ 0 < e.2.length ∧ e.2.length ≤ 2000000) (hall : ∀ e ∈ M.all, e.2.W.vs.length ≤ 1000000 ∧ ∀ x ∈ e.2.W.vs, I64 x.1) (hgv : (0 : Int) ≤ M.given) :
    Spec Tryz.prog 20 #[.pointer (some ⟨p, 0, none⟩), .int .i64 h] [stC p d Z (.pointer (some ⟨m, 0, none⟩)) sv pos num false, mgO m M]
    (fun v L => v = .int .i64 (M.commit h).1 ∧ L = [stC p d Z (.pointer (some ⟨m, 0, none⟩)) sv pos num false, mgO m (M.commit h).2]) := by
  refine enter2 Tryz.func20 rfl (by decide) (by decide) ?_
  intro B F
  dsimp only [lcA, lnA]
  dsimp only [stC]
  repeat' first | refine adv ?_ | refine Side.go ?_ | refine Giv.mk fun _ => ?_ | refine All.mk fun q => ?_ | refine Fork.mk ?_ ?_ | (refine Two.mk (fun h => ?_) (fun h => ?_) <;> try first | contradiction | (exfalso; omega))
  refine CallG.use (st_dead p d Z (.pointer (some ⟨m, 0, none⟩)) sv pos num false) ?_
  rintro r M ⟨rfl, rfl⟩
  dsimp only [lcA, lnA]
  dsimp only [stC]
  repeat' first | refine adv ?_ | refine Side.go ?_ | refine Giv.mk fun _ => ?_ | refine All.mk fun q => ?_ | refine Fork.mk ?_ ?_ | (refine Two.mk (fun h => ?_) (fun h => ?_) <;> try first | contradiction | (exfalso; omega))
  refine CallG.use (tx_commit m M h hq hql hO hE hall hgv) ?_
  rintro r M ⟨rfl, rfl⟩
  dsimp only [lcA, lnA]
  repeat' first | refine adv ?_ | refine Side.go ?_ | refine Giv.mk fun _ => ?_ | refine All.mk fun q => ?_ | refine Fork.mk ?_ ?_ | (refine Two.mk (fun h => ?_) (fun h => ?_) <;> try first | contradiction | (exfalso; omega))
  exact endQ.oneW Tryz.results20 ⟨rfl, rfl⟩ (fun w h => goes w h)
theorem sto_commit (p d Z S : Nat) (T : SS) (hoff : T.off = false) (h : Int) (hq : ∀ j ∈ T.M.queue, ∃ X, vget T.M.all j = some X) (hql : T.M.queue.length ≤ 1000000)
    (hO : ∀ X, openT T.M h = some X → h ∉ T.M.queue ∧ X.S.l = [] ∧ WOk X.W)
    (hE : ∀ e ∈ T.M.E.vs, I64 e.1 ∧ 0 < e.2.length ∧ e.2.length ≤ 2000000) (hall : ∀ e ∈ T.M.all, e.2.W.vs.length ≤ 1000000 ∧ ∀ x ∈ e.2.W.vs, I64 x.1) (hgv : (0 : Int) ≤ T.M.given) :
    Spec Tryz.prog 20 #[.pointer (some ⟨p, 0, none⟩), .int .i64 h] [stO p d Z S T] (fun v L => v = .int .i64 (T.M.commit h).1 ∧ L = [stO p d Z S { T with M := (T.M.commit h).2 }]) := by
  refine Spec.wrap (R := []) (fun B F w h => sto_open2 B F w h) (fun q => by rw [hoff]; exact st_commit p d Z q.1.1 T.M (.pointer (some ⟨q.1.2.1, 0, none⟩)) T.pos T.num h hq hql hO hE hall hgv) ?_
  rintro q v L ⟨rfl, rfl⟩
  refine ⟨_, ⟨rfl, rfl⟩, fun B F w h => ?_⟩
  have := sto_close2 q B F w h
  rwa [← hoff] at this
end Go.SL
namespace Go.SL
open Go.Proofs
set_option synthInstance.maxSize 4000
set_option synthInstance.maxHeartbeats 400000
set_option maxRecDepth 4000
set_option maxHeartbeats 2000000

def lowOf (K : Bk) (now : Int) : Int := K.ts.foldl (fun m e => min m e.2) now
theorem low_fold : ∀ (l : List (Int × Int)) (now : Int), (l.foldl (fun m e => min m e.2) now ≤ now ∧ ∀ e ∈ l, l.foldl (fun m e => min m e.2) now ≤ e.2) ∧ (l.foldl (fun m e => min m e.2) now = now ∨ ∃ e ∈ l, l.foldl (fun m e => min m e.2) now = e.2)
  | [], now => ⟨⟨Int.le_refl _, fun e he => by cases he⟩, .inl rfl⟩
  | a :: l, now => by
    obtain ⟨⟨h1, h2⟩, h3⟩ := low_fold l (min now a.2)
    rw [List.foldl_cons]
    refine ⟨⟨by omega, fun e he => ?_⟩, ?_⟩
    · rcases List.mem_cons.1 he with rfl | he
      · omega
      · exact h2 e he
    · rcases h3 with h3 | ⟨e, he, h3⟩
      · by_cases hm : now ≤ a.2
        · exact .inl (by omega)
        · exact .inr ⟨a, List.mem_cons_self .., by omega⟩
      · exact .inr ⟨e, List.mem_cons_of_mem _ he, h3⟩
theorem low_is {K : Bk} {now m : Int} (h1 : m ≤ now) (h2 : ∀ e ∈ K.ts, m ≤ e.2) (h3 : m = now ∨ ∃ e ∈ K.ts, m = e.2) : m = lowOf K now := by
  obtain ⟨⟨a1, a2⟩, a3⟩ := low_fold K.ts now
  unfold lowOf
  have h4 : m ≤ K.ts.foldl (fun m e => min m e.2) now := by
    rcases a3 with a3 | ⟨e, he, a3⟩
    · omega
    · have := h2 e he; omega
  have h5 : K.ts.foldl (fun m e => min m e.2) now ≤ m := by
    rcases h3 with h3 | ⟨e, he, h3⟩
    · omega
    · have := a2 e he; omega
  omega
theorem hz_low (b : Nat) (K : Bk) (now : Int) : Spec Tryz.prog 117 #[.pointer (some ⟨b, 0, none⟩), .int .i64 now] [bkO b K] (fun v L => v = .int .i64 (lowOf K now) ∧ L = [bkO b K]) := by
  refine enter2 Tryz.func117 rfl (by decide) (by decide) ?_
  intro B F
  dsimp only [lcA, lnA]
  refine Sy_all (fun w h => bkO_open h) (fun rm => ?_)
  dsimp only [bkL, List.cons_append, List.nil_append]
  refine Sy_know (fun B w h => map_nodup (r := rm) (es := vmap vI K.ts) B w h) (fun hn => ?_)
  rw [vmap_keys] at hn
  repeat' first | refine adv ?_ | refine Side.go ?_ | refine Giv.mk fun _ => ?_ | refine All.mk fun q => ?_ | refine Fork.mk ?_ ?_ | (refine Two.mk (fun h => ?_) (fun h => ?_) <;> try first | contradiction | (exfalso; omega))
  rename_i it bs
  obtain ⟨ck, hck⟩ : ∃ p, p = q := ⟨q, rfl⟩
  subst hck
  refine Sy_loop (ι := {st : (List Int × List Int) × Int // (st.2 ≤ now ∧ ∀ k ∈ st.1.1, ∀ x, vget K.ts k = some x → st.2 ≤ x) ∧ (st.2 = now ∨ ∃ e ∈ K.ts, st.2 = e.2)})
    (fun st => [(14, .pointer (some ⟨it, 0, none⟩)), (1, .int .i64 st.1.2)])
    (fun st => iterO it rm ((vmap vI K.ts).map (·.1)) bs ck st.1.1.1 st.1.1.2 :: mapB rm (vmap vI K.ts) bs ck :: cells true b 0 [.int .i64 K.most, .int .i64 K.last, .map (some rm)] :: F)
    (fun st => st.1.1.2.length) ⟨(([], (vmap vI K.ts).map (·.1)), now), ⟨Int.le_refl _, fun k hk => by cases hk⟩, .inl rfl⟩ (evs rfl (evs rfl .nil)) (fun w h => goes w h) ?_
  rintro ⟨⟨⟨done, rest⟩, m⟩, ⟨hm1, hm2⟩, hm3⟩ env
  dsimp only [upds] at hm1 hm2 hm3 ⊢
  refine Sy_know (fun B w h => iter_perm (i := it) (m := rm) (ks := (vmap vI K.ts).map (fun e : Int × Value => e.1)) (bs := bs) (ck := ck) (done := done) (rest := rest) B w h) (fun hperm => ?_)
  repeat' first | refine adv ?_ | refine Side.go ?_ | refine Giv.mk fun _ => ?_ | refine All.mk fun q => ?_ | refine Fork.mk ?_ ?_ | (refine Two.mk (fun h => ?_) (fun h => ?_) <;> try first | contradiction | (exfalso; omega))
  refine NextG.mk (fun h0 => ?_) (fun k y rest' hp hg => ?_)
  · subst h0
    repeat' first | refine adv ?_ | refine Side.go ?_ | refine Giv.mk fun _ => ?_ | refine All.mk fun q => ?_ | refine Fork.mk ?_ ?_ | (refine Two.mk (fun h => ?_) (fun h => ?_) <;> try first | contradiction | (exfalso; omega))
    have hfin : m = lowOf K now := low_is hm1 (fun e he => by
      have hed : e.1 ∈ done := by
        have : e.1 ∈ (vmap vI K.ts).map (·.1) := by rw [vmap_keys]; exact List.mem_map.2 ⟨e, he, rfl⟩
        have h2 := hperm.symm.subset this
        simpa using h2
      obtain ⟨x2, hx2, hm2'⟩ := vget_mem (vs := K.ts) (k := e.1) (List.mem_map.2 ⟨e, he, rfl⟩)
      have hxx : e = (e.1, x2) := by
        rcases List.mem_cons.1 ((vget_perm hn hx2).subset he) with h | h
        · exact h
        · have := (List.mem_filter.1 h).2
          simp at this
      have := hm2 e.1 hed x2 hx2
      rw [hxx]; exact this) hm3
    refine endQ.oneW Tryz.results117 ⟨by rw [hfin], rfl⟩ (fun w h => bkO_close K rm ?_)
    have h2 : sat B (mapB rm (vmap vI K.ts) bs ck :: cells true b 0 [.int .i64 K.most, .int .i64 K.last, .map (some rm)] :: F) w := goes w h
    exact goes w (mapO_of h2)
  · obtain ⟨x, hx, rfl⟩ : ∃ x, vget K.ts k = some x ∧ y = vI x := by
      have := hg.h
      rw [mget_vmap] at this
      cases hv : vget K.ts k with
      | none => rw [hv] at this; cases this
      | some x => rw [hv] at this; exact ⟨x, rfl, (Option.some.inj this).symm⟩
    repeat' first | refine adv ?_ | refine Side.go ?_ | refine Giv.mk fun _ => ?_ | refine All.mk fun q => ?_ | refine Fork.mk ?_ ?_ | (refine Two.mk (fun h => ?_) (fun h => ?_) <;> try first | contradiction | (exfalso; omega))
    refine loopQ.next ⟨((done ++ [k], rest'), min m x), ⟨by dsimp only; omega, ?_⟩, ?_⟩ (by have := hp.length_eq; simp only [List.length_cons] at this ⊢; omega) (evs rfl (evs rfl .nil)) (fun w h => goes w h)
    · intro k2 hk2 x2 hx2
      dsimp only at hk2 ⊢
      rcases List.mem_append.1 hk2 with h5 | h5
      · have := hm2 k2 h5 x2 hx2; omega
      · have : k2 = k := by simpa using h5
        subst this
        rw [hx] at hx2
        obtain rfl := Option.some.inj hx2
        omega
    · dsimp only
      rcases hm3 with hm3 | ⟨e, he, hm3⟩
      · by_cases hle : m ≤ x
        · exact .inl (by omega)
        · exact .inr ⟨(k, x), vget_memE hx, by dsimp only; omega⟩
      · by_cases hle : m ≤ x
        · exact .inr ⟨e, he, by omega⟩
        · exact .inr ⟨(k, x), vget_memE hx, by dsimp only; omega⟩

/-- The place of the newest version at or ahead of a time; -1: none. -/
def atGo (l : List PV) (t : Int) : Nat → Int
  | 0 => -1
  | k + 1 => if (l[k]?.getD (0, [])).1 ≤ t then k else atGo l t k
theorem atGo_le (l : List PV) (t : Int) : ∀ k : Nat, -1 ≤ atGo l t k ∧ atGo l t k < k
  | 0 => by unfold atGo; omega
  | k + 1 => by
    have := atGo_le l t k
    unfold atGo
    split <;> omega
theorem ext_at (m rm : Nat) (x1 x3 : Value) (es : List (Int × Value)) (bs : List Nat) (ck : Nat) (k t : Int) (x : Sl Ver) (hl : x.xs.length ≤ 2000000) [hg : MG es k x.val] :
    Spec Tryz.prog 147 #[.pointer (some ⟨m, 0, none⟩), .int .i64 k, .int .i64 t] [cells true m 0 [x1, .map (some rm), x3], mapB rm es bs ck, ownS x]
      (fun v L => v = .int .i64 (atGo (x.xs.map Ver.v) t x.xs.length) ∧ L = [cells true m 0 [x1, .map (some rm), x3], mapB rm es bs ck, ownS x]) := by
  refine enter3 Tryz.func147 rfl (by decide) (by decide) ?_
  intro B F
  dsimp only [lcA, lnA]
  repeat' first | refine adv ?_ | refine Side.go ?_ | refine Giv.mk fun _ => ?_ | refine All.mk fun q => ?_ | refine Fork.mk ?_ ?_ | (refine Two.mk (fun h => ?_) (fun h => ?_) <;> try first | contradiction | (exfalso; omega))
  refine Sy_loop (ι := {q : Nat × Int // q.1 ≤ x.xs.length ∧ q.2 = (q.1 : Int) - 1 ∧ atGo (x.xs.map Ver.v) t x.xs.length = atGo (x.xs.map Ver.v) t q.1}) (fun q => [(7, x.val), (8, .int .i64 q.1.2), (2, .int .i64 t)])
    (fun _ => cells true m 0 [x1, .map (some rm), x3] :: mapB rm es bs ck :: ownS x :: F) (fun q => q.1.1) ⟨(x.xs.length, (x.xs.length : Int) - 1), Nat.le_refl _, rfl, rfl⟩ (evs rfl (evs rfl (evs rfl .nil))) (fun w h => goes w h) ?_
  rintro ⟨⟨j, z⟩, hj, hz, hat⟩ env
  dsimp only [upds] at hj hz hat ⊢
  by_cases hj0 : j = 0
  · subst hj0
    repeat' first | refine adv ?_ | refine Side.go ?_ | refine Giv.mk fun _ => ?_ | refine All.mk fun q => ?_ | refine Fork.mk ?_ ?_ | (refine Two.mk (fun h => ?_) (fun h => ?_) <;> try first | contradiction | (exfalso; omega))
    exact endQ.oneW Tryz.results147 ⟨by rw [hat, hz]; rfl, rfl⟩ (fun w h => goes w h)
  · obtain ⟨i, rfl⟩ : ∃ i, j = i + 1 := ⟨j - 1, by omega⟩
    have hi : i < x.xs.length := by omega
    have hti : z.toNat = i := by omega
    have hat2 : atGo (x.xs.map Ver.v) t (i + 1) = if x.xs[i].time ≤ t then (i : Int) else atGo (x.xs.map Ver.v) t i := by
      rw [atGo, List.getElem?_map, List.getElem?_eq_getElem hi]; rfl
    repeat' first | refine adv ?_ | refine Side.go ?_ | refine Giv.mk fun _ => ?_ | refine All.mk fun q => ?_ | refine Fork.mk ?_ ?_ | (refine Two.mk (fun h => ?_) (fun h => ?_) <;> try first | contradiction | (exfalso; omega))
    · simp only [hti] at h
      exact endQ.oneW Tryz.results147 ⟨by rw [hat, hat2, if_pos h]; congr 1; omega, rfl⟩ (fun w h => goes w h)
    · simp only [hti] at h
      exact loopQ.next ⟨(i, z - 1), by dsimp only; omega, by dsimp only; omega, by rw [hat, hat2, if_neg h]⟩ (by dsimp only; omega) (evs rfl (evs rfl (evs rfl .nil))) (fun w h => goes w h)

/-- What is left of the versions of a block behind a cleaning. -/
def pruneL (t : Int) (l : List PV) : List PV := if 0 < atGo l t l.length then l.drop (atGo l t l.length).toNat else l
def Em.prune (E : Em) (t : Int) : Em := if E.blocks = 0 then E else { E with vs := E.vs.map fun e => (e.1, pruneL t e.2) }
theorem list_ext {α : Type} : ∀ {a b : List (Int × α)}, a.map (·.1) = b.map (·.1) → (a.map (·.1)).Nodup → (∀ k ∈ a.map (·.1), vget a k = vget b k) → a = b
  | [], [], _, _, _ => rfl
  | [], _ :: _, h, _, _ => by cases h
  | _ :: _, [], h, _, _ => by cases h
  | x :: a, y :: b, h, hn, hg => by
    simp only [List.map_cons, List.cons.injEq] at h
    rw [List.map_cons, List.nodup_cons] at hn
    have h1 := hg x.1 (List.mem_cons_self ..)
    have e1 : vget (x :: a) x.1 = some x.2 := by unfold vget; simp
    have e2 : vget (y :: b) x.1 = some y.2 := by unfold vget; simp [h.1]
    rw [e1, e2] at h1
    have hxy : x = y := Prod.ext h.1 (Option.some.inj h1)
    rw [hxy, list_ext h.2 hn.2 (fun k hk => by
      have := hg k (List.mem_cons_of_mem _ hk)
      have hkx : ¬ x.1 = k := fun e => hn.1 (e ▸ hk)
      unfold vget at this ⊢
      rwa [List.find?_cons_of_neg (by simpa using hkx), List.find?_cons_of_neg (by rw [← h.1]; simpa using hkx)] at this)]
theorem vget_mapv {α β : Type} (f : α → β) (vs : List (Int × α)) (k : Int) : vget (vs.map fun e => (e.1, f e.2)) k = (vget vs k).map f := by
  unfold vget
  rw [List.find?_map]
  have e : ((fun e : Int × β => e.1 == k) ∘ fun e : Int × α => (e.1, f e.2)) = fun e => e.1 == k := rfl
  rw [e]
  cases vs.find? fun e => e.1 == k <;> rfl
theorem ext_prune (m : Nat) (E : Em) (t : Int) (hk : ∀ e ∈ E.vs, I64 e.1 ∧ 0 < e.2.length ∧ e.2.length ≤ 2000000) (hl : E.vs.length ≤ 1000000) :
    Spec Tryz.prog 116 #[.pointer (some ⟨m, 0, none⟩), .int .i64 t] [emO m E] (fun v L => (∃ n : Int, v = .int .i64 n) ∧ L = [emO m (E.prune t)]) := by
  refine enter2 Tryz.func116 rfl (by decide) (by decide) ?_
  intro B F
  dsimp only [lcA, lnA]
  refine Sy_all (fun w h => emO_open h) (fun r => ?_)
  obtain ⟨⟨rm, vs⟩, hr⟩ := r
  dsimp only [emL, List.cons_append, List.nil_append]
  have hve : ∀ e ∈ vs, I64 e.1 ∧ 0 < e.2.xs.length ∧ e.2.xs.length ≤ 2000000 := by
    intro e he
    have := hk (e.1, e.2.xs.map Ver.v) (by rw [← hr]; exact List.mem_map.2 ⟨e, he, rfl⟩)
    simpa using this
  have hvl : vs.length ≤ 1000000 := by rw [← hr] at hl; simpa [EmR.v] using hl
  refine Sy_know (fun B w h => map_nodup (r := rm) (es := vmap Sl.val vs) B w h) (fun hn => ?_)
  rw [vmap_keys] at hn
  repeat' first | refine adv ?_ | refine Side.go ?_ | refine Giv.mk fun _ => ?_ | refine All.mk fun q => ?_ | refine Fork.mk ?_ ?_ | (refine Two.mk (fun h => ?_) (fun h => ?_) <;> try first | contradiction | (exfalso; omega))
  refine CallG.use (ext_gone m E.blocks (.map (some rm)) (.int .i64 E.last)) ?_
  rintro r M ⟨rfl, rfl⟩
  dsimp only [lcA, lnA]
  by_cases hb : E.blocks = 0
  · rw [decide_eq_true hb]
    repeat' first | refine adv ?_ | refine Side.go ?_ | refine Giv.mk fun _ => ?_ | refine All.mk fun q => ?_ | refine Fork.mk ?_ ?_ | (refine Two.mk (fun h => ?_) (fun h => ?_) <;> try first | contradiction | (exfalso; omega))
    exact endQ.oneW Tryz.results116 ⟨⟨0, rfl⟩, rfl⟩ (fun w h => emO_close (E.prune t) (rm, vs) (by rw [Em.prune, if_pos hb]; exact hr) (by rw [Em.prune, if_pos hb]; exact goes w h))
  rw [decide_eq_false hb]
  have hE : E.prune t = { E with vs := E.vs.map fun e => (e.1, pruneL t e.2) } := by rw [Em.prune, if_neg hb]
  repeat' first | refine adv ?_ | refine Side.go ?_ | refine Giv.mk fun _ => ?_ | refine All.mk fun q => ?_ | refine Fork.mk ?_ ?_ | (refine Two.mk (fun h => ?_) (fun h => ?_) <;> try first | contradiction | (exfalso; omega))
  rename_i it bs
  obtain ⟨ck, hck⟩ : ∃ p, p = q := ⟨q, rfl⟩
  subst hck
  refine Sy_loop (ι := {st : ((List Int × List Int) × List (Int × Sl Ver)) × Int // (0 ≤ st.2 ∧ st.2 ≤ st.1.1.1.length * 2000000) ∧ st.1.2.map (·.1) = vs.map (·.1) ∧ ∀ k x, vget vs k = some x → ∃ x', vget st.1.2 k = some x' ∧ x'.xs.map Ver.v = if k ∈ st.1.1.1 then pruneL t (x.xs.map Ver.v) else x.xs.map Ver.v})
    (fun st => [(14, .pointer (some ⟨it, 0, none⟩)), (4, .int .i64 st.1.2), (0, .pointer (some ⟨m, 0, none⟩)), (1, .int .i64 t)])
    (fun st => iterO it rm ((vmap Sl.val vs).map (·.1)) bs ck st.1.1.1.1 st.1.1.1.2 :: mapB rm (vmap Sl.val st.1.1.2) bs ck :: cells true m 0 [.int .i64 E.blocks, .map (some rm), .int .i64 E.last] :: bigS (fun q : Int × Sl Ver => ownS q.2) st.1.1.2 :: F)
    (fun st => st.1.1.1.2.length) ⟨((([], (vmap Sl.val vs).map (·.1)), vs), 0), ⟨Int.le_refl _, by simp⟩, rfl, fun k x hx => ⟨x, hx, by rw [if_neg (by simp)]⟩⟩ (evs rfl (evs rfl (evs rfl (evs rfl .nil)))) (fun w h => goes w h) ?_
  rintro ⟨⟨⟨⟨done, rest⟩, vs'⟩, n⟩, ⟨hn0, hn1⟩, hkeys, hgets⟩ env
  dsimp only [upds] at hn0 hn1 hkeys hgets ⊢
  haveI : KeysIs (vmap Sl.val vs') ((vmap Sl.val vs).map (·.1)) := ⟨by rw [vmap_keys, vmap_keys, hkeys]⟩
  refine Sy_know (fun B w h => iter_perm (i := it) (m := rm) (ks := (vmap Sl.val vs).map (fun e : Int × Value => e.1)) (bs := bs) (ck := ck) (done := done) (rest := rest) B w h) (fun hperm => ?_)
  have hdl : done.length ≤ 1000000 := by
    have := hperm.length_eq
    rw [List.length_append, List.length_map, vmap, List.length_map] at this
    omega
  repeat' first | refine adv ?_ | refine Side.go ?_ | refine Giv.mk fun _ => ?_ | refine All.mk fun q => ?_ | refine Fork.mk ?_ ?_ | (refine Two.mk (fun h => ?_) (fun h => ?_) <;> try first | contradiction | (exfalso; omega))
  refine NextG.mk (fun h0 => ?_) (fun k y rest' hp hg => ?_)
  · subst h0
    repeat' first | refine adv ?_ | refine Side.go ?_ | refine Giv.mk fun _ => ?_ | refine All.mk fun q => ?_ | refine Fork.mk ?_ ?_ | (refine Two.mk (fun h => ?_) (fun h => ?_) <;> try first | contradiction | (exfalso; omega))
    have hfin : EmR.v (rm, vs') = (E.prune t).vs := by
      rw [hE]
      dsimp only
      rw [← hr]
      refine list_ext ?_ ?_ ?_
      · simp only [EmR.v, List.map_map]
        exact hkeys
      · rw [show (EmR.v (rm, vs')).map (·.1) = vs'.map (·.1) from by simp [EmR.v, Function.comp_def], hkeys]; exact hn
      · intro k hk
        have hkv : k ∈ vs.map (·.1) := by rw [← hkeys]; simpa [EmR.v, Function.comp_def] using hk
        obtain ⟨x, hx, hxm⟩ := vget_mem hkv
        obtain ⟨x', hx', he'⟩ := hgets k x hx
        have hkd : k ∈ done := by
          have : k ∈ (vmap Sl.val vs).map (·.1) := by rw [vmap_keys]; exact hkv
          have h2 := hperm.symm.subset this
          simpa using h2
        rw [if_pos hkd] at he'
        have e1 : vget (EmR.v (rm, vs')) k = some (x'.xs.map Ver.v) := by
          have := vget_vv vs' k; rw [hx'] at this; exact this
        have e2 : vget (EmR.v (rm, vs)) k = some (x.xs.map Ver.v) := by
          have := vget_vv vs k; rw [hx] at this; exact this
        rw [e1, vget_mapv, e2, he']; rfl
    refine endQ.oneW Tryz.results116 ⟨⟨_, rfl⟩, rfl⟩ (fun w h => emO_close (E.prune t) (rm, vs') hfin ?_)
    have h2 : sat B (mapB rm (vmap Sl.val vs') bs ck :: cells true m 0 [.int .i64 E.blocks, .map (some rm), .int .i64 E.last] :: bigS (fun q : Int × Sl Ver => ownS q.2) vs' :: F) w := goes w h
    rw [hE]
    exact goes w (mapO_of h2)
  · have hkn : k ∉ done := by
      have h1 : (done ++ rest).Nodup := hperm.nodup_iff.2 (by rw [vmap_keys]; exact hn)
      have h2 := (hp.append_left done).nodup_iff.1 h1
      rw [List.nodup_append] at h2
      exact fun h => h2.2.2 k h k (List.mem_cons_self ..) rfl
    have hn' : (vs'.map (·.1)).Nodup := by rw [hkeys]; exact hn
    obtain ⟨x, hx, rfl⟩ : ∃ x, vget vs' k = some x ∧ y = x.val := by
      have := hg.h
      rw [mget_vmap] at this
      cases hv : vget vs' k with
      | none => rw [hv] at this; cases this
      | some x => rw [hv] at this; exact ⟨x, rfl, (Option.some.inj this).symm⟩
    obtain ⟨x0, hx0, hxm0⟩ := vget_mem (vs := vs) (k := k) (by rw [← hkeys]; exact List.mem_map.2 ⟨_, vget_memE hx, rfl⟩)
    have hxe : x.xs.map Ver.v = x0.xs.map Ver.v := by
      obtain ⟨x', hx', he'⟩ := hgets k x0 hx0
      rw [hx] at hx'; cases hx'
      rw [he', if_neg hkn]
    have hxl := hve _ hxm0
    dsimp only at hxl
    have hxl2 : x.xs.length = x0.xs.length := by have := congrArg List.length hxe; simpa using this
    have hat := atGo_le (x.xs.map Ver.v) t x.xs.length
    refine SyO_conv (take_some hn' hx) ?_
    repeat' first | refine adv ?_ | refine Side.go ?_ | refine Giv.mk fun _ => ?_ | refine All.mk fun q => ?_ | refine Fork.mk ?_ ?_ | (refine Two.mk (fun h => ?_) (fun h => ?_) <;> try first | contradiction | (exfalso; omega))
    refine CallG.use (ext_at m rm (.int .i64 E.blocks) (.int .i64 E.last) (vmap Sl.val vs') bs ck k t x (by omega)) ?_
    rintro r M ⟨rfl, rfl⟩
    dsimp only [lcA, lnA]
    by_cases h0 : 0 < atGo (x.xs.map Ver.v) t x.xs.length
    · obtain ⟨i, hi⟩ : ∃ i : Nat, atGo (x.xs.map Ver.v) t x.xs.length = i := ⟨(atGo (x.xs.map Ver.v) t x.xs.length).toNat, by omega⟩
      have hil : i ≤ x.xs.length := by omega
      rw [hi]
      repeat' first | refine adv ?_ | refine Side.go ?_ | refine Giv.mk fun _ => ?_ | refine All.mk fun q => ?_ | refine Fork.mk ?_ ?_ | (refine Two.mk (fun h => ?_) (fun h => ?_) <;> try first | contradiction | (exfalso; omega))
      refine RP_conv (freezeS x) ?_
      repeat' first | refine adv ?_ | refine Side.go ?_ | refine Giv.mk fun _ => ?_ | refine All.mk fun q => ?_ | refine Fork.mk ?_ ?_ | (refine Two.mk (fun h => ?_) (fun h => ?_) <;> try first | contradiction | (exfalso; omega))
      rw [List.take_length]
      refine CallG.use (clone_vers (⟨q, x.c - i, x.xs.drop i⟩ : Sl Ver) (by rw [List.length_drop]; omega)) ?_
      rintro r M ⟨a2, c2, rfl, rfl⟩
      dsimp only [lcA, lnA]
      repeat' first | refine adv ?_ | refine Side.go ?_ | refine Giv.mk fun _ => ?_ | refine All.mk fun q => ?_ | refine Fork.mk ?_ ?_ | (refine Two.mk (fun h => ?_) (fun h => ?_) <;> try first | contradiction | (exfalso; omega))
      refine loopQ.next ⟨(((done ++ [k], rest'), vset vs' k ⟨a2, c2, x.xs.drop i⟩), n + i), ⟨by dsimp only; omega, by dsimp only; rw [List.length_append, List.length_singleton]; omega⟩, ?_, ?_⟩ (by have := hp.length_eq; simp only [List.length_cons] at this ⊢; omega) (evs rfl (evs rfl (evs rfl (evs rfl .nil)))) (fun w h => ?_)
      · dsimp only
        rw [vset_keys_eq, if_pos (List.mem_map.2 ⟨_, vget_memE hx, rfl⟩), hkeys]
      · intro k2 x2 hx2
        dsimp only
        by_cases hk2 : k2 = k
        · subst hk2
          rw [hx0] at hx2; cases hx2
          refine ⟨_, vget_vset _ _ _, ?_⟩
          have h1 : atGo (x0.xs.map Ver.v) t (x0.xs.map Ver.v).length = i := by rw [List.length_map, ← hxl2, ← hxe]; exact hi
          rw [if_pos (by simp), pruneL, h1, if_pos (by omega), Int.toNat_natCast, ← hxe, List.map_drop]
        · obtain ⟨x', hx', he'⟩ := hgets k2 x2 hx2
          refine ⟨x', by rw [vget_vset_ne _ _ hk2]; exact hx', ?_⟩
          rw [he']
          have : (k2 ∈ done ++ [k]) ↔ k2 ∈ done := by simp [hk2]
          simp only [this]
      · have h2 : sat B (mapB rm (mset (vmap Sl.val vs') k (⟨a2, c2, x.xs.drop i⟩ : Sl Ver).val) bs ck :: ownS (⟨a2, c2, x.xs.drop i⟩ : Sl Ver) :: bigS (fun q : Int × Sl Ver => ownS q.2) (vdel vs' k) :: iterO it rm ((vmap Sl.val vs).map (·.1)) bs ck (done ++ [k]) rest' :: cells true m 0 [.int .i64 E.blocks, .map (some rm), .int .i64 E.last] :: F) w := goes w h
        rw [mset_vmap Sl.val vs' k (⟨a2, c2, x.xs.drop i⟩ : Sl Ver)] at h2
        have h3 : sat B (ownS (⟨a2, c2, x.xs.drop i⟩ : Sl Ver) :: bigS (fun q : Int × Sl Ver => ownS q.2) (vdel vs' k) :: mapB rm (vmap Sl.val (vset vs' k (⟨a2, c2, x.xs.drop i⟩ : Sl Ver))) bs ck :: iterO it rm ((vmap Sl.val vs).map (·.1)) bs ck (done ++ [k]) rest' :: cells true m 0 [.int .i64 E.blocks, .map (some rm), .int .i64 E.last] :: F) w := goes w h2
        exact goes w (put_own vs' k (⟨a2, c2, x.xs.drop i⟩ : Sl Ver) hn' h3)
    · repeat' first | refine adv ?_ | refine Side.go ?_ | refine Giv.mk fun _ => ?_ | refine All.mk fun q => ?_ | refine Fork.mk ?_ ?_ | (refine Two.mk (fun h => ?_) (fun h => ?_) <;> try first | contradiction | (exfalso; omega))
      refine loopQ.next ⟨(((done ++ [k], rest'), vs'), n), ⟨hn0, by dsimp only; rw [List.length_append, List.length_singleton]; omega⟩, hkeys, ?_⟩ (by have := hp.length_eq; simp only [List.length_cons] at this ⊢; omega) (evs rfl (evs rfl (evs rfl (evs rfl .nil)))) (fun w h => ?_)
      · intro k2 x2 hx2
        dsimp only
        by_cases hk2 : k2 = k
        · subst hk2
          rw [hx0] at hx2; cases hx2
          refine ⟨x, hx, ?_⟩
          have h1 : ¬ 0 < atGo (x0.xs.map Ver.v) t (x0.xs.map Ver.v).length := by rw [List.length_map, ← hxl2, ← hxe]; exact h0
          rw [if_pos (by simp), pruneL, if_neg h1, hxe]
        · obtain ⟨x', hx', he'⟩ := hgets k2 x2 hx2
          refine ⟨x', hx', ?_⟩
          rw [he']
          have : (k2 ∈ done ++ [k]) ↔ k2 ∈ done := by simp [hk2]
          simp only [this]
      · have h2 : sat B (ownS x :: bigS (fun q : Int × Sl Ver => ownS q.2) (vdel vs' k) :: mapB rm (vmap Sl.val vs') bs ck :: iterO it rm ((vmap Sl.val vs).map (·.1)) bs ck (done ++ [k]) rest' :: cells true m 0 [.int .i64 E.blocks, .map (some rm), .int .i64 E.last] :: F) w := goes w h
        exact goes w (untake hn' hx h2)

def Mg.prune (M : Mg) : Mg := { M with E := M.E.prune (lowOf M.K M.last) }
theorem tx_prune (m : Nat) (M : Mg) (hk : ∀ e ∈ M.E.vs, I64 e.1 ∧ 0 < e.2.length ∧ e.2.length ≤ 2000000) (hl : M.E.vs.length ≤ 1000000) : Spec Tryz.prog 73 #[.pointer (some ⟨m, 0, none⟩)] [mgO m M] (fun v L => (∃ n : Int, v = .int .i64 n) ∧ L = [mgO m M.prune]) := by
  refine enter1 Tryz.func73 rfl (by decide) (by decide) ?_
  intro B F
  dsimp only [lcA, lnA]
  refine Sy_all (fun w h => mgO_open h) (fun r => ?_)
  obtain ⟨r, hr⟩ := r
  dsimp only [mgL, List.cons_append, List.nil_append] at hr ⊢
  repeat' first | refine adv ?_ | refine Side.go ?_ | refine Giv.mk fun _ => ?_ | refine All.mk fun q => ?_ | refine Fork.mk ?_ ?_ | (refine Two.mk (fun h => ?_) (fun h => ?_) <;> try first | contradiction | (exfalso; omega))
  refine CallG.use (tx_gone m r.em (.pointer (some ⟨r.bk, 0, none⟩)) (.map (some r.rm)) (.slice r.qa M.queue.length r.qc) (.int .i64 M.out) (.int .i64 M.num) (.int .i64 M.base) (.int .i64 M.last) (.int .i64 M.given) (.bool M.ro)) ?_
  rintro r M ⟨rfl, rfl⟩
  dsimp only [lcA, lnA]
  repeat' first | refine adv ?_ | refine Side.go ?_ | refine Giv.mk fun _ => ?_ | refine All.mk fun q => ?_ | refine Fork.mk ?_ ?_ | (refine Two.mk (fun h => ?_) (fun h => ?_) <;> try first | contradiction | (exfalso; omega))
  refine CallG.use (hz_low r.bk M.K M.last) ?_
  rintro r M ⟨rfl, rfl⟩
  dsimp only [lcA, lnA]
  repeat' first | refine adv ?_ | refine Side.go ?_ | refine Giv.mk fun _ => ?_ | refine All.mk fun q => ?_ | refine Fork.mk ?_ ?_ | (refine Two.mk (fun h => ?_) (fun h => ?_) <;> try first | contradiction | (exfalso; omega))
  refine CallG.use (ext_prune r.em M.E (lowOf M.K M.last) hk hl) ?_
  rintro r M ⟨⟨n, rfl⟩, rfl⟩
  dsimp only [lcA, lnA]
  repeat' first | refine adv ?_ | refine Side.go ?_ | refine Giv.mk fun _ => ?_ | refine All.mk fun q => ?_ | refine Fork.mk ?_ ?_ | (refine Two.mk (fun h => ?_) (fun h => ?_) <;> try first | contradiction | (exfalso; omega))
  exact endQ.oneW Tryz.results73 ⟨⟨n, rfl⟩, rfl⟩ (fun w h => mgO_close { M with E := M.E.prune (lowOf M.K M.last) } r hr (goes w h))
theorem st_clean (p d Z m : Nat) (M : Mg) (sv : Value) (pos num : Nat) (hk : ∀ e ∈ M.E.vs, I64 e.1 ∧ 0 < e.2.length ∧ e.2.length ≤ 2000000) (hl : M.E.vs.length ≤ 1000000) :
    Spec Tryz.prog 34 #[.pointer (some ⟨p, 0, none⟩)] [stC p d Z (.pointer (some ⟨m, 0, none⟩)) sv pos num false, mgO m M]
      (fun v L => (∃ n : Int, v = .int .i64 n) ∧ L = [stC p d Z (.pointer (some ⟨m, 0, none⟩)) sv pos num false, mgO m M.prune]) := by
  refine enter1 Tryz.func34 rfl (by decide) (by decide) ?_
  intro B F
  dsimp only [lcA, lnA]
  dsimp only [stC]
  repeat' first | refine adv ?_ | refine Side.go ?_ | refine Giv.mk fun _ => ?_ | refine All.mk fun q => ?_ | refine Fork.mk ?_ ?_ | (refine Two.mk (fun h => ?_) (fun h => ?_) <;> try first | contradiction | (exfalso; omega))
  refine CallG.use (st_dead p d Z (.pointer (some ⟨m, 0, none⟩)) sv pos num false) ?_
  rintro r M ⟨rfl, rfl⟩
  dsimp only [lcA, lnA]
  dsimp only [stC]
  repeat' first | refine adv ?_ | refine Side.go ?_ | refine Giv.mk fun _ => ?_ | refine All.mk fun q => ?_ | refine Fork.mk ?_ ?_ | (refine Two.mk (fun h => ?_) (fun h => ?_) <;> try first | contradiction | (exfalso; omega))
  refine CallG.use (tx_prune m M hk hl) ?_
  rintro r M ⟨⟨n, rfl⟩, rfl⟩
  dsimp only [lcA, lnA]
  repeat' first | refine adv ?_ | refine Side.go ?_ | refine Giv.mk fun _ => ?_ | refine All.mk fun q => ?_ | refine Fork.mk ?_ ?_ | (refine Two.mk (fun h => ?_) (fun h => ?_) <;> try first | contradiction | (exfalso; omega))
  exact endQ.oneW Tryz.results34 ⟨⟨n, rfl⟩, rfl⟩ (fun w h => goes w h)
theorem sto_clean (p d Z S : Nat) (T : SS) (hoff : T.off = false) (hk : ∀ e ∈ T.M.E.vs, I64 e.1 ∧ 0 < e.2.length ∧ e.2.length ≤ 2000000) (hl : T.M.E.vs.length ≤ 1000000) :
    Spec Tryz.prog 34 #[.pointer (some ⟨p, 0, none⟩)] [stO p d Z S T] (fun v L => (∃ n : Int, v = .int .i64 n) ∧ L = [stO p d Z S { T with M := T.M.prune }]) := by
  refine Spec.wrap (R := []) (fun B F w h => sto_open2 B F w h) (fun q => by rw [hoff]; exact st_clean p d Z q.1.1 T.M (.pointer (some ⟨q.1.2.1, 0, none⟩)) T.pos T.num hk hl) ?_
  rintro q v L ⟨hn, rfl⟩
  refine ⟨_, ⟨hn, rfl⟩, fun B F w h => ?_⟩
  have := sto_close2 q B F w h
  rwa [← hoff] at this
end Go.SL
namespace Go.SL
open Go.Proofs

theorem leN_congr {a b : List UInt8} : ∀ n, (∀ i, i < n → a[i]? = b[i]?) → leN a n = leN b n
  | 0, _ => rfl
  | n + 1, h => by rw [leN, leN, leN_congr n (fun i hi => h i (by omega)), h n (by omega)]
theorem leN_leB_aux (v m : Nat) : ∀ n, n ≤ m → leN (leB v m) n = v % 2 ^ (8 * n)
  | 0, _ => by simp [leN, Nat.mod_one]
  | n + 1, h => by
    rw [leN, leN_leB_aux v m n (by omega)]
    have e : (leB v m)[n]? = some (UInt8.ofNat (v / 2 ^ (8 * n) % 256)) := by
      rw [List.getElem?_eq_getElem (by rw [leB_length]; omega)]
      simp only [leB, List.getElem_map, List.getElem_range]
    rw [e, Option.getD_some, UInt8.toNat_ofNat']
    have e2 : 2 ^ (8 * (n + 1)) = 2 ^ (8 * n) * 256 := by rw [Nat.mul_add, Nat.pow_add]
    rw [e2, Nat.mod_mul]
    have e3 : v / 2 ^ (8 * n) % 256 % 2 ^ 8 = v / 2 ^ (8 * n) % 256 := Nat.mod_eq_of_lt (by omega)
    rw [e3, Nat.mul_comm (2 ^ (8 * n))]
theorem leN_leB {v n : Nat} (h : v < 2 ^ (8 * n)) : leN (leB v n) n = v := by rw [leN_leB_aux v n n (Nat.le_refl _), Nat.mod_eq_of_lt h]
theorem getR_leB {v n : Nat} (h : v < 2 ^ (8 * n)) (r : List UInt8) : getR (leB v n ++ r) n = v := by
  unfold getR
  rw [if_neg (by simp [leB_length])]
  rw [leN_congr (b := leB v n) n (fun i hi => List.getElem?_append_left (by rw [leB_length]; exact hi)), leN_leB h]

theorem encP_shape (k e s l : Nat) (b : List UInt8) : encP k e s l b = UInt8.ofNat k :: UInt8.ofNat b.length :: (leB e 4 ++ (leB s 8 ++ (leB l 4 ++ (b ++ List.replicate (60 - (18 + b.length)) 0)))) := by
  unfold encP
  rw [encH_len]
  simp [encH]
theorem encB_shape (k e s l : Nat) (b : List UInt8) : encB k e s l b = UInt8.ofNat k :: UInt8.ofNat b.length :: (leB e 4 ++ (leB s 8 ++ (leB l 4 ++ (b ++ (List.replicate (60 - (18 + b.length)) 0 ++ leB (crcOf (encP k e s l b)) 4))))) := by
  unfold encB
  rw [encP_shape]
  simp
theorem drop_pre {α : Type} (a b : List α) (n : Nat) (h : a.length = n) : (a ++ b).drop n = b := by subst h; simp
theorem take_pre {α : Type} (a b : List α) (n : Nat) (h : a.length = n) : (a ++ b).take n = a := by subst h; simp

theorem cut_enc {k e s l : Nat} {b : List UInt8} (h : encOk k e s l) (hb : b.length ≤ 40) : cutB (encB k e s l b) = (k, e, s, l, b) := by
  obtain ⟨⟨k0, k1⟩, he, hs, hl⟩ := h
  unfold cutB
  have h0 : (encB k e s l b)[0]? = some (UInt8.ofNat k) := by rw [encB_shape]; rfl
  have h1 : (encB k e s l b)[1]? = some (UInt8.ofNat b.length) := by rw [encB_shape]; rfl
  rw [h0, h1]
  simp only [Option.getD_some, UInt8.toNat_ofNat']
  have d2 : (encB k e s l b).drop 2 = leB e 4 ++ (leB s 8 ++ (leB l 4 ++ (b ++ (List.replicate (60 - (18 + b.length)) 0 ++ leB (crcOf (encP k e s l b)) 4)))) := by rw [encB_shape]; rfl
  have d6 : (encB k e s l b).drop 6 = leB s 8 ++ (leB l 4 ++ (b ++ (List.replicate (60 - (18 + b.length)) 0 ++ leB (crcOf (encP k e s l b)) 4))) := by
    rw [show 6 = 2 + 4 from rfl, ← List.drop_drop, d2, drop_pre _ _ 4 (leB_length e 4)]
  have d14 : (encB k e s l b).drop 14 = leB l 4 ++ (b ++ (List.replicate (60 - (18 + b.length)) 0 ++ leB (crcOf (encP k e s l b)) 4)) := by
    rw [show 14 = 6 + 8 from rfl, ← List.drop_drop, d6, drop_pre _ _ 8 (leB_length s 8)]
  have d18 : (encB k e s l b).drop 18 = b ++ (List.replicate (60 - (18 + b.length)) 0 ++ leB (crcOf (encP k e s l b)) 4) := by
    rw [show 18 = 14 + 4 from rfl, ← List.drop_drop, d14, drop_pre _ _ 4 (leB_length l 4)]
  rw [d2, d6, d14, getR_leB (by omega), getR_leB (by omega), getR_leB (by omega)]
  have hbl : b.length % 2 ^ 8 = b.length := Nat.mod_eq_of_lt (by omega)
  have hkl : k % 2 ^ 8 = k := Nat.mod_eq_of_lt (by omega)
  rw [hbl, hkl, List.drop_take, d18, Nat.add_sub_cancel_left, take_pre _ _ _ rfl]
theorem dec_enc {k e s l : Nat} {b : List UInt8} (h : encOk k e s l) (hb : b.length ≤ 40) : decOk (encB k e s l b) := by
  unfold decOk
  rw [cut_enc h hb]
  refine ⟨encB_len k e s l b hb, ?_, h.2.2.1, h, rfl⟩
  have h1 : (encB k e s l b)[1]? = some (UInt8.ofNat b.length) := by rw [encB_shape]; rfl
  rw [h1, Option.getD_some, UInt8.toNat_ofNat', Nat.mod_eq_of_lt (by omega)]
  exact hb
theorem enc_first (k e s l : Nat) (b : List UInt8) (hk : k < 256) : ((encB k e s l b)[0]?.getD 0).toNat = k := by
  have h0 : (encB k e s l b)[0]? = some (UInt8.ofNat k) := by rw [encB_shape]; rfl
  rw [h0, Option.getD_some, UInt8.toNat_ofNat', Nat.mod_eq_of_lt (by omega)]

end Go.SL
namespace Go.SL
open Go.Proofs

def allPuts (l : List TV) : List PV := l.flatMap (·.2)
theorem allPuts_cons (t : TV) (l : List TV) : allPuts (t :: l) = t.2 ++ allPuts l := rfl
theorem encPuts_eq (ep num : Nat) : ∀ l : List TV, encPuts ep num l = (allPuts l).map fun p => encB 1 ep num p.1.toNat p.2
  | [] => rfl
  | t :: l => by rw [encPuts_cons, allPuts_cons, List.map_append, encPuts_eq ep num l]
def goodPut (p : PV) : Prop := (0 ≤ p.1 ∧ p.1 ≤ 1048576) ∧ p.2.length = 40
theorem row_puts {ep num : Nat} (he : ep ≤ 4294967295) (hn : num ≤ 1099511627776) (R : List (List UInt8)) : ∀ (qs : List PV) (i : Nat) (f : Nat × Nat) (acc : List PV), (∀ p ∈ qs, goodPut p) → (i = 0 ∨ f = (ep, num)) →
    rowGo i f acc (qs.map (fun p => encB 1 ep num p.1.toNat p.2) ++ R) = rowGo (i + qs.length) (if qs = [] then f else (ep, num)) (acc ++ qs) R
  | [], i, f, acc, _, _ => by simp
  | p :: qs, i, f, acc, hg, hf => by
    obtain ⟨⟨h0, h1⟩, h40⟩ := hg p (List.mem_cons_self ..)
    have hok : encOk 1 ep num p.1.toNat := ⟨by decide, he, hn, by omega⟩
    rw [List.map_cons, List.cons_append, rowGo, if_neg (fun h => h (dec_enc hok (by omega))), cut_enc hok (by omega)]
    dsimp only
    have h2 : ¬ (i ≠ 0 ∧ (ep ≠ f.1 ∨ num ≠ f.2)) := by
      rintro ⟨hi, hx⟩
      rcases hf with h | h
      · exact hi h
      · subst h; simp at hx
    rw [if_neg h2, if_neg (by decide)]
    have h3 : (if i = 0 then (ep, num) else f) = (ep, num) := by
      split
      · rfl
      · rename_i hi; rcases hf with h | h
        · exact absurd h hi
        · exact h
    rw [h3, row_puts he hn R qs (i + 1) (ep, num) _ (fun q hq => hg q (List.mem_cons_of_mem _ hq)) (.inr rfl)]
    have h4 : (((p.1.toNat : Nat) : Int), p.2) = p := by rw [Int.toNat_of_nonneg h0]
    rw [h4]
    have h5 : (if qs = [] then (ep, num) else (ep, num)) = (ep, num) := by split <;> rfl
    rw [h5, if_neg (by simp), List.append_assoc]
    simp only [List.length_cons, List.singleton_append]
    rw [show i + 1 + qs.length = i + (qs.length + 1) from by omega]
theorem row_end {ep num n : Nat} {body : List UInt8} (hok : encOk 2 ep num n) (hb : body.length ≤ 40) (R : List (List UInt8)) (i : Nat) (f : Nat × Nat) (acc : List PV) (hf : i = 0 ∨ f = (ep, num)) :
    rowGo i f acc (encB 2 ep num n body :: R) = (acc, (2, ep, num, n, body), true) := by
  rw [rowGo, if_neg (fun h => h (dec_enc hok hb)), cut_enc hok hb]
  dsimp only
  have h2 : ¬ (i ≠ 0 ∧ (ep ≠ f.1 ∨ num ≠ f.2)) := by
    rintro ⟨hi, hx⟩
    rcases hf with h | h
    · exact hi h
    · subst h; simp at hx
  rw [if_neg h2, if_pos (by decide)]

def Chain : Int → List TV → Prop
  | _, [] => True
  | q, t :: ts => (q ≤ t.1 ∧ t.1 - q ≤ 65535) ∧ t.2.length ≤ 16 ∧ Chain t.1 ts
theorem stepB_len : ∀ (q : Int) (l : List TV), (stepB q l).length = 2 * l.length
  | _, [] => rfl
  | q, t :: l => by rw [stepB, List.length_cons, List.length_cons, stepB_len t.1 l, List.length_cons]; omega
theorem chain_of : ∀ {l : List TV} {q z : Int}, stepsGo q l = true → orderOk z l = true → (∀ t, l.head? = some t → q ≤ t.1) → Chain q l
  | [], _, _, _, _, _ => trivial
  | t :: ts, q, z, hs, ho, hq => by
    rw [stepsGo] at hs
    rw [orderOk] at ho
    split at hs
    · cases hs
    split at ho
    · cases ho
    rw [Bool.and_eq_true] at ho
    rename_i h1 h2
    refine ⟨⟨hq t rfl, by omega⟩, by omega, chain_of hs ho.2 (fun u hu => ?_)⟩
    cases ts with
    | nil => cases hu
    | cons v vs =>
      simp only [List.head?_cons, Option.some.injEq] at hu
      subst hu
      have h3 := ho.2
      rw [orderOk] at h3
      split at h3
      · cases h3
      · omega
theorem cut_txs : ∀ (r : List TV) (i : Nat) (q : Nat) (sp cp : List UInt8) (acc : List TV), sp.length = 2 * i → cp.length = i → Chain q r → (∀ t ∈ r, 0 ≤ t.1) → (i = 0 → ∀ t, r.head? = some t → t.1 = q) →
    cutTxs r.length i q (sp ++ stepB q r) (cp ++ r.map fun t => UInt8.ofNat t.2.length) (allPuts r) acc = some (acc ++ r, [])
  | [], i, q, sp, cp, acc, _, _, _, _, _ => by simp [cutTxs, allPuts]
  | t :: r, i, q, sp, cp, acc, hs, hc, ⟨⟨hq, hd⟩, h16, hch⟩, h0, hi => by
    rw [List.length_cons, cutTxs]
    have hci : (cp ++ (t :: r).map fun t => UInt8.ofNat t.2.length)[i]? = some (UInt8.ofNat t.2.length) := by
      rw [List.getElem?_append_right (by omega), hc, Nat.sub_self]; rfl
    have hs0 : (sp ++ stepB q (t :: r))[2 * i]? = some (UInt8.ofNat (t.1 - q).toNat) := by
      rw [List.getElem?_append_right (by omega), hs, Nat.sub_self]; rfl
    have hs1 : (sp ++ stepB q (t :: r))[2 * i + 1]? = some (UInt8.ofNat ((t.1 - q).toNat / 256)) := by
      rw [List.getElem?_append_right (by omega), hs, Nat.add_sub_cancel_left]; rfl
    have hcn : (UInt8.ofNat t.2.length).toNat = t.2.length := by rw [UInt8.toNat_ofNat', Nat.mod_eq_of_lt (by omega)]
    have hcond : ¬ ((allPuts (t :: r)).length < (UInt8.ofNat t.2.length).toNat ∨ (i = 0 ∧ (((sp ++ stepB q (t :: r))[0]?.getD 0) ||| ((sp ++ stepB q (t :: r))[1]?.getD 0)) ≠ 0)) := by
      rintro (h | ⟨hi0, h⟩)
      · rw [hcn, allPuts_cons, List.length_append] at h; omega
      · subst hi0
        have hz := hi rfl t rfl
        rw [Nat.mul_zero] at hs0 hs1
        rw [hs0, hs1, hz] at h
        simp at h
    rw [hci, hs0, hs1, Option.getD_some, Option.getD_some, Option.getD_some, if_neg hcond, hcn]
    have htm : q + (UInt8.ofNat (t.1 - q).toNat).toNat + 256 * (UInt8.ofNat ((t.1 - q).toNat / 256)).toNat = t.1.toNat := by
      rw [UInt8.toNat_ofNat', UInt8.toNat_ofNat']; omega
    have ht0 := h0 t (List.mem_cons_self ..)
    rw [htm, allPuts_cons, List.drop_left, List.take_left]
    have e1 : ((t.1.toNat : Nat) : Int) = t.1 := Int.toNat_of_nonneg ht0
    have ih := cut_txs r (i + 1) t.1.toNat (sp ++ [UInt8.ofNat (t.1 - q).toNat, UInt8.ofNat ((t.1 - q).toNat / 256)]) (cp ++ [UInt8.ofNat t.2.length]) (acc ++ [t]) (by simp; omega) (by simp; omega) (by rw [e1]; exact hch)
      (fun u hu => h0 u (List.mem_cons_of_mem _ hu)) (by omega)
    rw [e1] at ih ⊢
    have e2 : sp ++ stepB q (t :: r) = sp ++ [UInt8.ofNat (t.1 - q).toNat, UInt8.ofNat ((t.1 - q).toNat / 256)] ++ stepB t.1 r := by rw [stepB]; simp
    rw [e2, List.map_cons]
    simp only [List.append_assoc, List.singleton_append] at ih ⊢
    exact ih

theorem body_len {l : List TV} : (bodyOf l).length = 9 + 3 * l.length := by
  unfold bodyOf
  simp only [List.length_append, leB_length, List.length_cons, List.length_nil, stepB_len, List.length_map]; omega
theorem checkB_parts {num : Int} {l : List TV} (h : checkB num l = true) : orderOk 0 l = true ∧ stepsGo (firstOf l) l = true := by
  have h1 : ¬ (num < 1 ∨ 1099511627776 < num ∨ l.length = 0 ∨ 8 < l.length ∨ orderOk 0 l = false ∨ 33 < blocksN l) := by
    intro hc; rw [checkB, if_pos hc] at h; cases h
  rw [checkB, if_neg h1] at h
  refine ⟨?_, h⟩
  cases hc : orderOk 0 l with
  | true => rfl
  | false => exact absurd (.inr (.inr (.inr (.inr (.inl hc))))) h1
theorem allPuts_mem {l : List TV} {p : PV} (h : p ∈ allPuts l) : ∃ t ∈ l, p ∈ t.2 := by simpa [allPuts] using h
theorem batch_of {num : Nat} {l : List TV} (h : checkB num l = true) (ep : Nat) : batchOf (2, ep, num, (allPuts l).length, bodyOf l) (allPuts l) = some l := by
  have g := checkB_good h
  obtain ⟨ho, hs⟩ := checkB_parts h
  have hl0 := g.len0
  have hl8 := g.len1
  obtain ⟨t, r, rfl⟩ : ∃ t r, l = t :: r := by cases l with
    | nil => simp at hl0
    | cons t r => exact ⟨t, r, rfl⟩
  have hft : firstOf (t :: r) = t.1 := rfl
  have htt := g.time t (List.mem_cons_self ..)
  have h8 : (bodyOf (t :: r))[8]?.getD 0 = UInt8.ofNat (t :: r).length := by
    unfold bodyOf
    rw [List.getElem?_append_left (by simp [leB_length, stepB_len]), List.getElem?_append_left (by simp [leB_length]), List.getElem?_append_right (by simp [leB_length]), leB_length]; rfl
  have h8n : (UInt8.ofNat (t :: r).length).toNat = (t :: r).length := by rw [UInt8.toNat_ofNat', Nat.mod_eq_of_lt (by omega)]
  unfold batchOf
  dsimp only
  rw [if_neg (by rw [body_len]; simp), h8, h8n, body_len, if_neg (by simp)]
  have hN : leN (bodyOf (t :: r)) 8 = t.1.toNat := by
    rw [leN_congr (b := leB t.1.toNat 8) 8 (fun i hi => by
      unfold bodyOf
      rw [List.getElem?_append_left (by simp [leB_length, stepB_len]; omega), List.getElem?_append_left (by simp [leB_length]; omega), List.getElem?_append_left (by simp [leB_length]; omega)]; rfl), leN_leB (by omega)]
  have e1 : ((bodyOf (t :: r)).take (9 + 2 * (t :: r).length)).drop 9 = stepB t.1 (t :: r) := by
    unfold bodyOf
    rw [take_pre _ _ _ (by simp only [List.length_append, leB_length, List.length_cons, List.length_nil, stepB_len]), drop_pre _ _ 9 (by simp [leB_length])]; rfl
  have e2 : (bodyOf (t :: r)).drop (9 + 2 * (t :: r).length) = (t :: r).map fun t => UInt8.ofNat t.2.length := by
    unfold bodyOf
    rw [drop_pre _ _ _ (by simp only [List.length_append, leB_length, List.length_cons, List.length_nil, stepB_len])]
  have hmin : min (leN (bodyOf (t :: r)) 8) 4611686018427387904 = t.1.toNat := by rw [hN]; omega
  rw [hmin, e1, e2]
  have e3 : ((t.1.toNat : Nat) : Int) = t.1 := Int.toNat_of_nonneg (by omega)
  have hcut := cut_txs (t :: r) 0 t.1.toNat [] [] [] rfl rfl (by rw [e3]; exact chain_of hs ho (fun u hu => by cases hu; exact Int.le_refl _)) (fun u hu => by have := g.time u hu; omega) (fun _ u hu => by cases hu; rw [e3])
  rw [e3] at hcut
  simp only [List.nil_append] at hcut
  rw [hcut]
  dsimp only
  rw [if_pos ⟨rfl, h⟩]
theorem enc_len_le {l : List TV} (h : blocksN l ≤ 33) : (allPuts l).length ≤ 32 := by
  have : (allPuts l).length = (l.map (·.2.length)).sum := by
    unfold allPuts; rw [List.length_flatMap]
  unfold blocksN at h
  omega
theorem decode_enc {ep num : Nat} {l : List TV} (h : checkB num l = true) (he : ep ≤ 4294967295) (R : List (List UInt8)) : decodeOf (encBatch ep num l ++ R) = some (num, ep, (encBatch ep num l).length, l) := by
  have g := checkB_good h
  have hl8 := g.len1
  have hn := g.num1
  have hp := enc_len_le g.blocks
  have hlen : (encPuts ep num l).length = (allPuts l).length := by rw [encPuts_eq, List.length_map]
  have hok : encOk 2 ep num (allPuts l).length := ⟨by decide, he, by omega, by omega⟩
  have hrow : rowGo 0 (0, 0) [] (encBatch ep num l ++ R) = (allPuts l, (2, ep, num, (allPuts l).length, bodyOf l), true) := by
    unfold encBatch
    rw [hlen, encPuts_eq, List.append_assoc, row_puts he (by omega) _ (allPuts l) 0 (0, 0) [] (fun p hp => by
      obtain ⟨t, ht, hpt⟩ := allPuts_mem hp
      exact (g.puts t ht).2 p hpt) (.inl rfl)]
    rw [List.nil_append, List.singleton_append, row_end hok (by rw [body_len]; omega)]
    by_cases hq : allPuts l = []
    · rw [hq]; exact .inl rfl
    · rw [if_neg hq]; exact .inr rfl
  unfold decodeOf
  rw [hrow, if_neg (by simp)]
  dsimp only
  rw [batch_of h ep, Option.map_some]
  unfold encBatch
  rw [List.length_append, hlen]; rfl
end Go.SL
namespace Go.SL
open Go.Proofs
set_option synthInstance.maxSize 4000
set_option synthInstance.maxHeartbeats 400000
set_option maxRecDepth 4000
set_option maxHeartbeats 2000000

def nowOf (vs : List (Int × List PV)) (k : Int) : Option (List UInt8) := (vget vs k).map fun l => (l.getLast?.getD (0, [])).2
/-- A list by key says what the newest versions say. -/
structure Same (vs : List (Int × List UInt8)) (es : List (Int × List PV)) : Prop where
  n1 : (vs.map (·.1)).Nodup
  n2 : (es.map (·.1)).Nodup
  eq : ∀ k, nowOf es k = vget vs k
theorem vget_none {α : Type} {vs : List (Int × α)} {k : Int} : vget vs k = none ↔ k ∉ vs.map (·.1) := by
  constructor
  · intro h hm
    obtain ⟨x, hx, _⟩ := vget_mem hm
    rw [h] at hx; cases hx
  · intro h
    cases hg : vget vs k with
    | none => rfl
    | some x => exact absurd (List.mem_map.2 ⟨_, vget_memE hg, rfl⟩) h
theorem Same.keys {vs : List (Int × List UInt8)} {es : List (Int × List PV)} (h : Same vs es) : (vs.map (·.1)).Perm (es.map (·.1)) := by
  rw [List.perm_ext_iff_of_nodup h.n1 h.n2]
  intro k
  have h1 := h.eq k
  have h2 : vget vs k = none ↔ vget es k = none := by
    rw [← h1]; unfold nowOf; cases vget es k <;> simp
  rw [vget_none, vget_none] at h2
  constructor
  · intro hk; apply Classical.byContradiction; intro hc; exact (h2.2 hc) hk
  · intro hk; apply Classical.byContradiction; intro hc; exact (h2.1 hc) hk
theorem sortI_perm {a b : List Int} (h : a.Perm b) : sortI a = sortI b := by
  have e : ∀ l : List Int, (sortI l).Pairwise (fun a b => decide (a ≤ b) = true) := fun l => List.pairwise_mergeSort (fun a b c h1 h2 => by simp at h1 h2 ⊢; omega) (fun a b => by simp; omega) l
  refine List.Perm.eq_of_pairwise (fun a b _ _ h1 h2 => ?_) (e a) (e b) (((List.mergeSort_perm a _).trans h).trans (List.mergeSort_perm b _).symm)
  simp at h1 h2; omega
theorem Same.dump {vs : List (Int × List UInt8)} {E : Em} (h : Same vs E.vs) (hb : 1 ≤ E.blocks) : E.dump = putsOf vs := by
  unfold Em.dump putsOf
  rw [if_neg (by omega), sortI_perm h.keys.symm]
  apply List.map_congr_left
  intro k hk
  have h1 := h.eq k
  unfold nowOf at h1
  rw [← h1]
  cases hg : vget E.vs k with
  | none => 
    have hm := (vget_none.1 hg)
    exact absurd ((h.keys.mem_iff).1 (sortI_mem.1 hk)) hm
  | some l => rfl
theorem nowOf_vput (vs : List (Int × List PV)) (k j : Int) (x : PV) : nowOf (vput vs k x) j = if j = k then some x.2 else nowOf vs j := by
  unfold nowOf vput
  rw [vget_vset_eq]
  split
  · rw [Option.map_some, List.getLast?_append]; simp
  · rfl
theorem Same.put {vs : List (Int × List UInt8)} {es : List (Int × List PV)} (h : Same vs es) (k : Int) (t : Int) (d : List UInt8) : Same (vset vs k d) (vput es k (t, d)) :=
  ⟨vset_nodup _ _ h.n1, vset_nodup _ _ h.n2, fun j => by rw [nowOf_vput, vget_vset_eq, h.eq]⟩
theorem Same.puts (t : Int) : ∀ (ps : List PV) {vs : List (Int × List UInt8)} {es : List (Int × List PV)}, Same vs es → Same (ps.foldl (fun vs p => vset vs p.1 p.2) vs) (ps.foldl (fun vs p => vput vs p.1 (t, p.2)) es)
  | [], _, _, h => h
  | p :: ps, _, _, h => Same.puts t ps (h.put p.1 t p.2)
/-- Lists that say the same. -/
structure Alike (a b : List (Int × List UInt8)) : Prop where
  n1 : (a.map (·.1)).Nodup
  n2 : (b.map (·.1)).Nodup
  eq : ∀ k, vget a k = vget b k
theorem Alike.same {a b : List (Int × List UInt8)} {es : List (Int × List PV)} (h : Alike a b) (s : Same b es) : Same a es := ⟨h.n1, s.n2, fun k => by rw [s.eq, h.eq]⟩
theorem putsOf_keys (vs : List (Int × List UInt8)) : (putsOf vs).map (·.1) = sortI (vs.map (·.1)) := by unfold putsOf; rw [List.map_map]; exact List.map_id _
theorem sortI_nodup {l : List Int} (h : l.Nodup) : (sortI l).Nodup := (List.mergeSort_perm l _).nodup_iff.2 h
theorem vget_map_keys {f : Int → List UInt8} : ∀ (ks : List Int) (k : Int), k ∈ ks → vget (ks.map fun k => (k, f k)) k = some (f k)
  | [], _, h => by cases h
  | a :: ks, k, h => by
    unfold vget
    rw [List.map_cons, List.find?_cons]
    by_cases hk : a = k
    · subst hk; simp
    · have : ((a, f a).1 == k) = false := by simpa using hk
      rw [this]
      rcases List.mem_cons.1 h with rfl | h
      · exact absurd rfl hk
      · exact vget_map_keys ks k h
theorem putsOf_alike {vs : List (Int × List UInt8)} (h : (vs.map (·.1)).Nodup) : Alike (putsOf vs) vs := by
  refine ⟨by rw [putsOf_keys]; exact sortI_nodup h, h, fun k => ?_⟩
  by_cases hk : k ∈ vs.map (·.1)
  · obtain ⟨x, hx, _⟩ := vget_mem hk
    unfold putsOf
    rw [vget_map_keys _ k (sortI_mem.2 hk), hx]; rfl
  · rw [vget_none.2 hk, vget_none, putsOf_keys]
    exact fun h => hk (sortI_mem.1 h)
/-- A list put together element by element. -/
theorem put_all : ∀ (l vs : List (Int × List UInt8)), (l.map (·.1)).Nodup → (vs.map (·.1)).Nodup → ((l.foldl (fun vs p => vset vs p.1 p.2) vs).map (·.1)).Nodup ∧ ∀ k, vget (l.foldl (fun vs p => vset vs p.1 p.2) vs) k = (vget l k).or (vget vs k)
  | [], vs, _, hn => ⟨hn, fun k => rfl⟩
  | p :: l, vs, hl, hn => by
    rw [List.map_cons, List.nodup_cons] at hl
    have ih := put_all l (vset vs p.1 p.2) hl.2 (vset_nodup _ _ hn)
    rw [List.foldl_cons]
    refine ⟨ih.1, fun k => ?_⟩
    rw [ih.2, vget_vset_eq]
    by_cases hk : k = p.1
    · subst hk
      have h0 : vget l p.1 = none := vget_none.2 hl.1
      have h1 : vget (p :: l) p.1 = some p.2 := by unfold vget; simp
      rw [h0, h1, if_pos rfl]; rfl
    · rw [if_neg hk]
      have h1 : vget (p :: l) k = vget l k := by
        unfold vget
        rw [List.find?_cons]
        have : (p.1 == k) = false := by simpa using Ne.symm hk
        rw [this]
      rw [h1]
theorem put_alike {l : List (Int × List UInt8)} (h : (l.map (·.1)).Nodup) : Alike (l.foldl (fun vs p => vset vs p.1 p.2) []) l := by
  have := put_all l [] h (by simp)
  exact ⟨this.1, h, fun k => by rw [this.2]; cases vget l k <;> rfl⟩

/-- A text that was written is read back. -/
theorem parseGo_text : ∀ (l : List PV) (f : Nat) (vs : List (Int × List UInt8)), (∀ x ∈ l, (0 ≤ x.1 ∧ x.1 ≤ 1048576) ∧ x.2.length = 40) → l.length < f → parseGo f (l.flatMap encE) vs = l.foldl (fun vs p => vset vs p.1 p.2) vs
  | [], f, vs, _, hf => by
    cases f with
    | zero => omega
    | succ f => rfl
  | x :: l, f, vs, hx, hf => by
    obtain ⟨⟨h0, h1⟩, h40⟩ := hx x (List.mem_cons_self ..)
    cases f with
    | zero => simp at hf
    | succ f =>
      rw [List.length_cons] at hf
      have he : (encE x).length = 44 := by unfold encE; rw [List.length_append, leB_length, h40]
      rw [List.flatMap_cons, parseGo, if_neg (by rw [List.length_append]; omega), drop_pre _ _ 44 he, take_pre _ _ 44 he]
      have hg : getR (encE x ++ l.flatMap encE) 4 = x.1.toNat := by
        unfold encE
        rw [List.append_assoc, getR_leB (by omega)]
      have hd : (encE x).drop 4 = x.2 := by unfold encE; exact drop_pre _ _ 4 (leB_length _ 4)
      rw [hg, hd, Int.toNat_of_nonneg h0, List.foldl_cons]
      exact parseGo_text l f _ (fun y hy => hx y (List.mem_cons_of_mem _ hy)) (by omega)
theorem parse_text {last : Int} (hl : 0 ≤ last ∧ last ≤ 1099511627776) {l : List PV} (hx : ∀ x ∈ l, (0 ≤ x.1 ∧ x.1 ≤ 1048576) ∧ x.2.length = 40) : parseOf (textOf last l) = some ⟨last, l.foldl (fun vs p => vset vs p.1 p.2) []⟩ := by
  have hlen := textOf_len (last := last) (l := l) (fun x h => (hx x h).2)
  unfold parseOf
  rw [if_neg (by omega)]
  have hg : getR (textOf last l) 8 = last.toNat := by unfold textOf; exact getR_leB (by omega) _
  rw [hg, if_neg (by omega)]
  have hd : (textOf last l).drop 8 = l.flatMap encE := by unfold textOf; exact drop_pre _ _ 8 (leB_length _ 8)
  rw [hd, Int.toNat_of_nonneg hl.1, parseGo_text l _ [] hx (by omega)]
end Go.SL
namespace Go.SL
open Go.Proofs

def encF (f : Fr) : List UInt8 := encB f.1 f.2.1 f.2.2.1 f.2.2.2.1 f.2.2.2.2
def slotX (n : Nat) (text : List UInt8) : List (List UInt8) := (framesOf n text).map encF
def chunkF (n : Nat) (text : List UInt8) (i : Nat) : Fr := (1, 0, n, 0, (text.drop (40 * i)).take 40)
theorem slotX_shape (n : Nat) (text : List UInt8) : slotX n text = encF (3, 0, n, 0, []) :: (((List.range ((text.length + 39) / 40)).map fun i => encF (chunkF n text i)) ++ [encF (2, 0, n, (text.length + 39) / 40, tailOf text)]) := by
  unfold slotX framesOf
  rw [List.cons_append, List.map_cons, List.map_append, List.map_map]; rfl
theorem tailOf_len (t : List UInt8) : (tailOf t).length = 8 := by simp [tailOf, leB_length]
theorem chunk_len (n : Nat) (text : List UInt8) (i : Nat) : (chunkF n text i).2.2.2.2.length ≤ 40 := by simp [chunkF]; omega
theorem slotX_kind {n : Nat} {text : List UInt8} {p : List UInt8} (h : p ∈ slotX n text) : p.length = 64 ∧ 1 ≤ (p[0]?.getD 0).toNat ∧ (p[0]?.getD 0).toNat ≤ 3 := by
  rw [slotX_shape] at h
  simp only [List.mem_cons, List.mem_append, List.mem_map, List.not_mem_nil, or_false] at h
  rcases h with rfl | ⟨i, -, rfl⟩ | rfl
  · exact ⟨encB_len _ _ _ _ _ (by simp), by unfold encF; dsimp only; rw [enc_first _ _ _ _ _ (by decide)]; decide⟩
  · exact ⟨encB_len _ _ _ _ _ (chunk_len n text i), by unfold encF chunkF; dsimp only; rw [enc_first _ _ _ _ _ (by decide)]; decide⟩
  · exact ⟨encB_len _ _ _ _ _ (by rw [tailOf_len]; decide), by unfold encF; dsimp only; rw [enc_first _ _ _ _ _ (by decide)]; decide⟩

theorem read_head {n : Nat} (hn : n ≤ 1099511627776) (R : List (List UInt8)) : readGo 0 0 [] (encF (3, 0, n, 0, []) :: R) = readGo 1 n [] R := by
  have hok : encOk 3 0 n 0 := ⟨by decide, by decide, hn, by decide⟩
  unfold encF
  rw [readGo_cons (dec_enc hok (by simp)) (cut_enc hok (by simp)), if_pos ⟨rfl, rfl⟩]
theorem read_chunks {n : Nat} (hn : n ≤ 1099511627776) (text : List UInt8) (R : List (List UInt8)) : ∀ (m j : Nat),
    readGo (1 + j) n (text.take (40 * j)) (((List.range' j m).map fun i => encF (chunkF n text i)) ++ R) = readGo (1 + j + m) n (text.take (40 * (j + m))) R
  | 0, j => by simp
  | m + 1, j => by
    have hok : encOk 1 0 n 0 := ⟨by decide, by decide, hn, by decide⟩
    rw [List.range'_succ, List.map_cons, List.cons_append]
    unfold encF chunkF
    rw [readGo_cons (dec_enc hok (by simp; omega)) (cut_enc hok (by simp; omega)), if_neg (by simp), if_neg (by omega), if_pos rfl]
    have e : text.take (40 * j) ++ (text.drop (40 * j)).take 40 = text.take (40 * (j + 1)) := by
      rw [show 40 * (j + 1) = 40 * j + 40 from by omega, List.take_add]
    rw [e]
    have ih := read_chunks hn text R m (j + 1)
    unfold encF chunkF at ih
    rw [show 1 + j + 1 = 1 + (j + 1) from by omega, ih, show 1 + (j + 1) + m = 1 + j + (m + 1) from by omega, show j + 1 + m = j + (m + 1) from by omega]
theorem read_slot {n : Nat} (hn : n ≤ 1099511627776) {text : List UInt8} (ht : text.length ≤ 1000000) (R : List (List UInt8)) : readGo 0 0 [] (slotX n text ++ R) = some (text, n) := by
  rw [slotX_shape, List.cons_append, read_head hn, List.append_assoc, List.singleton_append, List.range_eq_range']
  have h := read_chunks hn text (encF (2, 0, n, (text.length + 39) / 40, tailOf text) :: R) ((text.length + 39) / 40) 0
  rw [Nat.mul_zero, List.take_zero, Nat.add_zero, Nat.zero_add] at h
  rw [h]
  have hok : encOk 2 0 n ((text.length + 39) / 40) := ⟨by decide, by decide, hn, by omega⟩
  unfold encF
  rw [readGo_cons (dec_enc hok (by rw [tailOf_len]; decide)) (cut_enc hok (by rw [tailOf_len]; decide)), if_neg (by simp), if_neg (by omega), if_neg (by decide)]
  rw [List.take_of_length_le (show text.length ≤ 40 * ((text.length + 39) / 40) from by omega)]
  rw [if_pos ⟨rfl, by omega, rfl⟩]
end Go.SL
namespace Go.SL
open Go.Proofs

/-- The zones from a on hold a row, in order, as much in each as goes in. -/
def laid (D : Dv) (a n : Nat) (X : List (List UInt8)) : Prop := X.length ≤ n * D.S ∧ ∀ i, i < n → zoneOf D (a + i) = (X.drop (i * D.S)).take D.S
def Dv.live (D : Dv) : Prop := D.off = false ∧ D.cut = false
def Dv.good (D : Dv) : Prop := ∀ z ∈ D.zs, z.2 = z.1.length

theorem begin_live {D : Dv} (h : D.live) : D.begin = (true, { D with ops := D.ops + 1 }) := by
  unfold Dv.begin
  rw [if_neg (by rw [h.1, h.2]; simp), h.2]
  simp
theorem zoneOf_set (D : Dv) (j z : Nat) (x : List (List UInt8) × Nat) (hj : j < D.zs.length) (o : Int) : zoneOf { D with ops := o, zs := D.zs.set j x } z = if z = j then x.1 else zoneOf D z := by
  unfold zoneOf
  dsimp only
  by_cases h : z = j
  · subst h; rw [if_pos rfl, List.getElem?_set_self hj]; rfl
  · rw [if_neg h, List.getElem?_set_ne (Ne.symm h)]
/-- A block is laid in a zone that has room. -/
theorem append_live {D : Dv} (h : D.live) (ok : D.ok) {j : Nat} (hj : j < D.Z) {p : List UInt8} (hp : p.length = 64) (hr : (zoneOf D j).length < D.S) :
    ∃ g, D.append (j : Int) p = (((zoneOf D j).length : Int), 0, { D with ops := D.ops + 1, zs := D.zs.set j (zoneOf D j ++ [p], g) }) := by
  unfold Dv.append
  rw [begin_live h, if_pos (by omega), if_neg (by omega), if_neg (by simp)]
  simp only [Int.toNat_natCast]
  rw [if_neg (show ¬ D.S ≤ (D.zs[j]?.getD ([], 0)).1.length from by unfold zoneOf at hr; omega)]
  exact ⟨_, rfl⟩
theorem laid_snoc {D : Dv} {a n : Nat} {X : List (List UInt8)} (hl : laid D a n X) (h : D.live) (ok : D.ok) {p : List UInt8} (hp : p.length = 64) (hn : a + n ≤ D.Z) (hr : X.length < n * D.S) :
    ∃ D', D.append ((a + X.length / D.S : Nat) : Int) p = ((D.append ((a + X.length / D.S : Nat) : Int) p).1, 0, D') ∧ D'.live ∧ D'.ok ∧ (D'.Z = D.Z ∧ D'.S = D.S ∧ D'.reads = D.reads) ∧ laid D' a n (X ++ [p]) ∧ (∀ z, (z < a ∨ a + n ≤ z) → zoneOf D' z = zoneOf D z) := by
  have s0 := ok.s0
  have hS : 0 < D.S := by omega
  have hq : X.length / D.S < n := (Nat.div_lt_iff_lt_mul hS).2 hr
  have hdm := Nat.div_add_mod X.length D.S
  have hmod := Nat.mod_lt X.length hS
  generalize hk : X.length / D.S = k at hq hdm ⊢
  have hks : k * D.S = D.S * k := Nat.mul_comm _ _
  have hzk := hl.2 k hq
  have hzl : (X.drop (k * D.S)).length = X.length % D.S := by rw [List.length_drop]; omega
  have hz2 : zoneOf D (a + k) = X.drop (k * D.S) := by rw [hzk, List.take_of_length_le (by omega)]
  have hjn : a + k < D.zs.length := by have := ok.n; omega
  obtain ⟨g, he⟩ := append_live h ok (j := a + k) (by omega) hp (by rw [hz2, hzl]; exact hmod)
  refine ⟨{ D with ops := D.ops + 1, zs := D.zs.set (a + k) (zoneOf D (a + k) ++ [p], g) }, by rw [he], h, ?_, ⟨rfl, rfl, rfl⟩, ⟨?_, fun i hi => ?_⟩, fun z hz => ?_⟩
  · have := Dv.append_ok ok ((a + k : Nat) : Int) p
    rw [he] at this; exact this
  · show (X ++ [p]).length ≤ n * D.S
    rw [List.length_append, List.length_singleton]; omega
  · show zoneOf _ (a + i) = ((X ++ [p]).drop (i * D.S)).take D.S
    rw [zoneOf_set D (a + k) (a + i) _ hjn]
    by_cases hik : i = k
    · subst hik
      rw [if_pos rfl, hz2, List.drop_append_of_le_length (by omega)]
      rw [List.take_of_length_le (by rw [List.length_append, hzl, List.length_singleton]; omega)]
    · rw [if_neg (by omega), hl.2 i hi]
      by_cases hlt : i < k
      · have h1 : (i + 1) * D.S ≤ k * D.S := Nat.mul_le_mul_right _ hlt
        rw [Nat.add_mul, Nat.one_mul] at h1
        rw [List.drop_append_of_le_length (by omega), List.take_append_of_le_length (by rw [List.length_drop]; omega)]
      · have h1 : (k + 1) * D.S ≤ i * D.S := Nat.mul_le_mul_right _ (by omega)
        rw [Nat.add_mul, Nat.one_mul] at h1
        rw [List.drop_of_length_le (by omega), List.drop_of_length_le (by rw [List.length_append, List.length_singleton]; omega)]
  · rw [zoneOf_set D (a + k) z _ hjn, if_neg (by omega)]

/-- What a row of frames leaves. -/
structure Kept (D D' : Dv) (a n : Nat) : Prop where
  live : D'.live
  ok : D'.ok
  Z : D'.Z = D.Z
  S : D'.S = D.S
  reads : D'.reads = D.reads
  rest : ∀ z, (z < a ∨ a + n ≤ z) → zoneOf D' z = zoneOf D z
theorem Kept.trans {D D' D'' : Dv} {a n : Nat} (h : Kept D D' a n) (k : Kept D' D'' a n) : Kept D D'' a n :=
  ⟨k.live, k.ok, k.Z.trans h.Z, k.S.trans h.S, k.reads.trans h.reads, fun z hz => (k.rest z hz).trans (h.rest z hz)⟩
theorem layGo_live {a n : Nat} : ∀ (fs : List Fr) (D : Dv) (X : List (List UInt8)), laid D a n X → D.live → D.ok → (∀ f ∈ fs, f.2.2.2.2.length ≤ 40) → a + n ≤ D.Z → X.length + fs.length ≤ n * D.S →
    ∃ D', layGo a D.S X.length fs D = (0, D') ∧ laid D' a n (X ++ fs.map encF) ∧ Kept D D' a n
  | [], D, X, hl, h, ok, _, _, _ => ⟨D, rfl, by simpa using hl, h, ok, rfl, rfl, rfl, fun _ _ => rfl⟩
  | f :: fs, D, X, hl, h, ok, hf, hn, hr => by
    rw [List.length_cons] at hr
    have hp : (encF f).length = 64 := encB_len _ _ _ _ _ (hf f (List.mem_cons_self ..))
    obtain ⟨D1, he, h1, ok1, ⟨hZ, hS, hre⟩, hl1, hrest⟩ := laid_snoc hl h ok hp hn (by omega)
    obtain ⟨D2, he2, hl2, k2⟩ := layGo_live fs D1 (X ++ [encF f]) hl1 h1 ok1 (fun g hg => hf g (List.mem_cons_of_mem _ hg)) (by omega) (by rw [List.length_append, List.length_singleton, hS]; omega)
    refine ⟨D2, ?_, by simpa using hl2, ⟨k2.live, k2.ok, k2.Z.trans hZ, k2.S.trans hS, k2.reads.trans hre, fun z hz => (k2.rest z hz).trans (hrest z hz)⟩⟩
    rw [layGo]
    unfold encF at he
    rw [he, if_neg (by simp)]
    rw [hS, List.length_append, List.length_singleton] at he2
    exact he2
theorem pointer_in {D : Dv} {z : Nat} (hz : z < D.Z) : D.pointer z = (((zoneOf D z).length : Int), 0) := by
  unfold Dv.pointer zoneOf; rw [if_pos (by omega)]; rfl
theorem reset_live {D : Dv} (h : D.live) {z : Nat} (hz : z < D.Z) : D.reset z = (0, { D with ops := D.ops + 1, zs := D.zs.set z ([], 0) }) := by
  unfold Dv.reset
  rw [begin_live h, if_pos (by omega), if_neg (by simp), Int.toNat_natCast]
theorem wipe_live : ∀ (n : Nat) (D : Dv) (a : Nat), D.live → D.ok → a + n ≤ D.Z → ∃ D', wipe D n a = (0, D') ∧ (∀ z, a ≤ z → z < a + n → zoneOf D' z = []) ∧ Kept D D' a n ∧ (D.good → D'.good)
  | 0, D, a, h, ok, _ => ⟨D, rfl, fun z h1 h2 => by omega, ⟨h, ok, rfl, rfl, rfl, fun _ _ => rfl⟩, fun g => g⟩
  | n + 1, D, a, h, ok, hn => by
    rw [wipe, pointer_in (show a < D.Z from by omega)]
    dsimp only
    by_cases hp : 0 < (zoneOf D a).length
    · rw [if_pos (by omega), reset_live h (by omega), if_neg (by simp)]
      have ok1 := Dv.reset_ok ok (a : Int)
      rw [reset_live h (by omega)] at ok1
      have haz : a < D.zs.length := by have := ok.n; omega
      obtain ⟨D2, he, hz, k, hg⟩ := wipe_live n { D with ops := D.ops + 1, zs := D.zs.set a ([], 0) } (a + 1) h ok1 (by dsimp only; omega)
      refine ⟨D2, he, fun z h1 h2 => ?_, ⟨k.live, k.ok, k.Z, k.S, k.reads, fun z hz => ?_⟩, fun g => hg (fun z hz => ?_)⟩
      · by_cases hza : z = a
        · subst hza
          rw [k.rest z (by omega), zoneOf_set D z z _ haz, if_pos rfl]
        · exact hz z (by omega) (by omega)
      · rw [k.rest z (by omega), zoneOf_set D a z _ haz, if_neg (by omega)]
      · rcases List.mem_or_eq_of_mem_set hz with hz | rfl
        · exact g z hz
        · rfl
    · rw [if_neg (by omega)]
      obtain ⟨D2, he, hz, k, hg⟩ := wipe_live n D (a + 1) h ok (by omega)
      refine ⟨D2, he, fun z h1 h2 => ?_, ⟨k.live, k.ok, k.Z, k.S, k.reads, fun z hz => k.rest z (by omega)⟩, hg⟩
      by_cases hza : z = a
      · subst hza
        rw [k.rest z (by omega)]
        exact List.eq_nil_of_length_eq_zero (by omega)
      · exact hz z (by omega) (by omega)
theorem laid_nil {D : Dv} {a n : Nat} (h : ∀ z, a ≤ z → z < a + n → zoneOf D z = []) : laid D a n [] := ⟨Nat.zero_le _, fun i hi => by rw [h (a + i) (by omega) (by omega)]; simp⟩
theorem flush_live {D : Dv} (h : D.live) : ∃ D', D.flush = (0, D') ∧ D'.good ∧ (D.ok → Kept D D' 0 0) := by
  refine ⟨D.flush.2, ?_, ?_, fun ok => ⟨?_, Dv.flush_ok ok, ?_, ?_, ?_, fun z _ => ?_⟩⟩ <;> unfold Dv.flush <;> rw [begin_live h, if_neg (by simp)]
  · intro z hz
    obtain ⟨y, hy, rfl⟩ := List.mem_map.1 hz
    rfl
  · exact h
  · unfold zoneOf
    dsimp only
    rw [List.getElem?_map]
    cases D.zs[z]? <;> rfl
/-- A text is written in a slot. -/
theorem slotWrite_live {D : Dv} (h : D.live) (ok : D.ok) {a b n : Nat} {text : List UInt8} (hn : n ≤ 1099511627776) (ht : text.length ≤ 1000000) (hab : a ≤ b ∧ b ≤ D.Z) (hr : (text.length + 39) / 40 + 2 ≤ (b - a) * D.S) :
    ∃ D', slotWrite D a b n text = (0, D') ∧ D'.good ∧ laid D' a (b - a) (slotX n text) ∧ Kept D D' a (b - a) := by
  obtain ⟨D1, e1, hz1, k1, -⟩ := wipe_live (b - a) D a h ok (by omega)
  have hl1 := laid_nil hz1
  obtain ⟨D2, e2, hl2, k2⟩ := layGo_live (a := a) (n := b - a) (framesOf n text) D1 [] hl1 k1.live k1.ok (fun f hf => (framesOf_ok hn ht hf).2) (by rw [k1.Z]; omega) (by rw [framesOf_len, k1.S]; simpa using hr)
  obtain ⟨D3, e3, g3, k3⟩ := flush_live k2.live
  have k3 := k3 k2.ok
  rw [k1.S] at e2
  simp only [List.length_nil] at e2
  refine ⟨D3, ?_, g3, ?_, ⟨k3.live, k3.ok, k3.Z.trans (k2.Z.trans k1.Z), k3.S.trans (k2.S.trans k1.S), k3.reads.trans (k2.reads.trans k1.reads), fun z hz => (k3.rest z (by omega)).trans ((k2.rest z hz).trans (k1.rest z hz))⟩⟩
  · unfold slotWrite
    rw [e1, if_neg (by simp)]
    dsimp only
    rw [e2, if_neg (by simp)]
    exact e3
  · have hl2 : laid D2 a (b - a) (slotX n text) := by simpa [slotX] using hl2
    refine ⟨by rw [k3.S]; exact hl2.1, fun i hi => ?_⟩
    rw [k3.rest _ (by omega), k3.S]; exact hl2.2 i hi

/-- What stands in the zones is read as it was laid. -/
theorem blocksFrom_laid {D : Dv} : ∀ (n a : Nat) (X : List (List UInt8)), laid D a n X → blocksFrom D D.S n a = X
  | 0, a, X, h => by
    have := h.1
    rw [Nat.zero_mul] at this
    rw [List.eq_nil_of_length_eq_zero (by omega : X.length = 0)]; rfl
  | n + 1, a, X, h => by
    have h0 := h.2 0 (by omega)
    rw [Nat.zero_mul, List.drop_zero, Nat.add_zero] at h0
    have hx := h.1
    rw [Nat.add_mul, Nat.one_mul] at hx
    rw [blocksFrom, h0]
    by_cases hl : X.length < D.S
    · rw [if_pos (by rw [List.length_take]; omega), List.append_nil, List.take_of_length_le (by omega)]
    · rw [if_neg (by rw [List.length_take]; omega)]
      rw [blocksFrom_laid n (a + 1) (X.drop D.S) ⟨by rw [List.length_drop]; omega, fun i hi => ?_⟩, List.take_append_drop]
      rw [show a + 1 + i = a + (i + 1) from by omega, h.2 (i + 1) (by omega), List.drop_drop, Nat.add_mul, Nat.one_mul, Nat.add_comm D.S]
/-- Behind a crash of what is for good all is there. -/
theorem crashZ_good (picks torn : List Int) (k : Nat) (z : List (List UInt8) × Nat) (h : z.2 = z.1.length) : crashZ picks torn k z = z := by
  obtain ⟨l, g⟩ := z
  dsimp only at h
  subst h
  have hn : crashN picks k l.length l.length = l.length := by
    unfold crashN
    split
    · have := restOf_lt (pickOf picks k).1 ((l.length : Int) - l.length + 1) (by omega)
      omega
    · rfl
  have hl : crashL torn k l.length l = l := by
    unfold crashL
    rw [if_neg (by simp), List.take_length, List.append_nil]
  unfold crashZ
  dsimp only
  rw [hn, hl]
theorem crash_good {D : Dv} (h : D.good) (picks torn : List Int) : D.crash picks torn = { D with ops := 0, reads := 0, cut := false, left := 0, off := false } := by
  unfold Dv.crash
  have e : D.zs.mapIdx (crashZ picks torn) = D.zs := by
    apply List.ext_getElem (by simp)
    intro i h1 h2
    rw [List.getElem_mapIdx]
    exact crashZ_good picks torn i _ (h _ (List.getElem_mem h2))
  rw [e]
end Go.SL
namespace Go.SL
open Go.Proofs

theorem appGo_live {hi n : Nat} : ∀ (l : List (List UInt8)) (D : Dv) (X : List (List UInt8)) (pos i : Nat), X.length = pos + i → laid D hi n X → D.live → D.ok → (∀ p ∈ l, p.length = 64) → hi + n ≤ D.Z → X.length + l.length ≤ n * D.S →
    ∃ D', appGo hi pos D i l = (0, D') ∧ laid D' hi n (X ++ l) ∧ Kept D D' hi n
  | [], D, X, pos, i, _, hl, h, ok, _, _, _ => ⟨D, rfl, by simpa using hl, h, ok, rfl, rfl, rfl, fun _ _ => rfl⟩
  | p :: l, D, X, pos, i, hx, hl, h, ok, hf, hn, hr => by
    rw [List.length_cons] at hr
    obtain ⟨D1, he, h1, ok1, ⟨hZ, hS, hre⟩, hl1, hrest⟩ := laid_snoc hl h ok (hf p (List.mem_cons_self ..)) hn (by omega)
    obtain ⟨D2, he2, hl2, k2⟩ := appGo_live l D1 (X ++ [p]) pos (i + 1) (by rw [List.length_append, List.length_singleton]; omega) hl1 h1 ok1 (fun g hg => hf g (List.mem_cons_of_mem _ hg)) (by omega) (by rw [List.length_append, List.length_singleton, hS]; omega)
    refine ⟨D2, ?_, by simpa using hl2, ⟨k2.live, k2.ok, k2.Z.trans hZ, k2.S.trans hS, k2.reads.trans hre, fun z hz => (k2.rest z hz).trans (hrest z hz)⟩⟩
    have e : (hi : Int) + ((pos : Int) + i) / (D.S : Int) = ((hi + X.length / D.S : Nat) : Int) := by
      rw [hx]; push_cast; rfl
    rw [appGo, e, he, if_neg (by simp)]
    exact he2

theorem logOf_gap {D : Dv} : ∀ (n a : Nat), (∀ z, a ≤ z → z < a + n → zoneOf D z = []) → logOf D n a true = ([], [])
  | 0, _, _ => rfl
  | n + 1, a, h => by rw [logOf, h a (Nat.le_refl _) (by omega)]; simp [logOf_gap n (a + 1) (fun z h1 h2 => h z (by omega) (by omega))]
theorem logOf_laid {D : Dv} (hS : 0 < D.S) : ∀ (n a : Nat) (X : List (List UInt8)), laid D a n X → logOf D n a false = (X, [])
  | 0, a, X, h => by
    have := h.1
    rw [Nat.zero_mul] at this
    rw [List.eq_nil_of_length_eq_zero (by omega : X.length = 0)]; rfl
  | n + 1, a, X, h => by
    have h0 := h.2 0 (by omega)
    rw [Nat.zero_mul, List.drop_zero, Nat.add_zero] at h0
    have hx := h.1
    rw [Nat.add_mul, Nat.one_mul] at hx
    rw [logOf, h0]
    simp only [Bool.false_eq_true, if_false, Bool.false_or, List.nil_append]
    by_cases hl : X.length < D.S
    · rw [decide_eq_true (by rw [List.length_take]; omega), logOf_gap, List.append_nil, List.take_of_length_le (by omega)]
      intro z h1 h2
      have := h.2 (z - a) (by omega)
      rw [show a + (z - a) = z from by omega] at this
      have hm : 1 * D.S ≤ (z - a) * D.S := Nat.mul_le_mul_right _ (by omega)
      rw [this, List.drop_of_length_le (by omega)]; simp
    · rw [decide_eq_false (by rw [List.length_take]; omega)]
      rw [logOf_laid hS n (a + 1) (X.drop D.S) ⟨by rw [List.length_drop]; omega, fun i hi => ?_⟩, List.take_append_drop]
      rw [show a + 1 + i = a + (i + 1) from by omega, h.2 (i + 1) (by omega), List.drop_drop, Nat.add_mul, Nat.one_mul, Nat.add_comm D.S]

end Go.SL
namespace Go.SL
open Go.Proofs
set_option synthInstance.maxSize 4000
set_option synthInstance.maxHeartbeats 400000
set_option maxRecDepth 4000
set_option maxHeartbeats 2000000

/-- The log's batches, one behind the other. -/
def logX (ep : Nat) : Nat → List (List TV) → List (List UInt8)
  | _, [] => []
  | n, b :: bs => encBatch ep n b ++ logX ep (n + 1) bs
theorem logX_snoc (ep : Nat) : ∀ (n : Nat) (bs : List (List TV)) (b : List TV), logX ep n (bs ++ [b]) = logX ep n bs ++ encBatch ep (n + bs.length) b
  | n, [], b => by simp [logX]
  | n, a :: bs, b => by rw [List.cons_append, logX, logX_snoc ep (n + 1) bs b, logX, List.append_assoc, List.length_cons, show n + 1 + bs.length = n + (bs.length + 1) from by omega]
def Sta.all (S : Sta) (bs : List (List TV)) : Sta := bs.foldl Sta.txs S
/-- Batches that may follow each other behind a state. -/
def chainOk : Nat → Sta → List (List TV) → Prop
  | _, _, [] => True
  | n, S, b :: bs => (checkB n b = true ∧ S.last < (b[0]?.getD (0, [])).1) ∧ chainOk (n + 1) (S.txs b) bs
theorem chainOk_snoc : ∀ (n : Nat) (S : Sta) (bs : List (List TV)) (b : List TV), chainOk n S bs → checkB ((n + bs.length : Nat) : Int) b = true → (S.all bs).last < (b[0]?.getD (0, [])).1 → chainOk n S (bs ++ [b])
  | n, S, [], b, _, h1, h2 => ⟨⟨by simpa using h1, h2⟩, trivial⟩
  | n, S, a :: bs, b, h, h1, h2 => ⟨h.1, chainOk_snoc (n + 1) (S.txs a) bs b h.2 (by rw [List.length_cons] at h1; rw [show n + 1 + bs.length = n + (bs.length + 1) from by omega]; exact h1) h2⟩
theorem replay_log {count : Nat} (hc : count ≤ 4294967295) : ∀ (bs : List (List TV)) (pre : List (List UInt8)) (n : Nat) (S : Sta) (f : Nat), chainOk (n + 1) S bs → bs.length < f →
    replayGo (pre ++ logX count (n + 1) bs) count f pre.length n S = ⟨(pre ++ logX count (n + 1) bs).length, n + bs.length, S.all bs, false⟩
  | [], pre, n, S, f, _, hf => by
    obtain ⟨f, rfl⟩ : ∃ g, f = g + 1 := ⟨f - 1, by simp at hf; omega⟩
    rw [logX, List.append_nil, replayGo, if_pos (Nat.le_refl _)]; rfl
  | b :: bs, pre, n, S, f, h, hf => by
    obtain ⟨f, rfl⟩ : ∃ g, f = g + 1 := ⟨f - 1, by simp at hf; omega⟩
    rw [List.length_cons] at hf
    obtain ⟨⟨hb, ht⟩, hr⟩ := h
    have hne : 0 < (encBatch count (n + 1) b).length := by unfold encBatch; rw [List.length_append]; simp
    rw [logX, replayGo, if_neg (by rw [List.length_append, List.length_append]; omega), List.drop_left, decode_enc hb hc]
    dsimp only
    rw [if_neg (by rintro (h | h | h); exact h rfl; exact h rfl; omega)]
    have ih := replay_log hc bs (pre ++ encBatch count (n + 1) b) (n + 1) (S.txs b) f hr (by omega)
    rw [List.length_append, List.append_assoc] at ih
    rw [ih, List.length_cons, show n + 1 + bs.length = n + (bs.length + 1) from by omega]; rfl
theorem encBatch_mem {ep n : Nat} {b : List TV} (h : checkB n b = true) {p : List UInt8} (hp : p ∈ encBatch ep n b) : p.length = 64 ∧ strayOf p = false := by
  have g := checkB_good h
  have hl8 := g.len1
  have hs : ∀ (k e s l : Nat) (b : List UInt8), b.length ≤ 40 → (k = 1 ∨ k = 2) → (encB k e s l b).length = 64 ∧ strayOf (encB k e s l b) = false := by
    intro k e s l b hb hk
    refine ⟨encB_len _ _ _ _ _ hb, ?_⟩
    unfold strayOf
    rw [enc_first _ _ _ _ _ (by omega)]
    exact decide_eq_false (by omega)
  unfold encBatch at hp
  rcases List.mem_append.1 hp with hp | hp
  · rw [encPuts_eq] at hp
    obtain ⟨q, hq, rfl⟩ := List.mem_map.1 hp
    obtain ⟨t, ht, hqt⟩ := allPuts_mem hq
    have := (g.puts t ht).2 q hqt
    exact hs _ _ _ _ _ (by omega) (.inl rfl)
  · rw [List.mem_singleton.1 hp]
    exact hs _ _ _ _ _ (by rw [body_len]; omega) (.inr rfl)
theorem logX_mem {ep : Nat} : ∀ {n : Nat} {S : Sta} {bs : List (List TV)}, chainOk n S bs → ∀ p ∈ logX ep n bs, p.length = 64 ∧ strayOf p = false
  | _, _, [], _, p, hp => by cases hp
  | n, S, b :: bs, h, p, hp => by
    rw [logX] at hp
    rcases List.mem_append.1 hp with hp | hp
    · exact encBatch_mem h.1.1 hp
    · exact logX_mem h.2 p hp
theorem logX_len (ep : Nat) : ∀ (n : Nat) (bs : List (List TV)), bs.length ≤ (logX ep n bs).length
  | _, [] => Nat.le_refl _
  | n, b :: bs => by
    have := logX_len ep (n + 1) bs
    rw [logX, List.length_append, List.length_cons]
    have : 0 < (encBatch ep n b).length := by unfold encBatch; rw [List.length_append]; simp
    omega

/-- What a slot holds: nothing, or one text, whole. -/
def slotHas (D : Dv) (i : Nat) : Option (Nat × List UInt8) → Prop
  | none => laid D (slotA D.Z i) (midOf D.Z) []
  | some (c, t) => (0 < c ∧ c ≤ 1099511627776 ∧ t.length ≤ 1000000) ∧ laid D (slotA D.Z i) (midOf D.Z) (slotX c t)
def slotN : Option (Nat × List UInt8) → Nat
  | none => 0
  | some (c, _) => c
/-- The disk is as the store says. -/
structure Ds (T : SS) (D : Dv) : Prop where
  ok : D.ok
  live : D.live
  good : D.good
  xoff : T.x.off = false
  off : T.off = false
  inn : T.x.inn < 2
  cnt : T.x.count ≤ 4294967295
  slot : (T.x.count = 0 ∧ T.x.text = [] ∧ T.x.inn = 1 ∧ slotHas D 1 none) ∨ (0 < T.x.count ∧ slotHas D T.x.inn (some (T.x.count, T.x.text)))
  oth : ∃ o, slotN o ≤ T.x.count - 1 ∧ slotHas D (1 - T.x.inn) o
  log : ∃ bs S, T.num = bs.length ∧ T.pos = (logX T.x.count 1 bs).length ∧ laid D (2 * midOf D.Z) (D.Z - 2 * midOf D.Z) (logX T.x.count 1 bs) ∧ parseOf T.x.text = some S ∧ chainOk 1 S bs ∧ (S.all bs).last = T.M.last ∧ Same (S.all bs).vs T.M.E.vs

theorem laid_same {D D' : Dv} {a n : Nat} {X : List (List UInt8)} (hS : D'.S = D.S) (hz : ∀ z, zoneOf D' z = zoneOf D z) (h : laid D a n X) : laid D' a n X := ⟨by rw [hS]; exact h.1, fun i hi => by rw [hz, hS]; exact h.2 i hi⟩
theorem laid_keep {D D' : Dv} {a n a' n' : Nat} {X : List (List UInt8)} (k : Kept D D' a' n') (hd : a + n ≤ a' ∨ a' + n' ≤ a) (h : laid D a n X) : laid D' a n X :=
  ⟨by rw [k.S]; exact h.1, fun i hi => by rw [k.rest _ (by omega), k.S]; exact h.2 i hi⟩
/-- What is read from a slot. -/
theorem slot_reads {D : Dv} {i : Nat} {o : Option (Nat × List UInt8)} (hi : i < 2) (h : slotHas D i o) :
    (slotB D 0 (midOf D.Z) (2 * midOf D.Z) i).any strangeOf = false ∧ readGo 0 0 [] (slotB D 0 (midOf D.Z) (2 * midOf D.Z) i) = o.map (fun x => (x.2, x.1)) ∧ (slotB D 0 (midOf D.Z) (2 * midOf D.Z) i).length ≤ midOf D.Z * D.S := by
  have hB : ∀ X, laid D (slotA D.Z i) (midOf D.Z) X → slotB D 0 (midOf D.Z) (2 * midOf D.Z) i = X := by
    intro X hX
    unfold slotB
    rcases i with _ | _ | i
    · rw [if_pos rfl, Nat.sub_zero]; exact blocksFrom_laid _ _ _ hX
    · rw [if_neg (by omega), show 2 * midOf D.Z - midOf D.Z = midOf D.Z from by omega]; exact blocksFrom_laid _ _ _ hX
    · omega
  cases o with
  | none => rw [hB _ h]; exact ⟨rfl, rfl, Nat.zero_le _⟩
  | some x =>
    obtain ⟨c, t⟩ := x
    obtain ⟨⟨h0, h1, h2⟩, hl⟩ := h
    rw [hB _ hl]
    refine ⟨?_, ?_, hl.1⟩
    · rw [List.any_eq_false]
      intro p hp
      have := slotX_kind hp
      unfold strangeOf
      simp; omega
    · have := read_slot h1 h2 []
      rw [List.append_nil] at this
      rw [this]; rfl
def pickS (i : Nat) (s : Nat × List UInt8 × Nat) : Option (Nat × List UInt8) → Nat × List UInt8 × Nat
  | some x => if s.2.2 < x.1 then (i, x.2, x.1) else s
  | none => s
theorem pickS_lt {i : Nat} {s : Nat × List UInt8 × Nat} {x : Nat × List UInt8} (h : s.2.2 < x.1) : pickS i s (some x) = (i, x.2, x.1) := by rw [pickS, if_pos h]
theorem pickS_ge {i : Nat} {s : Nat × List UInt8 × Nat} {x : Nat × List UInt8} (h : ¬ s.2.2 < x.1) : pickS i s (some x) = s := by rw [pickS, if_neg h]
theorem step_of {i : Nat} {b : List (List UInt8)} {o : Option (Nat × List UInt8)} (h1 : b.any strangeOf = false) (h2 : readGo 0 0 [] b = o.map (fun x => (x.2, x.1))) (s : Nat × List UInt8 × Nat) :
    slotStep i b s = some (pickS i s o) := by
  unfold slotStep
  rw [h1]
  simp only [Bool.false_eq_true, if_false]
  rw [h2]
  cases o with
  | none => rfl
  | some x => obtain ⟨c, t⟩ := x; simp only [Option.map_some, pickS]; split <;> rfl
theorem open_ds {T : SS} {D : Dv} (h : Ds T D) : openAt D 0 (midOf D.Z) (2 * midOf D.Z) 2 = some (T.x.inn, T.x.text, T.x.count) ∧ readsAt D 0 (midOf D.Z) (2 * midOf D.Z) 2 ≤ D.reads + ((2 * (midOf D.Z * D.S) : Nat) : Int) := by
  obtain ⟨o, ho, hso⟩ := h.oth
  obtain ⟨p, hp, hsp⟩ : ∃ p, (p = none ∧ T.x.count = 0 ∧ T.x.text = [] ∧ T.x.inn = 1 ∨ p = some (T.x.count, T.x.text) ∧ 0 < T.x.count) ∧ slotHas D T.x.inn p := by
    rcases h.slot with ⟨h1, h2, h3, h4⟩ | ⟨h1, h2⟩
    · exact ⟨none, .inl ⟨rfl, h1, h2, h3⟩, by rw [h3]; exact h4⟩
    · exact ⟨_, .inr ⟨rfl, h1⟩, h2⟩
  have hinn := h.inn
  have r1 := slot_reads hinn hsp
  have r2 := slot_reads (i := 1 - T.x.inn) (by omega) hso
  have hopen : ∀ (q0 q1 : Option (Nat × List UInt8)), slotHas D 0 q0 → slotHas D 1 q1 → openAt D 0 (midOf D.Z) (2 * midOf D.Z) 2 = some (pickS 1 (pickS 0 (1, [], 0) q0) q1) := by
    intro q0 q1 h0 h1
    have a := slot_reads (i := 0) (by omega) h0
    have b := slot_reads (i := 1) (by omega) h1
    rw [openAt, openAt, openAt, Option.bind_some, step_of a.1 a.2.1, Option.bind_some, step_of b.1 b.2.1]
  refine ⟨?_, ?_⟩
  · generalize T.x.inn = inn at *
    rcases inn with _ | _ | inn
    · rw [hopen p o hsp hso]
      rcases hp with ⟨-, -, -, h4⟩ | ⟨rfl, h1⟩
      · cases h4
      · rw [pickS_lt (x := (T.x.count, T.x.text)) h1]
        cases o with
        | none => rfl
        | some x => obtain ⟨c, t⟩ := x; dsimp only [slotN] at ho; rw [pickS_ge (by dsimp only; omega)]
    · rw [hopen o p hso hsp]
      rcases hp with ⟨rfl, h1, h2, h3⟩ | ⟨rfl, h1⟩
      · cases o with
        | none => rw [h1, h2]; rfl
        | some x =>
          obtain ⟨c, t⟩ := x
          have := hso.1.1
          dsimp only [slotN] at ho
          omega
      · cases o with
        | none => exact congrArg some (pickS_lt (x := (T.x.count, T.x.text)) h1)
        | some x =>
          obtain ⟨c, t⟩ := x
          have := hso.1.1
          dsimp only [slotN] at ho
          rw [pickS_lt (i := 0) (x := (c, t)) this, pickS_lt (by dsimp only; omega)]
    · omega
  · rw [readsAt, readsAt, readsAt]
    have e : ∀ i, i < 2 → (slotB D 0 (midOf D.Z) (2 * midOf D.Z) i).length ≤ midOf D.Z * D.S := by
      intro i hi
      by_cases hii : i = T.x.inn
      · rw [hii]; exact r1.2.2
      · rw [show i = 1 - T.x.inn from by omega]; exact r2.2.2
    have e0 := e 0 (by omega)
    have e1 := e 1 (by omega)
    omega
end Go.SL
namespace Go.SL
open Go.Proofs
set_option synthInstance.maxSize 4000
set_option synthInstance.maxHeartbeats 400000
set_option maxRecDepth 4000
set_option maxHeartbeats 2000000

theorem rises_of : ∀ {l : List PV}, (l.map (·.1)).Pairwise (· < ·) → rises l = true
  | [], _ => rfl
  | [_], _ => rfl
  | a :: b :: l, h => by
    rw [List.map_cons, List.pairwise_cons] at h
    rw [rises, Bool.and_eq_true, decide_eq_true_eq]
    exact ⟨h.1 b.1 (List.mem_map.2 ⟨b, List.mem_cons_self .., rfl⟩), rises_of h.2⟩
theorem sortI_lt {l : List Int} (h : l.Nodup) : (sortI l).Pairwise (· < ·) := by
  have h1 : (sortI l).Pairwise (fun a b => decide (a ≤ b) = true) := List.pairwise_mergeSort (fun a b c h1 h2 => by simp at h1 h2 ⊢; omega) (fun a b => by simp; omega) l
  have h2 := sortI_nodup h
  refine List.Pairwise.imp₂ (fun a b h1 (h2 : a ≠ b) => ?_) h1 h2
  simp at h1; omega
theorem put_ok_apply {E : Em} {t : Int} {ps : List PV} (hb : 1 ≤ E.blocks) (ht : E.last < t ∧ t ≤ 1099511627776) (hr : (ps.map (·.1)).Pairwise (· < ·)) (hp : 0 < ps.length) (hg : ∀ p ∈ ps, (0 ≤ p.1 ∧ p.1 < E.blocks) ∧ p.2.length = 40) : E.apply t ps = (0, E.put t ps) := by
  have hne : ps ≠ [] := fun e => by rw [e] at hp; simp at hp
  unfold Em.apply
  rw [if_neg (by omega), if_neg (by omega), if_neg (by rw [rises_of hr, decide_eq_true hp]; simp)]
  rw [if_neg, if_neg]
  · intro h
    obtain ⟨p, hpm, h2⟩ := List.any_eq_true.1 h
    exact absurd (hg p hpm).2 (of_decide_eq_true h2)
  · rw [List.head?_eq_some_head hne, List.getLast?_eq_some_getLast hne, Option.getD_some, Option.getD_some]
    have h1 := (hg _ (List.head_mem hne)).1
    have h2 := (hg _ (List.getLast_mem hne)).1
    omega
theorem putsOf_mem {vs : List (Int × List UInt8)} {p : PV} (h : p ∈ putsOf vs) : ∃ e ∈ vs, p = e := by
  unfold putsOf at h
  obtain ⟨k, hk, rfl⟩ := List.mem_map.1 h
  obtain ⟨x, hx, hm⟩ := vget_mem (sortI_mem.1 hk)
  exact ⟨_, hm, by rw [hx]; rfl⟩
theorem putsOf_len (vs : List (Int × List UInt8)) : (putsOf vs).length = vs.length := by unfold putsOf; rw [List.length_map, sortI_len, List.length_map]
/-- The time of the newest of some versions. -/
def newT (l : List PV) : Int := (l.getLast?.getD (0, [])).1
theorem newT_put (t : Int) : ∀ (ps : List PV) (vs : List (Int × List PV)), (∀ e ∈ vs, newT e.2 ≤ t) → ∀ e ∈ ps.foldl (fun vs p => vput vs p.1 (t, p.2)) vs, newT e.2 ≤ t
  | [], _, h => h
  | p :: ps, vs, h => by
    rw [List.foldl_cons]
    refine newT_put t ps _ fun e he => ?_
    rcases vset_mem he with rfl | he
    · unfold newT; rw [List.getLast?_concat]; exact Int.le_refl _
    · exact h e he
/-- What was committed is taken in. -/
theorem load_vs {n : Nat} {last : Int} {vs : List (Int × List UInt8)} (hn : 1 ≤ n ∧ n ≤ 1048576) (hl : 0 ≤ last ∧ last ≤ 1099511627776) (h0 : vs ≠ [] → 0 < last) (hd : (vs.map (·.1)).Nodup) (hg : ∀ p ∈ vs, (0 ≤ p.1 ∧ p.1 < n) ∧ p.2.length = 40) :
    ∃ E, (Mg.new n last).load (putsOf vs) = (0, { Mg.new n last with E := E }) ∧ E.blocks = n ∧ E.last ≤ last ∧ Same vs E.vs ∧ EOk E (vs.length + 1) ∧ ∀ e ∈ E.vs, newT e.2 ≤ E.last := by
  by_cases hv : vs = []
  · subst hv
    refine ⟨⟨n, [], 0⟩, ?_, rfl, hl.1, ⟨by simp, by simp, fun k => rfl⟩, ⟨hn, by simp, by simp⟩, fun e he => (by cases he)⟩
    have hp0 : putsOf [] = [] := by simp [putsOf, sortI]
    rw [hp0]
    unfold Mg.load
    rw [if_neg (by simp [Mg.new]), if_pos rfl]; rfl
  · have hp := h0 hv
    have hpl : 0 < (putsOf vs).length := by rw [putsOf_len]; exact List.length_pos_iff.2 hv
    have hne : putsOf vs ≠ [] := fun e => by rw [e] at hpl; simp at hpl
    have ha := put_ok_apply (E := ⟨n, [], 0⟩) (t := last) (ps := putsOf vs) hn.1 ⟨hp, hl.2⟩ (by rw [putsOf_keys]; exact sortI_lt hd) hpl (fun p hpm => by obtain ⟨e, he, rfl⟩ := putsOf_mem hpm; exact hg _ he)
    refine ⟨(⟨n, [], 0⟩ : Em).put last (putsOf vs), ?_, rfl, Int.le_refl _, ?_, ?_, newT_put last _ _ (fun e he => (by cases he))⟩
    · unfold Mg.load
      rw [if_neg, if_neg hne]
      · show ((Em.apply ⟨n, [], 0⟩ last (putsOf vs)).1, { Mg.new n last with E := (Em.apply ⟨n, [], 0⟩ last (putsOf vs)).2 }) = _
        rw [ha]
      · rintro (h | h)
        · exact h rfl
        · have : last = 0 := h.1
          omega
    · have hpa := put_alike (l := putsOf vs) (by rw [putsOf_keys]; exact sortI_nodup hd)
      have hs := Same.puts last (putsOf vs) (vs := []) (es := []) ⟨by simp, by simp, fun k => rfl⟩
      have ha2 := putsOf_alike hd
      exact ⟨hd, hs.n2, fun k => by rw [← ha2.eq k, ← hpa.eq k, ← hs.eq k]; rfl⟩
    · have := apply_ok (E := ⟨n, [], 0⟩) (t := last) (ps := putsOf vs) (c := 0) ⟨hn, by simp, by simp⟩
      rw [ha, Nat.zero_add, putsOf_len] at this
      exact this.mono (by omega)
theorem capOf_ok {D : Dv} (ok : D.ok) : 1 ≤ capOf D.Z D.S ∧ capOf D.Z D.S ≤ 1048576 := by have := cap_ok ok; omega
/-- A device that shows the same zones. -/
theorem Ds.move {T : SS} {D D' : Dv} (h : Ds T D) (ok : D'.ok) (live : D'.live) (good : D'.good) (hZ : D'.Z = D.Z) (hS : D'.S = D.S) (hz : ∀ z, zoneOf D' z = zoneOf D z) : Ds T D' := by
  have hs : ∀ i o, slotHas D i o → slotHas D' i o := fun i o ho => by
    cases o with
    | none => unfold slotHas at ho ⊢; rw [hZ]; exact laid_same hS hz ho
    | some x => obtain ⟨c, t⟩ := x; unfold slotHas at ho ⊢; rw [hZ]; exact ⟨ho.1, laid_same hS hz ho.2⟩
  refine ⟨ok, live, good, h.xoff, h.off, h.inn, h.cnt, ?_, ?_, ?_⟩
  · rcases h.slot with ⟨h1, h2, h3, h4⟩ | ⟨h1, h2⟩
    · exact .inl ⟨h1, h2, h3, hs _ _ h4⟩
    · exact .inr ⟨h1, hs _ _ h2⟩
  · obtain ⟨o, ho, hso⟩ := h.oth; exact ⟨o, ho, hs _ _ hso⟩
  · obtain ⟨bs, S, h1, h2, h3, h4⟩ := h.log
    exact ⟨bs, S, h1, h2, by rw [hZ]; exact laid_same hS hz h3, h4⟩
theorem Ds.crash {T : SS} {D : Dv} (h : Ds T D) (picks torn : List Int) : Ds T (D.crash picks torn) := by
  have ok := Dv.crash_ok h.ok picks torn
  rw [crash_good h.good] at ok ⊢
  exact h.move ok ⟨rfl, rfl⟩ h.good rfl rfl (fun z => rfl)
theorem mount_ds {T : SS} {D : Dv} {c : Nat} (h : Ds T D) (hE : EOk T.M.E c) (hbl : T.M.E.blocks = capOf D.Z D.S) (hla : 0 ≤ T.M.last ∧ T.M.last ≤ 1099511627776) (hpos : T.M.E.vs ≠ [] → 0 < T.M.last) :
    ∃ D' E, mountOf D = ⟨0, D', ⟨T.x, { Mg.new (capOf D.Z D.S) T.M.last with E := E }, T.pos, T.num, false⟩⟩ ∧ Ds ⟨T.x, { Mg.new (capOf D.Z D.S) T.M.last with E := E }, T.pos, T.num, false⟩ D' ∧
      EOk E (capOf D.Z D.S + 1) ∧ E.blocks = capOf D.Z D.S ∧ E.dump = T.M.E.dump ∧ (D'.Z = D.Z ∧ D'.S = D.S) ∧ D'.reads ≤ D.reads + ((D.Z * D.S : Nat) : Int) ∧ (E.vs ≠ [] → 0 < T.M.last) ∧ E.last ≤ T.M.last ∧ ∀ e ∈ E.vs, newT e.2 ≤ E.last := by
  obtain ⟨hop, hrd⟩ := open_ds h
  have z0 := h.ok.z0
  have hmid : 2 * midOf D.Z < D.Z := by unfold midOf; omega
  obtain ⟨bs, S, hnum, hpo, hlog, hpar, hch, hlast, hsame⟩ := h.log
  obtain ⟨D2, hf, hg2, hk2⟩ := flush_live (D := { D with reads := readsAt D 0 (midOf D.Z) (2 * midOf D.Z) 2 }) h.live
  have hk2 := hk2 (h.ok.reads _)
  have hZ2 : D2.Z = D.Z := hk2.Z
  have hS2 : D2.S = D.S := hk2.S
  have hR2 : D2.reads = readsAt D 0 (midOf D.Z) (2 * midOf D.Z) 2 := hk2.reads
  have hzz : ∀ z, zoneOf D2 z = zoneOf D z := fun z => hk2.rest z (by omega)
  have hlog2 : logOf D2 (D2.Z - 2 * midOf D2.Z) (2 * midOf D2.Z) false = (logX T.x.count 1 bs, []) := by
    have s0 := h.ok.s0
    rw [hZ2]
    exact logOf_laid (by omega) _ _ _ (laid_same hS2 hzz hlog)
  have hchk := hch
  have hvs : ∀ p ∈ (S.all bs).vs, (0 ≤ p.1 ∧ p.1 < capOf D.Z D.S) ∧ p.2.length = 40 := by
    intro p hp
    have hm : p.1 ∈ T.M.E.vs.map (·.1) := (hsame.keys.mem_iff).1 (List.mem_map.2 ⟨p, hp, rfl⟩)
    have h1 := hE.keys p.1 hm
    rw [hbl] at h1
    refine ⟨h1, ?_⟩
    have h2 := hsame.dump hE.b.1
    have h3 : p ∈ putsOf (S.all bs).vs := by
      unfold putsOf
      obtain ⟨x, hx, hxm⟩ := vget_mem (List.mem_map.2 ⟨p, hp, rfl⟩ : p.1 ∈ (S.all bs).vs.map (·.1))
      refine List.mem_map.2 ⟨p.1, sortI_mem.2 (List.mem_map.2 ⟨p, hp, rfl⟩), ?_⟩
      have hpx : vget (S.all bs).vs p.1 = some p.2 := by
        rw [hx]
        have hperm := vget_perm hsame.n1 hx
        rcases List.mem_cons.1 (hperm.mem_iff.1 hp) with h | h
        · exact congrArg some (congrArg Prod.snd h).symm
        · have := (List.mem_filter.1 h).2
          simp at this
      rw [hpx]; rfl
    rw [← h2] at h3
    exact (hE.dumpOk p h3).2
  have hvs0 : (S.all bs).vs ≠ [] → 0 < T.M.last := fun hne => hpos (fun e => hne (by
    have := hsame.keys
    rw [e, List.map_nil] at this
    exact List.map_eq_nil_iff.1 this.eq_nil))
  obtain ⟨E, hE1, hE2, hE3, hE4, hE5, hE6⟩ := load_vs (n := capOf D.Z D.S) (last := T.M.last) (vs := (S.all bs).vs) (capOf_ok h.ok) hla hvs0 hsame.n1 hvs
  have hrep := replay_log h.cnt bs [] 0 S ((logX T.x.count 1 bs).length + 1) hch (by have := logX_len T.x.count 1 bs; omega)
  simp only [List.nil_append, List.length_nil, Nat.zero_add] at hrep
  have hany : (logX T.x.count 1 bs).any strayOf = false := by
    rw [List.any_eq_false]; intro p hp; rw [(logX_mem hch p hp).2]; simp
  have hds : Ds ⟨T.x, { Mg.new (capOf D.Z D.S) T.M.last with E := E }, T.pos, T.num, false⟩ { D2 with reads := D2.reads + ((logX T.x.count 1 bs).length : Int) + (([] : List (List UInt8)).length : Int) } := by
    have hm := h.move (D' := { D2 with reads := D2.reads + ((logX T.x.count 1 bs).length : Int) + (([] : List (List UInt8)).length : Int) }) (hk2.ok.reads _) hk2.live hg2 hZ2 hS2 hzz
    refine ⟨hm.ok, hm.live, hm.good, hm.xoff, rfl, hm.inn, hm.cnt, hm.slot, hm.oth, ?_⟩
    exact ⟨bs, S, hnum, hpo, by dsimp only; rw [hZ2]; exact laid_same (D := D) hS2 hzz hlog, hpar, hch, hlast, hE4⟩
  refine ⟨{ D2 with reads := D2.reads + ((logX T.x.count 1 bs).length : Int) + (([] : List (List UInt8)).length : Int) }, E, ?_, hds, hE5.mono ?_, hE2, ?_, ⟨hZ2, hS2⟩, ?_, ?_, hE3, hE6⟩
  · have hx : (⟨T.x.inn, T.x.text, T.x.count, false⟩ : SP) = T.x := by rw [← h.xoff]
    unfold mountOf
    rw [hop]
    dsimp only
    rw [hf, if_neg (by simp), hx]
    dsimp only
    unfold mountIn
    rw [hpar, hlog2]
    dsimp only
    unfold mountLog
    rw [if_neg (by rw [hany]; simp), hrep]
    dsimp only
    rw [hlast, hZ2, hS2, hE1, if_neg (by simp)]
    unfold mountEnd
    rw [if_neg (by simp), hpo, hnum]
  · have h1 := nodup_range (capOf D.Z D.S) ((S.all bs).vs.map (·.1)) hsame.n1 (fun k hk => by
      obtain ⟨p, hp, rfl⟩ := List.mem_map.1 hk
      exact (hvs p hp).1)
    rw [List.length_map] at h1
    omega
  · rw [hE4.dump (by rw [hE2]; exact (capOf_ok h.ok).1), hsame.dump hE.b.1]
  · dsimp only
    rw [hR2]
    have h1 := hlog.1
    have h2 : D.Z * D.S = 2 * (midOf D.Z * D.S) + (D.Z - 2 * midOf D.Z) * D.S := by
      rw [← Nat.mul_assoc, ← Nat.add_mul]; congr 1; omega
    simp only [List.length_nil]
    omega
  · intro hne
    apply hvs0
    intro e
    have := hE4.keys
    rw [e, List.map_nil] at this
    exact hne (List.map_eq_nil_iff.1 this.symm.eq_nil)
end Go.SL
namespace Go.SL
open Go.Proofs
set_option synthInstance.maxSize 4000
set_option synthInstance.maxHeartbeats 400000
set_option maxRecDepth 4000
set_option maxHeartbeats 2000000

theorem Sta.all_snoc (S : Sta) (bs : List (List TV)) (b : List TV) : S.all (bs ++ [b]) = (S.all bs).txs b := by unfold Sta.all; rw [List.foldl_append]; rfl
theorem kept_slot {D D' : Dv} {a n i : Nat} {o : Option (Nat × List UInt8)} (k : Kept D D' a n) (hd : slotA D.Z i + midOf D.Z ≤ a ∨ a + n ≤ slotA D.Z i) (h : slotHas D i o) : slotHas D' i o := by
  cases o with
  | none => unfold slotHas at h ⊢; rw [k.Z]; exact laid_keep k hd h
  | some x => obtain ⟨c, t⟩ := x; unfold slotHas at h ⊢; rw [k.Z]; exact ⟨h.1, laid_keep k hd h.2⟩
theorem slotA_le (Z : Nat) {i : Nat} (hi : i < 2) : slotA Z i + midOf Z ≤ 2 * midOf Z := by
  unfold slotA
  rcases i with _ | _ | i
  · simp; omega
  · simp; omega
  · omega
/-- A batch that goes in is written. -/
theorem write_ds {T : SS} {D : Dv} (h : Ds T D) {l : List TV} (hck : checkB ((T.num : Int) + 1) l = true) (hroom : T.pos + blocksN l ≤ (D.Z - 2 * midOf D.Z) * D.S) (hlt : T.M.last < (l[0]?.getD (0, [])).1) :
    ∃ D', writeOf D T.x.count T.pos T.num l = ⟨0, T.pos + blocksN l, T.num + 1, D'⟩ ∧ (D'.Z = D.Z ∧ D'.S = D.S ∧ D'.reads = D.reads) ∧
      ∀ M', (∀ S : Sta, S.last = T.M.last → Same S.vs T.M.E.vs → (S.txs l).last = M'.last ∧ Same (S.txs l).vs M'.E.vs) → Ds ⟨T.x, M', T.pos + blocksN l, T.num + 1, false⟩ D' := by
  have z0 := h.ok.z0
  have hmid : 2 * midOf D.Z < D.Z := by unfold midOf; omega
  obtain ⟨bs, S, hnum, hpo, hlog, hpar, hch, hlast, hsame⟩ := h.log
  have hck2 : checkB ((1 + bs.length : Nat) : Int) l = true := by rw [← hnum, show ((1 + T.num : Nat) : Int) = (T.num : Int) + 1 from by omega]; exact hck
  have hel := encBatch_len T.x.count (T.num + 1) l
  have hmem : ∀ p ∈ encBatch T.x.count (T.num + 1) l, p.length = 64 := fun p hp => (encBatch_mem (n := T.num + 1) (by rw [show ((T.num + 1 : Nat) : Int) = (T.num : Int) + 1 from by omega]; exact hck) hp).1
  obtain ⟨D1, e1, hl1, k1⟩ := appGo_live (encBatch T.x.count (T.num + 1) l) D (logX T.x.count 1 bs) T.pos 0 (by omega) hlog h.live h.ok hmem (by omega) (by rw [hel, ← hpo]; exact hroom)
  obtain ⟨D2, e2, g2, k2⟩ := flush_live k1.live
  have k2 := k2 k1.ok
  have hzz : ∀ z, zoneOf D2 z = zoneOf D1 z := fun z => k2.rest z (by omega)
  have hZ : D2.Z = D.Z := k2.Z.trans k1.Z
  have hS : D2.S = D.S := k2.S.trans k1.S
  refine ⟨D2, ?_, ⟨hZ, hS, k2.reads.trans k1.reads⟩, fun M' hM' => ?_⟩
  · unfold writeOf
    rw [if_neg, e1, if_neg (by simp)]
    · dsimp only
      rw [e2, if_neg (by simp), hel]
    · rintro (hx | hx)
      · exact hx ⟨hck, by omega, by have := h.cnt; omega⟩
      · rw [hel] at hx; omega
  · have kk : Kept D D2 (2 * midOf D.Z) (D.Z - 2 * midOf D.Z) := ⟨k2.live, k2.ok, hZ, hS, k2.reads.trans k1.reads, fun z hz => (hzz z).trans (k1.rest z hz)⟩
    have hsl : ∀ i o, i < 2 → slotHas D i o → slotHas D2 i o := fun i o hi ho => kept_slot kk (.inl (slotA_le D.Z hi)) ho
    have hin := h.inn
    refine ⟨k2.ok, k2.live, g2, h.xoff, rfl, h.inn, h.cnt, ?_, ?_, ?_⟩
    · rcases h.slot with ⟨h1, h2, h3, h4⟩ | ⟨h1, h2⟩
      · exact .inl ⟨h1, h2, h3, hsl _ _ (by omega) h4⟩
      · exact .inr ⟨h1, hsl _ _ h.inn h2⟩
    · obtain ⟨o, ho, hso⟩ := h.oth
      exact ⟨o, ho, hsl _ _ (by omega) hso⟩
    · obtain ⟨m1, m2⟩ := hM' (S.all bs) hlast hsame
      refine ⟨bs ++ [l], S, by rw [List.length_append, hnum]; rfl, ?_, ?_, hpar, chainOk_snoc 1 S bs l hch hck2 (by rw [hlast]; exact hlt), by rw [Sta.all_snoc]; exact m1, by rw [Sta.all_snoc]; exact m2⟩
      · dsimp only
        rw [logX_snoc, List.length_append, encBatch_len, hpo]
      · dsimp only
        rw [logX_snoc, hZ, show 1 + bs.length = T.num + 1 from by omega]
        exact laid_same (D := D1) k2.S hzz hl1

theorem textLen_ok {T : SS} {D : Dv} {c : Nat} (ok : D.ok) (hE : EOk T.M.E c) (hbl : T.M.E.blocks = capOf D.Z D.S) : (textOf T.M.last T.M.E.dump).length ≤ 40 * (midOf D.Z * D.S - 2) ∧ (textOf T.M.last T.M.E.dump).length ≤ 1000000 ∧ ((textOf T.M.last T.M.E.dump).length + 39) / 40 + 2 ≤ midOf D.Z * D.S := by
  have z0 := ok.z0
  have z1 := ok.z1
  have s0 := ok.s0
  have s1 := ok.s1
  have hm : midOf D.Z ≤ 24 := by unfold midOf; omega
  have hm2 : 3 ≤ midOf D.Z := by unfold midOf; omega
  have hp : midOf D.Z * D.S ≤ 24 * 192 := Nat.mul_le_mul hm (by omega)
  have hp2 : 3 * 96 ≤ midOf D.Z * D.S := Nat.mul_le_mul hm2 (by omega)
  rw [textOf_len (fun x hx => (hE.dumpOk x hx).2)]
  have h1 := hE.dumpLen
  rw [hbl] at h1
  unfold capOf at h1
  generalize midOf D.Z * D.S = Y at *
  omega
/-- A checkpoint keeps the disk as the store says. -/
theorem check_ds {T : SS} {D : Dv} {c : Nat} (h : Ds T D) (hE : EOk T.M.E c) (hbl : T.M.E.blocks = capOf D.Z D.S) (hla : 0 ≤ T.M.last ∧ T.M.last ≤ 1099511627776) (hcnt : T.x.count < 4294967295) :
    ∃ D', T.check D = (0, ⟨⟨1 - T.x.inn, textOf T.M.last T.M.E.dump, T.x.count + 1, false⟩, T.M, 0, 0, false⟩, D') ∧ (D'.Z = D.Z ∧ D'.S = D.S ∧ D'.reads = D.reads) ∧ Ds ⟨⟨1 - T.x.inn, textOf T.M.last T.M.E.dump, T.x.count + 1, false⟩, T.M, 0, 0, false⟩ D' := by
  have z0 := h.ok.z0
  have hmid : 2 * midOf D.Z < D.Z := by unfold midOf; omega
  obtain ⟨t1, t2, t3⟩ := textLen_ok h.ok hE hbl
  have hpt := parse_text hla hE.hd
  have hin := h.inn
  generalize htx : textOf T.M.last T.M.E.dump = text at *
  have ha : slotA D.Z (1 - T.x.inn + 1) - slotA D.Z (1 - T.x.inn) = midOf D.Z ∧ slotA D.Z (1 - T.x.inn) ≤ slotA D.Z (1 - T.x.inn + 1) ∧ slotA D.Z (1 - T.x.inn + 1) ≤ D.Z := by
    have : T.x.inn = 0 ∨ T.x.inn = 1 := by omega
    unfold slotA
    rcases this with h | h <;> rw [h] <;> simp <;> omega
  obtain ⟨D1, e1, g1, l1, k1⟩ := slotWrite_live h.live h.ok (a := slotA D.Z (1 - T.x.inn)) (b := slotA D.Z (1 - T.x.inn + 1)) (n := T.x.count + 1) (text := text) (by omega) t2 ha.2 (by rw [ha.1]; exact t3)
  rw [ha.1] at l1 k1
  obtain ⟨D2, e2, hz2, k2, g2⟩ := wipe_live (D.Z - 2 * midOf D.Z) D1 (2 * midOf D.Z) k1.live k1.ok (by rw [k1.Z]; omega)
  have g2 := g2 g1
  have hZ : D2.Z = D.Z := k2.Z.trans k1.Z
  have hS : D2.S = D.S := k2.S.trans k1.S
  have hA : ∀ i, i < 2 → slotA D.Z i + midOf D.Z ≤ 2 * midOf D.Z := fun i hi => slotA_le D.Z hi
  have hsav : savP D T.x text = (0, ⟨1 - T.x.inn, text, T.x.count + 1, T.x.off⟩, D1) := by
    unfold savP
    rw [if_neg (by omega), if_neg (by rw [h.xoff]; simp), e1, if_neg (by simp)]
  have hchk : chkP D T.x text = ⟨0, ⟨1 - T.x.inn, text, T.x.count + 1, false⟩, D2⟩ := by
    have hW : ∀ x : SP, chW (0, x, D1) (D.Z - 2 * midOf D.Z) (2 * midOf D.Z) = (0, D2) := fun x => by unfold chW; rw [if_neg (by simp)]; exact e2
    unfold chkP
    rw [hsav, hW, if_neg (by simp), h.xoff]
  refine ⟨D2, ?_, ⟨hZ, hS, k2.reads.trans k1.reads⟩, ?_⟩
  · unfold SS.check
    rw [htx, hchk, if_pos rfl]
  · have hnew : slotHas D2 (1 - T.x.inn) (some (T.x.count + 1, text)) := by
      refine ⟨⟨by omega, by omega, t2⟩, ?_⟩
      rw [hZ]
      refine laid_keep k2 (.inl ?_) l1
      exact hA _ (by omega)
    have hold : ∀ o, slotHas D T.x.inn o → slotHas D2 T.x.inn o := by
      intro o ho
      have h1 : slotHas D1 T.x.inn o := kept_slot k1 (by
        have : T.x.inn = 0 ∨ T.x.inn = 1 := by omega
        unfold slotA
        rcases this with h | h <;> rw [h] <;> simp <;> omega) ho
      have hA2 := hA T.x.inn hin
      rw [← k1.Z] at hA2
      exact kept_slot k2 (.inl (by rw [k1.Z] at hA2 ⊢; exact hA2)) h1
    refine ⟨k2.ok, k2.live, g2, rfl, rfl, by dsimp only; omega, by dsimp only; omega, .inr ⟨by dsimp only; omega, hnew⟩, ?_, ?_⟩
    · dsimp only
      rw [show 1 - (1 - T.x.inn) = T.x.inn from by omega]
      rcases h.slot with ⟨h1, h2, h3, h4⟩ | ⟨h1, h2⟩
      · exact ⟨none, by simp [slotN], hold none (by rw [h3]; exact h4)⟩
      · exact ⟨some (T.x.count, T.x.text), by simp [slotN], hold _ h2⟩
    · refine ⟨[], _, rfl, rfl, ?_, hpt, trivial, rfl, ?_⟩
      · dsimp only; rw [hZ]; exact laid_nil hz2
      · have hn : (T.M.E.dump.map (·.1)).Nodup := by
          unfold Em.dump
          rw [if_neg (by have := hE.b; omega), List.map_map]
          have e : (Prod.fst ∘ fun k => (k, ((vget T.M.E.vs k).getD []).getLast?.getD (0, []) |>.2)) = fun k : Int => k := rfl
          have := sortI_nodup hE.nod
          simpa [List.map_map, Function.comp_def] using this
        have hal := put_alike hn
        refine ⟨hal.n1, hE.nod, fun k => ?_⟩
        show nowOf T.M.E.vs k = vget (T.M.E.dump.foldl (fun vs p => vset vs p.1 p.2) []) k
        rw [hal.eq]
        by_cases hk : k ∈ T.M.E.vs.map (·.1)
        · obtain ⟨x, hx, _⟩ := vget_mem hk
          unfold nowOf Em.dump
          rw [if_neg (by have := hE.b; omega), hx, vget_map_keys (f := fun k => (((vget T.M.E.vs k).getD []).getLast?.getD (0, [])).2) _ k (sortI_mem.2 hk), hx]; rfl
        · have h1 : nowOf T.M.E.vs k = none := by unfold nowOf; rw [vget_none.2 hk]; rfl
          rw [h1]
          refine (vget_none.2 ?_).symm
          unfold Em.dump
          rw [if_neg (by have := hE.b; omega), List.map_map]
          intro hc
          apply hk
          have : k ∈ (sortI (T.M.E.vs.map (·.1))) := by simpa [List.map_map, Function.comp_def] using hc
          exact sortI_mem.1 this
end Go.SL
namespace Go.SL
open Go.Proofs
set_option synthInstance.maxSize 4000
set_option synthInstance.maxHeartbeats 400000
set_option maxRecDepth 4000
set_option maxHeartbeats 2000000

theorem alike_round (n b : Int) (hb : 0 < b ∧ b ≤ 1000000) : Spec Tryz.prog 95 #[.int .i64 n, .int .i64 b] [] (fun v L => v = .int .i64 (restOf n b) ∧ L = []) := by
  refine enter2 Tryz.func95 rfl (by decide) (by decide) ?_
  intro B F
  dsimp only [lcA, lnA]
  have h1 := Int.tmod_lt_of_pos n hb.1
  have h2 := Int.lt_tmod_of_pos n hb.1
  repeat' first | refine adv ?_ | refine Side.go ?_ | refine Giv.mk fun _ => ?_ | refine All.mk fun q => ?_ | refine Fork.mk ?_ ?_ | (refine Two.mk (fun h => ?_) (fun h => ?_) <;> try first | contradiction | (exfalso; omega))
  · refine endQ.one Tryz.results95 ⟨?_, rfl⟩
    unfold restOf; rw [if_pos h]
  · refine endQ.one Tryz.results95 ⟨?_, rfl⟩
    unfold restOf; rw [if_neg h]

def blkAt (k i : Nat) : UInt8 := UInt8.ofNat ((i * i + k * 7 + 1) % 251)
def dataOf (k : Nat) : List UInt8 := (List.range 40).map (blkAt k)
def dataTo (k n : Nat) : List UInt8 := (List.range 40).map fun i => if i < n then blkAt k i else 0
theorem dataTo_len (k n : Nat) : (dataTo k n).length = 40 := by simp [dataTo]
theorem dataOf_len (k : Nat) : (dataOf k).length = 40 := by simp [dataOf]
theorem dataTo_zero (k : Nat) : dataTo k 0 = List.replicate 40 0 := by
  unfold dataTo
  apply List.ext_getElem (by simp)
  intro i h1 h2
  simp only [List.getElem_map, List.getElem_range, List.getElem_replicate]
  rw [if_neg (by omega)]
theorem dataTo_end (k : Nat) : dataTo k 40 = dataOf k := by
  unfold dataTo dataOf
  apply List.ext_getElem (by simp)
  intro i h1 h2
  simp at h1
  simp; omega
theorem dataTo_step (k n : Nat) (h : n < (dataTo k n).length) : (dataTo k n).set n (blkAt k n) = dataTo k (n + 1) := by
  unfold dataTo at h ⊢
  apply List.ext_getElem (by simp)
  intro i h1 h2
  rw [List.getElem_set]
  simp only [List.getElem_map, List.getElem_range]
  split
  · rename_i e; subst e; rw [if_pos (by omega)]
  · split <;> split <;> first | rfl | omega
theorem restOf_nat (a : Nat) : restOf (a : Int) 251 = ((UInt8.ofNat (a % 251)).toNat : Nat) := by
  unfold restOf
  rw [Int.tmod_eq_emod_of_nonneg (Int.natCast_nonneg a), UInt8.toNat_ofNat']
  split <;> omega

theorem byte_back (b : UInt8) : UInt8.ofNat (((b.toNat : Nat) : Int) % 256).toNat = b := by
  have := b.toNat_lt
  rw [show ((((b.toNat : Nat) : Int) % 256).toNat) = b.toNat from by omega]
  exact UInt8.ofNat_toNat

theorem alike_block (k : Nat) (hk : k ≤ 1000000000) : Spec Tryz.prog 51 #[.int .i64 40, .int .i64 k] [] (freshS (dataOf k)) := by
  refine enter2 Tryz.func51 rfl (by decide) (by decide) ?_
  intro B F
  dsimp only [lcA, lnA]
  repeat' first | refine adv ?_ | refine Side.go ?_ | refine Giv.mk fun _ => ?_ | refine All.mk fun q => ?_ | refine Fork.mk ?_ ?_ | (refine Two.mk (fun h => ?_) (fun h => ?_) <;> try first | contradiction | (exfalso; omega))
  refine Sy_loop (ι := {n : Nat // n ≤ 40}) (fun n => [(6, .int .i64 n.1), (5, .slice (some ⟨q, 0, none⟩) (dataTo k n.1).length 40), (1, .int .i64 k)]) (fun n => ownS (⟨some ⟨q, 0, none⟩, 40, dataTo k n.1⟩ : Sl UInt8) :: F) (fun n => 40 - n.1) ⟨0, by decide⟩
    (evs rfl (evs (by rw [dataTo_len]; rfl) (evs rfl .nil))) (fun w h => by dsimp only; rw [dataTo_zero]; exact (h : sat B (ownS (⟨some ⟨q, 0, none⟩, 40, List.replicate 40 0⟩ : Sl UInt8) :: F) w)) ?_
  rintro ⟨n, hn⟩ env
  dsimp only [upds]
  have hl : (dataTo k n).length = 40 := dataTo_len k n
  repeat' first | refine adv ?_ | refine Side.go ?_ | refine Giv.mk fun _ => ?_ | refine All.mk fun q => ?_ | refine Fork.mk ?_ ?_ | (refine Two.mk (fun h => ?_) (fun h => ?_) <;> try first | contradiction | (exfalso; omega))
  · have hn2 : n < 40 := by omega
    have hnn : n * n ≤ 40 * 40 := Nat.mul_le_mul (by omega) (by omega)
    simp only [(Int.natCast_mul n n).symm]
    have e0 : ((n * n : Nat) : Int) + (k : Int) * 7 + 1 = ((n * n + k * 7 + 1 : Nat) : Int) := by omega
    repeat' first | refine adv ?_ | refine Side.go ?_ | refine Giv.mk fun _ => ?_ | refine All.mk fun q => ?_ | refine Fork.mk ?_ ?_ | (refine Two.mk (fun h => ?_) (fun h => ?_) <;> try first | contradiction | (exfalso; omega))
    rw [e0]
    refine CallG.use (alike_round ((n * n + k * 7 + 1 : Nat) : Int) 251 (by decide)) ?_
    rintro r M ⟨rfl, rfl⟩
    dsimp only [lcA, lnA]
    rw [restOf_nat]
    have hb : (UInt8.ofNat ((n * n + k * 7 + 1) % 251)).toNat < 256 := UInt8.toNat_lt _
    repeat' first | refine adv ?_ | refine Side.go ?_ | refine Giv.mk fun _ => ?_ | refine All.mk fun q => ?_ | refine Fork.mk ?_ ?_ | (refine Two.mk (fun h => ?_) (fun h => ?_) <;> try first | contradiction | (exfalso; omega))
    refine loopQ.next ⟨n + 1, by omega⟩ (by simp only []; omega) (evs rfl (evs (by rw [dataTo_len, dataTo_len]) (evs rfl .nil))) (fun w h => ?_)
    rw [← dataTo_step k n (by omega)]
    rw [byte_back] at h
    exact h
  · have hn2 : n = 40 := by omega
    subst hn2
    repeat' first | refine adv ?_ | refine Side.go ?_ | refine Giv.mk fun _ => ?_ | refine All.mk fun q => ?_ | refine Fork.mk ?_ ?_ | (refine Two.mk (fun h => ?_) (fun h => ?_) <;> try first | contradiction | (exfalso; omega))
    rw [dataTo_end]
    exact endQ.one Tryz.results51 (freshS.mk _ _)

theorem alike_data (k : Nat) (hk : k ≤ 1000000000) : Spec Tryz.prog 18 #[.int .i64 k] [] (freshS (dataOf k)) := by
  refine enter1 Tryz.func18 rfl (by decide) (by decide) ?_
  intro B F
  dsimp only [lcA, lnA]
  repeat' first | refine adv ?_ | refine Side.go ?_ | refine Giv.mk fun _ => ?_ | refine All.mk fun q => ?_ | refine Fork.mk ?_ ?_ | (refine Two.mk (fun h => ?_) (fun h => ?_) <;> try first | contradiction | (exfalso; omega))
  refine CallG.use (alike_block k hk) ?_
  rintro r M ⟨a, c, rfl, rfl⟩
  dsimp only [lcA, lnA]
  repeat' first | refine adv ?_ | refine Side.go ?_ | refine Giv.mk fun _ => ?_ | refine All.mk fun q => ?_ | refine Fork.mk ?_ ?_ | (refine Two.mk (fun h => ?_) (fun h => ?_) <;> try first | contradiction | (exfalso; omega))
  exact endQ.one Tryz.results18 (freshS.mk a c)

theorem alike_bytes (s t : Sl UInt8) :
   Spec Tryz.prog 29 #[s.val, t.val] [roS s, roS t] (fun v L => v = .bool (decide (s.xs = t.xs)) ∧ L = []) := by
  refine enter2 Tryz.func29 rfl (by decide) (by decide) ?_
  intro B F
  dsimp only [lcA, lnA]
  refine Sy_know (ro_ok s) (fun hs => ?_)
  have hsl := hs.len
  repeat' first | refine adv ?_ | refine Side.go ?_ | refine Giv.mk fun _ => ?_ | refine All.mk fun q => ?_ | refine Fork.mk ?_ ?_ | (refine Two.mk (fun h => ?_) (fun h => ?_) <;> try first | contradiction | (exfalso; omega))
  · refine endQ.one Tryz.results29 ⟨?_, rfl⟩
    have : s.xs ≠ t.xs := fun e => h (by rw [e])
    simp [this]
  · have hl : s.xs.length = t.xs.length := by omega
    refine Sy_loop (ι := {k : Nat // k ≤ s.xs.length ∧ s.xs.take k = t.xs.take k}) (fun k => [(5, .int .i64 k.1), (0, s.val), (1, t.val)]) (fun _ => roS s :: roS t :: F)
      (fun k => s.xs.length - k.1) ⟨0, by simp⟩ (evs rfl (evs rfl (evs rfl .nil))) (fun _ h => h) ?_
    rintro ⟨k, hk, he⟩ env
    dsimp only [upds]
    repeat' first | refine adv ?_ | refine Side.go ?_ | refine Giv.mk fun _ => ?_ | refine All.mk fun q => ?_ | refine Fork.mk ?_ ?_ | (refine Two.mk (fun h => ?_) (fun h => ?_) <;> try first | contradiction | (exfalso; omega))
    · refine endQ.one Tryz.results29 ⟨?_, rfl⟩
      have : s.xs ≠ t.xs := fun e => h (by simp [e])
      simp [this]
    · refine loopQ.next ⟨k + 1, by omega, take_snoc_eq _ _ k (by omega) (by omega) he (UInt8.toNat_inj.1 (by omega))⟩ (by simp only []; omega) (evs rfl (evs rfl (evs rfl .nil))) (fun _ h => h)
    · refine endQ.one Tryz.results29 ⟨?_, rfl⟩
      have hk2 : k = s.xs.length := by omega
      subst hk2
      rw [List.take_of_length_le (Nat.le_refl _), List.take_of_length_le (by omega)] at he
      simp [he]

theorem ref_may (Z S : Int) : Spec Tryz.prog 9 #[.agg #[.int .i64 Z, .int .i64 S]] [] (fun v L => ∃ b : Bool, (b = true ↔ geoOk Z S) ∧ v = .bool b ∧ L = []) := by
  refine enter1 Tryz.func9 rfl (by decide) (by decide) ?_
  intro B F
  dsimp only [lcA, lnA]
  repeat' first | refine adv ?_ | refine Side.go ?_ | refine Giv.mk fun _ => ?_ | refine All.mk fun q => ?_ | refine Fork.mk ?_ ?_ | (refine Two.mk (fun h => ?_) (fun h => ?_) <;> try first | contradiction | (exfalso; omega))
  all_goals refine endQ.one Tryz.results9 ⟨_, ?_, rfl, rfl⟩
  all_goals unfold geoOk; simp; omega
theorem ref_split (Z S : Nat) (ok : geoOk Z S) : Spec Tryz.prog 65 #[.agg #[.int .i64 Z, .int .i64 S]] []
    (fun v L => v = .tuple #[.agg #[.int .i64 0, .int .i64 (midOf Z), .int .i64 (2 * midOf Z), .int .i64 ((Z : Int) - 1)], .int .i64 0] ∧ L = []) := by
  refine enter1 Tryz.func65 rfl (by decide) (by decide) ?_
  intro B F
  dsimp only [lcA, lnA]
  repeat' first | refine adv ?_ | refine Side.go ?_ | refine Giv.mk fun _ => ?_ | refine All.mk fun q => ?_ | refine Fork.mk ?_ ?_ | (refine Two.mk (fun h => ?_) (fun h => ?_) <;> try first | contradiction | (exfalso; omega))
  refine CallG.use (ref_may Z S) ?_
  rintro r M ⟨b, hb, rfl, rfl⟩
  dsimp only [lcA, lnA]
  obtain rfl := hb.2 ok
  obtain ⟨⟨z0, z1⟩, s0, s1⟩ := ok
  repeat' first | refine adv ?_ | refine Side.go ?_ | refine Giv.mk fun _ => ?_ | refine All.mk fun q => ?_ | refine Fork.mk ?_ ?_ | (refine Two.mk (fun h => ?_) (fun h => ?_) <;> try first | contradiction | (exfalso; omega))
  have e2 : (3 * (Z : Int)) / 8 = (midOf Z : Nat) := by unfold midOf; omega
  simp only [e2]
  have hm : midOf Z ≤ 24 := by unfold midOf; omega
  repeat' first | refine adv ?_ | refine Side.go ?_ | refine Giv.mk fun _ => ?_ | refine All.mk fun q => ?_ | refine Fork.mk ?_ ?_ | (refine Two.mk (fun h => ?_) (fun h => ?_) <;> try first | contradiction | (exfalso; omega))
  exact endQ.res Tryz.results65 ⟨rfl, rfl⟩
theorem ref_capacity (Z S : Nat) (ok : geoOk Z S) : Spec Tryz.prog 24 #[.agg #[.int .i64 Z, .int .i64 S]] [] (fun v L => v = .int .i64 (capOf Z S) ∧ L = []) := by
  refine enter1 Tryz.func24 rfl (by decide) (by decide) ?_
  intro B F
  dsimp only [lcA, lnA]
  repeat' first | refine adv ?_ | refine Side.go ?_ | refine Giv.mk fun _ => ?_ | refine All.mk fun q => ?_ | refine Fork.mk ?_ ?_ | (refine Two.mk (fun h => ?_) (fun h => ?_) <;> try first | contradiction | (exfalso; omega))
  refine CallG.use (ref_split Z S ok) ?_
  rintro r M ⟨rfl, rfl⟩
  dsimp only [lcA, lnA]
  obtain ⟨⟨z0, z1⟩, s0, s1⟩ := ok
  have hm : midOf Z ≤ 24 := by unfold midOf; omega
  have hm2 : 3 ≤ midOf Z := by unfold midOf; omega
  have hp : midOf Z * S ≤ 24 * 192 := Nat.mul_le_mul hm (by omega)
  have hp2 : 3 * 96 ≤ midOf Z * S := Nat.mul_le_mul hm2 (by omega)
  have hpi : (midOf Z : Int) * (S : Int) = ((midOf Z * S : Nat) : Int) := (Int.natCast_mul _ _).symm
  repeat' first | refine adv ?_ | refine Side.go ?_ | refine Giv.mk fun _ => ?_ | refine All.mk fun q => ?_ | refine Fork.mk ?_ ?_ | (refine Two.mk (fun h => ?_) (fun h => ?_) <;> try first | contradiction | (exfalso; omega))
  refine endQ.one Tryz.results24 ⟨?_, rfl⟩
  congr 1
  unfold capOf
  omega
theorem ref_steps (Z S : Nat) (ok : geoOk Z S) : Spec Tryz.prog 33 #[.agg #[.int .i64 Z, .int .i64 S]] [] (fun v L => v = .int .i64 ((2 * Z : Nat) : Int) ∧ L = []) := by
  refine enter1 Tryz.func33 rfl (by decide) (by decide) ?_
  intro B F
  dsimp only [lcA, lnA]
  repeat' first | refine adv ?_ | refine Side.go ?_ | refine Giv.mk fun _ => ?_ | refine All.mk fun q => ?_ | refine Fork.mk ?_ ?_ | (refine Two.mk (fun h => ?_) (fun h => ?_) <;> try first | contradiction | (exfalso; omega))
  refine CallG.use (ref_may Z S) ?_
  rintro r M ⟨b, hb, rfl, rfl⟩
  dsimp only [lcA, lnA]
  obtain rfl := hb.2 ok
  obtain ⟨⟨z0, z1⟩, s0, s1⟩ := ok
  repeat' first | refine adv ?_ | refine Side.go ?_ | refine Giv.mk fun _ => ?_ | refine All.mk fun q => ?_ | refine Fork.mk ?_ ?_ | (refine Two.mk (fun h => ?_) (fun h => ?_) <;> try first | contradiction | (exfalso; omega))
  exact endQ.one Tryz.results33 ⟨by congr 1, rfl⟩
theorem law_least : Spec Tryz.prog 25 #[] [] (fun v L => v = .agg #[.int .i64 8, .int .i64 96] ∧ L = []) := by
  refine enter0 Tryz.func25 rfl (by decide) ?_
  intro B F
  dsimp only [lcA, lnA]
  repeat' first | refine adv ?_ | refine Side.go ?_ | refine Giv.mk fun _ => ?_ | refine All.mk fun q => ?_ | refine Fork.mk ?_ ?_ | (refine Two.mk (fun h => ?_) (fun h => ?_) <;> try first | contradiction | (exfalso; omega))
  exact endQ.res Tryz.results25 ⟨rfl, rfl⟩
theorem ref_newmap (n : Nat) (hn : 1 ≤ n ∧ n ≤ 1048576) : Spec Tryz.prog 114 #[.int .i64 n] [] (fun v L => ∃ p, v = .tuple #[.pointer (some ⟨p, 0, none⟩), .int .i64 0] ∧ L = []) := by
  refine enter1 Tryz.func114 rfl (by decide) (by decide) ?_
  intro B F
  dsimp only [lcA, lnA]
  repeat' first | refine adv ?_ | refine Side.go ?_ | refine Giv.mk fun _ => ?_ | refine All.mk fun q => ?_ | refine Fork.mk ?_ ?_ | (refine Two.mk (fun h => ?_) (fun h => ?_) <;> try first | contradiction | (exfalso; omega))
  exact endQ.two Tryz.results114 ⟨_, rfl, rfl⟩
theorem ref_new (n : Nat) (hn : 1 ≤ n ∧ n ≤ 1048576) : Spec Tryz.prog 70 #[.int .i64 n, .int .i64 0] [] (fun v L => ∃ p, v = .tuple #[.pointer (some ⟨p, 0, none⟩), .int .i64 0] ∧ L = []) := by
  refine enter2 Tryz.func70 rfl (by decide) (by decide) ?_
  intro B F
  dsimp only [lcA, lnA]
  repeat' first | refine adv ?_ | refine Side.go ?_ | refine Giv.mk fun _ => ?_ | refine All.mk fun q => ?_ | refine Fork.mk ?_ ?_ | (refine Two.mk (fun h => ?_) (fun h => ?_) <;> try first | contradiction | (exfalso; omega))
  refine CallG.use (ref_newmap n hn) ?_
  rintro r M ⟨p, rfl, rfl⟩
  dsimp only [lcA, lnA]
  repeat' first | refine adv ?_ | refine Side.go ?_ | refine Giv.mk fun _ => ?_ | refine All.mk fun q => ?_ | refine Fork.mk ?_ ?_ | (refine Two.mk (fun h => ?_) (fun h => ?_) <;> try first | contradiction | (exfalso; omega))
  exact endQ.two Tryz.results70 ⟨_, rfl, rfl⟩
end Go.SL
namespace Go.SL
open Go.Proofs
set_option synthInstance.maxSize 4000
set_option synthInstance.maxHeartbeats 400000
set_option maxRecDepth 4000
set_option maxHeartbeats 2000000

def Dv.fresh (Z S : Nat) : Dv := ⟨Z, S, List.replicate Z ([], 0), 0, 0, false, 0, false⟩
theorem dev_fresh (Z S : Nat) (ok : geoOk Z S) : Spec Tryz.prog 11 #[.agg #[.int .i64 Z, .int .i64 S]] [] (fun v L => ∃ r, v = .tuple #[.pointer (some ⟨r, 0, none⟩), .int .i64 0] ∧ L = [devO r (Dv.fresh Z S)]) := by
  refine Spec.wrap (R := []) (α := Unit) (g := fun _ => []) (rest := fun _ => []) (fun B F w h => ⟨(), h⟩) (fun _ => dev_new Z S) ?_
  rintro _ v L (⟨hn, -⟩ | ⟨-, r, a, c, ps, hp, rfl, rfl⟩)
  · exact absurd ok hn
  · refine ⟨_, ⟨r, rfl, rfl⟩, fun B F w h => ?_⟩
    refine devO_close ⟨Z, S, a, c, ps.map (fun p => (p, ⟨⟨none, 0, []⟩, 0⟩)), 0, 0, false, 0, false⟩ ?_ h
    unfold DR.dv Dv.fresh
    dsimp only
    congr 1
    rw [List.map_map]
    have : ((fun x : Ptr × ZR => x.2.zv) ∘ fun p : Ptr => (p, (⟨⟨none, 0, []⟩, 0⟩ : ZR))) = fun _ => (([], 0) : List (List UInt8) × Nat) := by funext p; rfl
    rw [this, List.map_const', hp]; rfl
theorem fresh_zone (Z S z : Nat) : zoneOf (Dv.fresh Z S) z = [] := by
  unfold zoneOf Dv.fresh
  dsimp only
  rw [List.getElem?_replicate]
  split <;> rfl
theorem fresh_ok {Z S : Nat} (ok : geoOk Z S) : (Dv.fresh Z S).ok := by
  obtain ⟨⟨h1, h2⟩, h3, h4⟩ := ok
  refine ⟨by show 8 ≤ Z; omega, by show Z ≤ 64; omega, by show 96 ≤ S; omega, by show S ≤ 192; omega, by simp [Dv.fresh], fun z hz => ?_, show (0 : Nat) < _ by decide⟩
  have := List.eq_of_mem_replicate hz
  rw [this]; simp
/-- A store on nothing. -/
def noT (Z S : Nat) : SS := ⟨⟨1, [], 0, false⟩, Mg.new (capOf Z S) 0, 0, 0, false⟩
theorem fresh_ds {Z S : Nat} (ok : geoOk Z S) : Ds (noT Z S) (Dv.fresh Z S) := by
  have hz : ∀ z, zoneOf (Dv.fresh Z S) z = [] := fresh_zone Z S
  refine ⟨fresh_ok ok, ⟨rfl, rfl⟩, fun z hz => by rw [List.eq_of_mem_replicate hz]; rfl, rfl, rfl, show (1 : Nat) < 2 by decide, show (0 : Nat) ≤ _ by decide, .inl ⟨rfl, rfl, rfl, laid_nil (fun z _ _ => hz z)⟩, ⟨none, Nat.zero_le _, laid_nil (fun z _ _ => hz z)⟩, ?_⟩
  refine ⟨[], ⟨0, []⟩, rfl, rfl, laid_nil (fun z _ _ => hz z), rfl, trivial, rfl, ?_⟩
  exact ⟨by simp [Sta.all], by simp [noT, Mg.new], fun k => rfl⟩
theorem ds_count {T : SS} {D : Dv} (h : Ds T D) : ∀ s, openAt D 0 (midOf D.Z) (2 * midOf D.Z) 2 = some s → s.2.2 < 1099511627776 := by
  intro s hs
  rw [(open_ds h).1] at hs
  cases hs
  have := h.cnt
  dsimp only; omega
/-- A manager freshly made of what was there. -/
def Mg.of (n : Nat) (last : Int) (E : Em) : Mg := { Mg.new n last with E := E }
theorem mount_fresh {Z S : Nat} (ok : geoOk Z S) : ∃ D' la, mountOf (Dv.fresh Z S) = ⟨0, D', ⟨⟨1, [], 0, false⟩, Mg.of (capOf Z S) 0 ⟨capOf Z S, [], la⟩, 0, 0, false⟩⟩ ∧ Ds ⟨⟨1, [], 0, false⟩, Mg.of (capOf Z S) 0 ⟨capOf Z S, [], la⟩, 0, 0, false⟩ D' ∧ la ≤ 0 ∧ (D'.Z = Z ∧ D'.S = S) ∧ D'.reads ≤ ((Z * S : Nat) : Int) := by
  have hds := fresh_ds ok
  have hcap := capOf_ok (fresh_ok ok)
  obtain ⟨D', E, h1, h2, h3, h4, h5, h6, h7, h8, h9, -⟩ := mount_ds (c := 0) hds ⟨hcap, by simp [noT, Mg.new], by simp [noT, Mg.new]⟩ rfl ⟨Int.le_refl 0, show (0 : Int) ≤ _ by decide⟩ (fun h => absurd rfl h)
  obtain ⟨bl, vs, la⟩ := E
  have hvs : vs = [] := by
    apply Classical.byContradiction
    intro hne
    have := h8 hne
    exact absurd this (show ¬ ((0 : Int) < 0) by decide)
  subst hvs
  dsimp only at h4
  subst h4
  have h7' : D'.reads ≤ 0 + ((Z * S : Nat) : Int) := h7
  exact ⟨D', la, h1, h2, h9, h6, by omega⟩

/-- A fresh store, as the laws' world holds it. -/
def freshL (w d p q : Nat) (Z S : Nat) (D : Dv) (la : Int) : List HProp :=
  [cells true w 0 [.pointer (some ⟨d, 0, none⟩), .pointer (some ⟨p, 0, none⟩), .pointer (some ⟨q, 0, none⟩), .int .i64 0], stO p d Z S ⟨⟨1, [], 0, false⟩, Mg.of (capOf Z S) 0 ⟨capOf Z S, [], la⟩, 0, 0, false⟩, devO d D]
theorem law_fresh (Z S : Nat) (ok : geoOk Z S) : Spec Tryz.prog 30 #[.agg #[.int .i64 Z, .int .i64 S]] [] (fun v L => ∃ w d p q D la, v = .tuple #[.pointer (some ⟨w, 0, none⟩), .bool true] ∧
    L = freshL w d p q Z S D la ∧ Ds ⟨⟨1, [], 0, false⟩, Mg.of (capOf Z S) 0 ⟨capOf Z S, [], la⟩, 0, 0, false⟩ D ∧ la ≤ 0 ∧ (D.Z = Z ∧ D.S = S)) := by
  obtain ⟨D', la, hm, hds, hla, ⟨hZ, hS⟩, -⟩ := mount_fresh ok
  have hcap := capOf_ok (fresh_ok ok)
  subst hZ hS
  dsimp only [Dv.fresh] at hcap
  refine enter1 Tryz.func30 rfl (by decide) (by decide) ?_
  intro B F
  dsimp only [lcA, lnA]
  repeat' first | refine adv ?_ | refine Side.go ?_ | refine Giv.mk fun _ => ?_ | refine All.mk fun q => ?_ | refine Fork.mk ?_ ?_ | (refine Two.mk (fun h => ?_) (fun h => ?_) <;> try first | contradiction | (exfalso; omega))
  refine CallG.use (dev_fresh D'.Z D'.S ok) ?_
  rintro r M ⟨d, rfl, rfl⟩
  dsimp only [lcA, lnA]
  repeat' first | refine adv ?_ | refine Side.go ?_ | refine Giv.mk fun _ => ?_ | refine All.mk fun q => ?_ | refine Fork.mk ?_ ?_ | (refine Two.mk (fun h => ?_) (fun h => ?_) <;> try first | contradiction | (exfalso; omega))
  refine CallG.use (st_mount d (Dv.fresh D'.Z D'.S) (fresh_ok ok) (ds_count (fresh_ds ok))) ?_
  rw [hm]
  rintro v M (⟨h, -⟩ | ⟨-, p, rfl, rfl⟩)
  · exact absurd rfl h
  dsimp only [List.cons_append, List.nil_append, Dv.fresh]
  repeat' first | refine adv ?_ | refine Side.go ?_ | refine Giv.mk fun _ => ?_ | refine All.mk fun q => ?_ | refine Fork.mk ?_ ?_ | (refine Two.mk (fun h => ?_) (fun h => ?_) <;> try first | contradiction | (exfalso; omega))
  refine CallG.use (ref_capacity D'.Z D'.S ok) ?_
  rintro r M ⟨rfl, rfl⟩
  dsimp only [lcA, lnA]
  repeat' first | refine adv ?_ | refine Side.go ?_ | refine Giv.mk fun _ => ?_ | refine All.mk fun q => ?_ | refine Fork.mk ?_ ?_ | (refine Two.mk (fun h => ?_) (fun h => ?_) <;> try first | contradiction | (exfalso; omega))
  refine CallG.use (ref_new (capOf D'.Z D'.S) hcap) ?_
  rintro r M ⟨xq, rfl, rfl⟩
  dsimp only [lcA, lnA]
  repeat' first | refine adv ?_ | refine Side.go ?_ | refine Giv.mk fun _ => ?_ | refine All.mk fun q => ?_ | refine Fork.mk ?_ ?_ | (refine Two.mk (fun h => ?_) (fun h => ?_) <;> try first | contradiction | (exfalso; omega))
  all_goals
    refine CallG.use (sto_blocks p d D' ⟨⟨1, [], 0, false⟩, Mg.of (capOf D'.Z D'.S) 0 ⟨capOf D'.Z D'.S, [], la⟩, 0, 0, false⟩ hds.ok) ?_
    rintro v M ⟨rfl, rfl⟩
    dsimp only [lcA, lnA]
    repeat' first | refine adv ?_ | refine Side.go ?_ | refine Giv.mk fun _ => ?_ | refine All.mk fun q => ?_ | refine Fork.mk ?_ ?_ | (refine Two.mk (fun h => ?_) (fun h => ?_) <;> try first | contradiction | (exfalso; omega))
  all_goals
    refine CallG.use (ref_capacity D'.Z D'.S ok) ?_
    rintro v M ⟨rfl, rfl⟩
    dsimp only [lcA, lnA]
    repeat' first | refine adv ?_ | refine Side.go ?_ | refine Giv.mk fun _ => ?_ | refine All.mk fun q => ?_ | refine Fork.mk ?_ ?_ | (refine Two.mk (fun h => ?_) (fun h => ?_) <;> try first | contradiction | (exfalso; omega))
  all_goals
    refine endQ.twoW Tryz.results30 ⟨q, d, p, xq, D', la, by rw [decide_eq_true rfl], rfl, hds, hla, rfl, rfl⟩ (fun w h => ?_)
    dsimp only [freshL, List.cons_append, List.nil_append]
    exact goes w h
end Go.SL
namespace Go.SL
open Go.Proofs
set_option synthInstance.maxSize 4000
set_option synthInstance.maxHeartbeats 400000
set_option maxRecDepth 4000
set_option maxHeartbeats 2000000

def awE (la : Int) : Em := ⟨258, [], la⟩
def awD : List UInt8 := dataOf 1
def awW : Wb := ⟨258, 16, [(5, awD)]⟩
def awM0 (la : Int) : Mg := Mg.of 258 0 (awE la)
def awM1 (la : Int) : Mg := { awM0 la with K := ⟨16, 1, [(1, 0)]⟩, all := [(1, ⟨1, 0, 0, 0, ⟨258, 16, []⟩, ⟨64, []⟩⟩)] }
def awM2 (la : Int) : Mg := { awM1 la with all := [(1, ⟨1, 0, 0, 0, awW, ⟨64, []⟩⟩)] }
def awM3 (la : Int) : Mg := { awM2 la with given := 1, all := [(1, ⟨2, 1, 0, 0, awW, ⟨64, []⟩⟩)], queue := [1] }
def awM4 (la : Int) : Mg := { awM3 la with E := ⟨258, [(5, [(1, awD)])], 1⟩, K := ⟨16, 1, []⟩, all := [(1, ⟨3, 1, 0, 0, awW, ⟨64, []⟩⟩)], last := 1, num := 1, queue := [], out := 0 }
theorem awD_len : awD.length = 40 := dataOf_len 1
theorem aw_begin (la : Int) : (awM0 la).begin = (1, 0, awM1 la) := rfl
theorem aw_write (la : Int) : (awM1 la).write 1 [(5, awD)] = (0, awM2 la) := by
  unfold Mg.write
  have h : openT (awM1 la) 1 = some ⟨1, 0, 0, 0, ⟨258, 16, []⟩, ⟨64, []⟩⟩ := rfl
  rw [h]
  dsimp only
  have hw : Wb.write ⟨258, 16, []⟩ [(5, awD)] = (0, awW) := by
    unfold Wb.write
    rw [if_neg (by decide), if_neg (by simp), if_neg (by simp [awD_len]), if_neg (by simp), if_neg (by simp [vget])]
    rfl
  rw [hw]; rfl
theorem aw_commit (la : Int) : (awM2 la).commit1 1 ⟨1, 0, 0, 0, awW, ⟨64, []⟩⟩ 5 = (0, awM3 la) := by
  have h : (awM2 la).mayC ⟨1, 0, 0, 0, awW, ⟨64, []⟩⟩ 5 = 0 := rfl
  unfold Mg.commit1
  rw [h, if_neg (by decide)]; rfl
theorem aw_puts : awW.puts = [(5, awD)] := by
  unfold Wb.puts awW
  have : sortI [5] = [5] := by simp [sortI]
  simp only [List.map_cons, List.map_nil]
  rw [this]; rfl
theorem aw_waits (la : Int) (o : Nat) : ({ awM3 la with out := o } : Mg).waits = [(1, [(5, awD)])] := by
  have : ({ awM3 la with out := o } : Mg).waits = [(1, awW.puts)] := rfl
  rw [this, aw_puts]
theorem aw_form : formGo 0 0 [((1 : Int), [((5 : Int), awD)])] = 1 := rfl
theorem aw_batch (la : Int) : (awM3 la).batch = (0, { awM3 la with out := 1 }, 1, [(1, [(5, awD)])]) := by
  have hw : (awM3 la).waits = [(1, [(5, awD)])] := aw_waits la 0
  unfold Mg.batch
  rw [if_neg (show ¬ 0 < (awM3 la).out from Nat.lt_irrefl 0), if_neg (by simp [awM3]), hw, aw_form]; rfl
theorem aw_end (M : Mg) (h : M.all = [(1, ⟨2, 1, 0, 0, awW, ⟨64, []⟩⟩)]) (hk : M.K = ⟨16, 1, [(1, 0)]⟩) (st code : Int) (h3 : st = 3) (h0 : code = 0) : M.end 1 st code = { M with all := [(1, ⟨3, 1, 0, 0, awW, ⟨64, []⟩⟩)], K := ⟨16, 1, []⟩ } := by
  subst h3 h0
  unfold Mg.end
  have hv : vget M.all 1 = some ⟨2, 1, 0, 0, awW, ⟨64, []⟩⟩ := by rw [h]; rfl
  rw [hv]
  dsimp only
  rw [h, hk]; rfl
theorem aw_done (la : Int) (hla : la ≤ 0) : ({ awM3 la with out := 1 } : Mg).done 0 = (0, awM4 la) := by
  have ha : (awE la).apply 1 [(5, awD)] = (0, ⟨258, [(5, [(1, awD)])], 1⟩) := by
    rw [put_ok_apply (E := awE la) (t := 1) (ps := [(5, awD)]) (show 1 ≤ 258 by decide) ⟨by show la < 1; omega, by decide⟩ (by simp) (by simp) (by
      intro p hp
      rw [List.mem_singleton.1 hp]
      exact ⟨show (0 : Int) ≤ 5 ∧ (5 : Int) < (258 : Nat) by decide, awD_len⟩)]
    rfl
  have hd : ({ awM3 la with out := 1 } : Mg).doneK 0 1 = { ({ awM3 la with out := 1 } : Mg) with E := ⟨258, [(5, [(1, awD)])], 1⟩, last := 1, all := [(1, ⟨3, 1, 0, 0, awW, ⟨64, []⟩⟩)], K := ⟨16, 1, []⟩ } := by
    rw [Mg.doneK, Mg.doneK, aw_waits, Mg.done1, if_neg (by decide)]
    have : ({ ({ awM3 la with out := 1 } : Mg) with E := (({ awM3 la with out := 1 } : Mg).E.apply 1 [(5, awD)]).2, last := 1 } : Mg) = { ({ awM3 la with out := 1 } : Mg) with E := ⟨258, [(5, [(1, awD)])], 1⟩, last := 1 } := by
      have : ({ awM3 la with out := 1 } : Mg).E = awE la := rfl
      rw [this, ha]
    show Mg.end _ 1 3 0 = _
    rw [show (([(1, [(5, awD)])] : List TV)[0]?.getD (0, [])) = (1, [(5, awD)]) from rfl]
    dsimp only
    rw [this]
    exact aw_end _ rfl rfl 3 0 rfl rfl
  unfold Mg.done
  rw [if_neg (show ¬ (1 : Nat) = 0 by decide)]
  dsimp only
  rw [hd]; rfl
theorem aw_check : checkB ((0 : Int) + 1) [((1 : Int), [((5 : Int), awD)])] = true := by decide +kernel
theorem aw_dump (la : Int) : (awM4 la).E.dump = [(5, awD)] := by
  show (if (258 : Nat) = 0 then [] else (sortI [5]).map fun k => (k, (((vget [((5 : Int), [((1 : Int), awD)])] k).getD []).getLast?.getD (0, [])).2)) = _
  have : sortI [5] = [5] := by simp [sortI]
  rw [if_neg (by decide), this]; rfl
theorem vget_one {α : Type} (k : Int) (x : α) : vget [(k, x)] k = some x := by unfold vget; simp
theorem aw_flush {D : Dv} {la : Int} (hla : la ≤ 0) (h : Ds ⟨⟨1, [], 0, false⟩, awM3 la, 0, 0, false⟩ D) (hZ : D.Z = 8) (hS : D.S = 96) :
    ∃ D', (⟨⟨1, [], 0, false⟩, awM3 la, 0, 0, false⟩ : SS).flush D = (0, ⟨⟨1, [], 0, false⟩, awM4 la, 2, 1, false⟩, D') ∧ Ds ⟨⟨1, [], 0, false⟩, awM4 la, 2, 1, false⟩ D' ∧ D'.Z = 8 ∧ D'.S = 96 := by
  obtain ⟨D', hw, hg, hds⟩ := write_ds h (l := [(1, [(5, awD)])]) aw_check (by rw [hZ, hS]; exact (show (0 : Nat) + 2 ≤ (8 - 2 * midOf 8) * 96 by decide)) (show (0 : Int) < 1 by decide)
  refine ⟨D', ?_, hds (awM4 la) (fun S hl hs => ?_), hg.1.trans hZ, hg.2.1.trans hS⟩
  · unfold SS.flush flushOf
    have hw' : writeOf D 0 0 0 [(1, [(5, awD)])] = ⟨0, 2, 1, D'⟩ := hw
    rw [aw_batch, if_neg (by simp)]
    dsimp only
    rw [hw', if_neg (by simp)]
    dsimp only
    rw [aw_done la hla]
  · refine ⟨rfl, ?_⟩
    have := hs.put 5 1 awD
    exact this
theorem aw_mgf (la : Int) (hla : la ≤ 0) : MgF (awM3 la) := by
  have hw := aw_waits la 0
  have hw' : (awM3 la).waits = [(1, [(5, awD)])] := hw
  refine ⟨?_, show (1 : Nat) ≤ 1000000 by decide, ?_, by show (0 : Nat) ≤ _; decide, by rw [hw', aw_form]; decide, by rw [hw']; rfl, ?_, ?_, ?_⟩
  · intro h hh
    rw [show h = 1 from List.mem_singleton.1 hh]
    exact ⟨_, vget_one _ _⟩
  · intro e he
    rw [show e = (1, ⟨2, 1, 0, 0, awW, ⟨64, []⟩⟩) from List.mem_singleton.1 he]
    refine ⟨by show (1 : Nat) ≤ _; decide, fun x hx => ?_⟩
    rw [show x = (5, awD) from List.mem_singleton.1 hx]
    exact ⟨by decide, by decide⟩
  · rw [hw']
    intro x hx
    rw [show x = (1, [(5, awD)]) from List.mem_singleton.1 hx]; show (1 : Nat) ≤ _; decide
  · rw [hw', aw_form]
    intro code k hk e he
    have hk0 : k = 0 := by omega
    subst hk0
    cases he
  · rw [hw', aw_form]
    intro code k hk
    have hk0 : k = 0 := by omega
    subst hk0
    exact ⟨_, vget_one _ _⟩
end Go.SL
namespace Go.SL
open Go.Proofs
set_option synthInstance.maxSize 4000
set_option synthInstance.maxHeartbeats 400000
set_option maxRecDepth 4000
set_option maxHeartbeats 2000000

/-- What is put under fresh keys lies there in its order. -/
theorem put_fresh : ∀ (ps vs : List (Int × List UInt8)), ((vs ++ ps).map (·.1)).Nodup → ps.foldl (fun vs p => vset vs p.1 p.2) vs = vs ++ ps
  | [], vs, _ => (List.append_nil _).symm
  | p :: ps, vs, h => by
    have h2 : p.1 ∉ vs.map (·.1) := fun hm => by
      rw [List.map_append, List.nodup_append] at h
      exact h.2.2 _ hm _ (List.mem_map.2 ⟨p, List.mem_cons_self .., rfl⟩) rfl
    have e : vset vs p.1 p.2 = vs ++ [p] := by
      unfold vset
      rw [if_neg]
      intro ha
      obtain ⟨e, he, hk⟩ := List.any_eq_true.1 ha
      exact h2 (List.mem_map.2 ⟨e, he, by simpa using hk⟩)
    rw [List.foldl_cons, e, put_fresh ps (vs ++ [p]) (by rw [List.append_assoc]; exact h), List.append_assoc]; rfl
theorem vset_new {α : Type} {vs : List (Int × α)} {k : Int} (x : α) (h : k ∉ vs.map (·.1)) : vset vs k x = vs ++ [(k, x)] := by
  unfold vset
  rw [if_neg]
  intro ha
  obtain ⟨e, he, hk⟩ := List.any_eq_true.1 ha
  exact h (List.mem_map.2 ⟨e, he, by simpa using hk⟩)
theorem eraseP_sub {α : Type} (vs : List (Int × α)) (k : Int) : (verase vs k).Sublist vs := List.eraseP_sublist ..
/-- What holds of a manager. -/
structure MI (M : Mg) (c : Nat) : Prop where
  eok : EOk M.E c
  el : M.E.last ≤ M.last
  vt : ∀ e ∈ M.E.vs, newT e.2 ≤ M.E.last
  la : 0 ≤ M.last ∧ M.last ≤ M.given ∧ M.given ≤ 1099511627776
  pos : M.E.vs ≠ [] → 0 < M.last
  nod : (M.all.map (·.1)).Nodup
  key : ∀ e ∈ M.all, 1 ≤ e.1 ∧ e.1 ≤ M.K.last
  tr : ∀ e ∈ M.all, (e.2.S.l = [] ∧ (e.2.W.vs.map (·.1)).Nodup ∧ e.2.W.vs.length ≤ 16 ∧ e.2.W.blocks = M.E.blocks ∧ e.2.W.most = 16) ∧ ∀ x ∈ e.2.W.vs, (0 ≤ x.1 ∧ x.1 < M.E.blocks) ∧ x.2.length = 40
  q : ∀ h ∈ M.queue, ∃ T, vget M.all h = some T ∧ T.st = 2 ∧ T.W.vs ≠ [] ∧ M.last < T.time ∧ T.time ≤ M.given
  qn : M.queue.Nodup
  ql : M.queue.length ≤ M.K.last
  kk : ∀ e ∈ M.K.ts, 1 ≤ e.1 ∧ e.1 ≤ M.K.last
  kn : (M.K.ts.map (·.1)).Nodup
  out : M.out = 0
  ro : M.ro = false
theorem MI.mono {M : Mg} {c d : Nat} (h : MI M c) (hd : c ≤ d) : MI M d := { h with eok := h.eok.mono hd }
theorem MI.wok {M : Mg} {c : Nat} (h : MI M c) {e : Int × Tr} (he : e ∈ M.all) : WOk e.2.W := by
  obtain ⟨⟨_, h1, h2, h3, _⟩, h4⟩ := h.tr e he
  have hb := h.eok.b
  exact ⟨fun x hx => by have := (h4 x hx).1; omega, h1, by omega⟩
theorem MI.hall {M : Mg} {c : Nat} (h : MI M c) : ∀ e ∈ M.all, e.2.W.vs.length ≤ 1000000 ∧ ∀ x ∈ e.2.W.vs, I64 x.1 := fun e he => by
  have hb := h.eok.b
  have h2 := (h.tr e he).1.2.2.1
  exact ⟨by omega, fun x hx => by have := ((h.tr e he).2 x hx).1; constructor <;> omega⟩
theorem MI.qin {M : Mg} {c : Nat} (h : MI M c) : ∀ j ∈ M.queue, ∃ T, vget M.all j = some T := fun j hj => by
  obtain ⟨T, hT, _⟩ := h.q j hj; exact ⟨T, hT⟩
theorem MI.hi {M : Mg} {c : Nat} (h : MI M c) (hl : M.K.last ≤ 1000000000) : ∀ e ∈ M.K.ts, I64 e.1 := fun e he => by
  have := h.kk e he; constructor <;> omega
theorem MI.kl {M : Mg} {c : Nat} (h : MI M c) : M.K.ts.length ≤ M.K.last := by
  have := nodup_range (M.K.last + 1) (0 :: M.K.ts.map (·.1)) (List.nodup_cons.2 ⟨fun hm => by obtain ⟨e, he, h0⟩ := List.mem_map.1 hm; have := h.kk e he; omega, h.kn⟩) (fun k hk => by
    rcases List.mem_cons.1 hk with rfl | hk
    · omega
    · obtain ⟨e, he, rfl⟩ := List.mem_map.1 hk; have := h.kk e he; omega)
  rw [List.length_cons, List.length_map] at this
  omega
theorem MI.new {n : Nat} (hn : 1 ≤ n ∧ n ≤ 1048576) {last : Int} (hl : 0 ≤ last ∧ last ≤ 1099511627776) {E : Em} {c : Nat} (hE : EOk E c) (hb : E.last ≤ last) (hv : ∀ e ∈ E.vs, newT e.2 ≤ E.last) (hp : E.vs ≠ [] → 0 < last) : MI { Mg.new n last with E := E } c :=
  ⟨hE, hb, hv, ⟨hl.1, Int.le_refl _, hl.2⟩, hp, List.nodup_nil, fun e he => (by cases he), fun e he => (by cases he), fun e he => (by cases he), List.nodup_nil, Nat.le_refl _, fun e he => (by cases he), List.nodup_nil, rfl, rfl⟩

def Mg.begin1 (M : Mg) : Mg := { M with K := ⟨M.K.most, M.K.last + 1, M.K.ts ++ [(((M.K.last + 1 : Nat) : Int), M.last)]⟩, all := M.all ++ [(((M.K.last + 1 : Nat) : Int), Tr.new M.E.blocks M.last)] }
theorem MI.fresh {M : Mg} {c : Nat} (h : MI M c) : ((M.K.last + 1 : Nat) : Int) ∉ M.all.map (·.1) ∧ ((M.K.last + 1 : Nat) : Int) ∉ M.K.ts.map (·.1) := by
  constructor
  · intro hm; obtain ⟨e, he, h0⟩ := List.mem_map.1 hm; have := h.key e he; omega
  · intro hm; obtain ⟨e, he, h0⟩ := List.mem_map.1 hm; have := h.kk e he; omega
theorem vget_app {α : Type} (vs : List (Int × α)) (k j : Int) (x : α) (h : k ∉ vs.map (·.1)) : vget (vs ++ [(k, x)]) j = if j = k then some x else vget vs j := by
  rw [← vset_new x h, vget_vset_eq]
theorem MI.begin {M : Mg} {c : Nat} (h : MI M c) (hk : M.K.ts.length < M.K.most) : M.begin = (((M.K.last + 1 : Nat) : Int), 0, M.begin1) ∧ MI M.begin1 c := by
  obtain ⟨f1, f2⟩ := h.fresh
  have hla := h.la
  constructor
  · have e : M.K.open M.last = (((M.K.last + 1 : Nat) : Int), 0, ⟨M.K.most, M.K.last + 1, M.K.ts ++ [(((M.K.last + 1 : Nat) : Int), M.last)]⟩) := by
      unfold Bk.open
      rw [if_neg (by omega), if_neg (by omega), vset_new _ f2]
    unfold Mg.begin
    rw [e]
    dsimp only
    rw [if_pos rfl, vset_new _ f1]
    rfl
  · refine ⟨h.eok, h.el, h.vt, h.la, h.pos, ?_, ?_, ?_, ?_, h.qn, ?_, ?_, ?_, h.out, h.ro⟩
    · show ((M.all ++ [(((M.K.last + 1 : Nat) : Int), Tr.new M.E.blocks M.last)]).map (·.1)).Nodup
      rw [List.map_append, List.nodup_append]
      exact ⟨h.nod, by simp, fun a ha b hb e => f1 (by rw [← show a = ((M.K.last + 1 : Nat) : Int) from e.trans (by simpa using hb)]; exact ha)⟩
    · intro e he
      rcases List.mem_append.1 he with he | he
      · have := h.key e he; show 1 ≤ e.1 ∧ e.1 ≤ ((M.K.last + 1 : Nat) : Int); omega
      · rw [List.mem_singleton.1 he]; show 1 ≤ ((M.K.last + 1 : Nat) : Int) ∧ ((M.K.last + 1 : Nat) : Int) ≤ ((M.K.last + 1 : Nat) : Int); omega
    · intro e he
      rcases List.mem_append.1 he with he | he
      · exact h.tr e he
      · rw [List.mem_singleton.1 he]; exact ⟨⟨rfl, List.nodup_nil, by show 0 ≤ 16; omega, rfl, rfl⟩, fun x hx => (by cases hx)⟩
    · intro j hj
      obtain ⟨T, hT, hr⟩ := h.q j hj
      refine ⟨T, ?_, hr⟩
      show vget (M.all ++ [(((M.K.last + 1 : Nat) : Int), Tr.new M.E.blocks M.last)]) j = some T
      rw [vget_app _ _ _ _ f1, if_neg (fun e => f1 (List.mem_map.2 ⟨_, vget_memE hT, e⟩)), hT]
    · show M.queue.length ≤ M.K.last + 1
      have := h.ql; omega
    · intro e he
      rcases List.mem_append.1 he with he | he
      · have := h.kk e he; show 1 ≤ e.1 ∧ e.1 ≤ ((M.K.last + 1 : Nat) : Int); omega
      · rw [List.mem_singleton.1 he]; show 1 ≤ ((M.K.last + 1 : Nat) : Int) ∧ ((M.K.last + 1 : Nat) : Int) ≤ ((M.K.last + 1 : Nat) : Int); omega
    · show ((M.K.ts ++ [(((M.K.last + 1 : Nat) : Int), M.last)]).map (·.1)).Nodup
      rw [List.map_append, List.nodup_append]
      exact ⟨h.kn, by simp, fun a ha b hb e => f2 (by rw [← show a = ((M.K.last + 1 : Nat) : Int) from e.trans (by simpa using hb)]; exact ha)⟩
theorem begin1_get {M : Mg} {c : Nat} (h : MI M c) (j : Int) : vget M.begin1.all j = if j = ((M.K.last + 1 : Nat) : Int) then some (Tr.new M.E.blocks M.last) else vget M.all j := vget_app _ _ _ _ h.fresh.1
theorem waits_same {M M' : Mg} (hq : M'.queue = M.queue) (ha : ∀ j ∈ M.queue, vget M'.all j = vget M.all j) : M'.waits = M.waits := by
  unfold Mg.waits
  rw [hq]
  have : ∀ l : List Int, (∀ j ∈ l, vget M'.all j = vget M.all j) → (l.filterMap fun h => (vget M'.all h).map fun T => (T.time, T.W.puts)) = l.filterMap fun h => (vget M.all h).map fun T => (T.time, T.W.puts) := by
    intro l
    induction l with
    | nil => intro _; rfl
    | cons a l ih =>
      intro h
      rw [List.filterMap_cons, List.filterMap_cons, h a (List.mem_cons_self ..), ih (fun j hj => h j (List.mem_cons_of_mem _ hj))]
  exact this _ ha
theorem begin1_waits {M : Mg} {c : Nat} (h : MI M c) : M.begin1.waits = M.waits := waits_same rfl (fun j hj => by
  obtain ⟨T, hT, _⟩ := h.q j hj
  rw [begin1_get h, if_neg (fun e => h.fresh.1 (List.mem_map.2 ⟨_, vget_memE hT, e⟩))])

def Mg.set (M : Mg) (h : Int) (T : Tr) : Mg := { M with all := vset M.all h T }
theorem MI.write {M : Mg} {c : Nat} (h : MI M c) {hd : Int} {T : Tr} (hT : vget M.all hd = some T) (hst : T.st = 1) (hw : T.W.vs = []) {ps : List PV} (hp : ps ≠ []) (hl : ps.length ≤ 16) (hn : (ps.map (·.1)).Nodup) (hg : ∀ p ∈ ps, (0 ≤ p.1 ∧ p.1 < M.E.blocks) ∧ p.2.length = 40) :
    M.write hd ps = (0, M.set hd { T with W := ⟨M.E.blocks, 16, ps⟩ }) ∧ MI (M.set hd { T with W := ⟨M.E.blocks, 16, ps⟩ }) c := by
  have htr := h.tr _ (vget_memE hT)
  obtain ⟨⟨t1, t2, t3, t4, t5⟩, t6⟩ := htr
  dsimp only at t1 t2 t3 t4 t5 t6
  have hW : T.W.write ps = (0, ⟨M.E.blocks, 16, ps⟩) := by
    unfold Wb.write
    rw [if_neg (fun h0 => hp (List.eq_nil_of_length_eq_zero h0)), if_neg, if_neg, if_neg (Classical.not_not.2 hn), if_neg]
    · unfold Wb.put
      rw [hw, put_fresh ps [] (by simpa using hn), List.nil_append, t4, t5]
    · rw [t5, hw]
      have := List.length_filter_le (fun p : PV => (vget ([] : List (Int × List UInt8)) p.1).isNone) ps
      simp only [List.length_nil]
      omega
    · intro ha
      obtain ⟨p, hpm, h2⟩ := List.any_eq_true.1 ha
      have := (hg p hpm).2
      simp at h2; omega
    · intro ha
      obtain ⟨p, hpm, h2⟩ := List.any_eq_true.1 ha
      have := (hg p hpm).1
      rw [t4] at h2
      simp at h2; omega
  constructor
  · unfold Mg.write openT
    rw [hT]
    dsimp only
    rw [if_pos hst]
    dsimp only
    rw [hW]
    rfl
  · refine ⟨h.eok, h.el, h.vt, h.la, h.pos, vset_nodup _ _ h.nod, ?_, ?_, ?_, h.qn, h.ql, h.kk, h.kn, h.out, h.ro⟩
    · intro e he
      rcases vset_mem he with rfl | he
      · exact h.key (hd, T) (vget_memE hT)
      · exact h.key e he
    · intro e he
      rcases vset_mem he with rfl | he
      · exact ⟨⟨t1, hn, hl, rfl, rfl⟩, hg⟩
      · exact h.tr e he
    · intro j hj
      obtain ⟨X, hX, hr⟩ := h.q j hj
      refine ⟨X, ?_, hr⟩
      show vget (vset M.all hd _) j = some X
      rw [vget_vset_ne _ _ (fun e => by rw [e, hT] at hX; cases hX; rw [hst] at hr; exact absurd hr.1 (by decide)), hX]
theorem set_waits {M : Mg} {c : Nat} (h : MI M c) {hd : Int} {T T' : Tr} (hT : vget M.all hd = some T) (hst : T.st = 1) : (M.set hd T').waits = M.waits := waits_same rfl (fun j hj => by
  obtain ⟨X, hX, hr⟩ := h.q j hj
  exact vget_vset_ne _ _ (fun e => by rw [e, hT] at hX; cases hX; rw [hst] at hr; exact absurd hr.1 (by decide)))
end Go.SL
namespace Go.SL
open Go.Proofs
set_option synthInstance.maxSize 4000
set_option synthInstance.maxHeartbeats 400000
set_option maxRecDepth 4000
set_option maxHeartbeats 2000000

theorem against_none (t : TV) : (⟨64, []⟩ : Iv).against t = false := by
  unfold Iv.against Iv.meets
  rw [List.any_eq_false]
  intro p _
  simp
theorem no_hit {E : Em} {at_ : Int} {Q : List TV} {W : Wb} (h : WOk W) (hE : ∀ e ∈ E.vs, e.1 ∈ W.vs.map (·.1) → newT e.2 ≤ at_) (hQ : ∀ t ∈ Q, ∀ p ∈ t.2, p.1 ∉ W.vs.map (·.1)) : checkQ E at_ Q ⟨64, []⟩ W.set = 0 := by
  have s := h.setIs
  have hc : ∀ x ∈ W.set.l, ∀ k, x.f ≤ k → k < x.f + x.n → k ∈ W.vs.map (·.1) := fun x hx k h1 h2 => sortI_mem.1 ((s.cov k).1 ⟨x, hx, h1, h2⟩)
  have h1 : hitS E at_ Q ⟨64, []⟩ = false := by
    unfold hitS
    rw [Bool.or_eq_false_iff]
    exact ⟨rfl, List.any_eq_false.2 fun t _ => by rw [against_none]; decide⟩
  have hw : ∀ (f n : Int), (∀ k, f ≤ k → k < f + n → k ∈ W.vs.map (·.1)) → E.written f n at_ = false := by
    intro f n hfn
    unfold Em.written
    split
    · rfl
    · refine List.any_eq_false.2 fun e he => ?_
      unfold wrote
      rw [decide_eq_true_eq]
      rintro ⟨a, b, d⟩
      have := hE e he (hfn e.1 a (by omega))
      unfold newT at this
      omega
  have h2 : hitS E at_ Q W.set = false := by
    unfold hitS
    rw [Bool.or_eq_false_iff]
    refine ⟨List.any_eq_false.2 fun x hx => ?_, List.any_eq_false.2 fun t ht => ?_⟩
    · obtain ⟨hn, hb⟩ := s.nrm.2 x hx
      unfold hitE
      rw [hw x.f _ (fun k a b => hc x hx k a (by omega)), hw _ 1 (fun k a b => hc x hx k (by omega) (by omega))]
      decide
    · unfold Iv.against
      rw [Bool.not_eq_true, List.any_eq_false]
      intro p hp
      unfold Iv.meets
      rw [Bool.and_eq_true, List.any_eq_true]
      rintro ⟨-, x, hx, hm⟩
      unfold meetB at hm
      rw [Bool.and_eq_true, decide_eq_true_eq, decide_eq_true_eq] at hm
      dsimp only at hm
      exact hQ t ht p hp (hc x hx p.1 (by omega) (by omega))
  unfold checkQ
  rw [h1, h2]
  simp
def Mg.commitA (M : Mg) (h : Int) (T : Tr) : Mg := { M with given := M.given + 1, all := vset M.all h { T with st := 2, time := M.given + 1 }, queue := M.queue ++ [h] }
theorem MI.notq {M : Mg} {c : Nat} (h : MI M c) {hd : Int} {T : Tr} (hT : vget M.all hd = some T) (hst : T.st = 1) : hd ∉ M.queue := fun hm => by
  obtain ⟨X, hX, hr⟩ := h.q hd hm
  rw [hT] at hX; cases hX; rw [hst] at hr; exact absurd hr.1 (by decide)
theorem MI.hO {M : Mg} {c : Nat} (h : MI M c) (hd : Int) : ∀ T, openT M hd = some T → hd ∉ M.queue ∧ T.S.l = [] ∧ WOk T.W := by
  intro T hT
  unfold openT at hT
  split at hT
  · rename_i X hX
    split at hT
    · rename_i hst
      cases hT
      exact ⟨h.notq hX hst, (h.tr _ (vget_memE hX)).1.1, h.wok (vget_memE hX)⟩
    · cases hT
  · cases hT
theorem MI.commit {M : Mg} {c : Nat} (h : MI M c) {hd : Int} {T : Tr} (hT : vget M.all hd = some T) (hst : T.st = 1) (hw : T.W.vs ≠ []) (hg : M.given < 1099511627776) (hE : ∀ e ∈ M.E.vs, e.1 ∈ T.W.vs.map (·.1) → newT e.2 ≤ T.at_) (hQ : ∀ t ∈ M.waits, ∀ p ∈ t.2, p.1 ∉ T.W.vs.map (·.1)) :
    M.commit hd = (0, M.commitA hd T) ∧ MI (M.commitA hd T) c := by
  have hm : M.mayQ T = 0 := by
    unfold Mg.mayQ
    rw [if_neg (by rw [h.ro]; decide), no_hit (h.wok (vget_memE hT)) hE hQ, if_neg (by decide), if_neg (by omega)]
  have hnq := h.notq hT hst
  have hla := h.la
  constructor
  · unfold Mg.commit openT
    rw [hT]
    dsimp only
    rw [if_pos hst]
    dsimp only
    rw [if_neg hw, hm, if_neg (by decide)]
    rfl
  · refine ⟨h.eok, h.el, h.vt, ?_, h.pos, vset_nodup _ _ h.nod, ?_, ?_, ?_, ?_, ?_, h.kk, h.kn, h.out, h.ro⟩
    · show 0 ≤ M.last ∧ M.last ≤ M.given + 1 ∧ M.given + 1 ≤ 1099511627776; omega
    · intro e he
      rcases vset_mem he with rfl | he
      · exact h.key (hd, T) (vget_memE hT)
      · exact h.key e he
    · intro e he
      rcases vset_mem he with rfl | he
      · exact h.tr (hd, T) (vget_memE hT)
      · exact h.tr e he
    · intro j hj
      rcases List.mem_append.1 hj with hj | hj
      · obtain ⟨X, hX, hr⟩ := h.q j hj
        refine ⟨X, ?_, hr.1, hr.2.1, hr.2.2.1, by show X.time ≤ M.given + 1; omega⟩
        show vget (vset M.all hd _) j = some X
        rw [vget_vset_ne _ _ (show j ≠ hd from fun e => hnq (by rw [← e]; exact hj)), hX]
      · rw [List.mem_singleton.1 hj]
        exact ⟨_, vget_vset _ _ _, rfl, hw, by show M.last < M.given + 1; omega, Int.le_refl _⟩
    · show (M.queue ++ [hd]).Nodup
      rw [List.nodup_append]
      exact ⟨h.qn, by simp, fun a ha b hb e => hnq (by rw [← show a = hd from e.trans (by simpa using hb)]; exact ha)⟩
    · show (M.queue ++ [hd]).length ≤ M.K.last
      have h1 : (hd :: M.queue).Nodup := List.nodup_cons.2 ⟨hnq, h.qn⟩
      have h2 := nodup_range (M.K.last + 1) (0 :: hd :: M.queue) (List.nodup_cons.2 ⟨fun hm => by
        rcases List.mem_cons.1 hm with h0 | hm
        · have := h.key (hd, T) (vget_memE hT); dsimp only at this; omega
        · obtain ⟨X, hX, _⟩ := h.q 0 hm
          have := h.key (0, X) (vget_memE hX); dsimp only at this; omega, h1⟩) (fun k hk => by
        rcases List.mem_cons.1 hk with rfl | hk
        · omega
        · rcases List.mem_cons.1 hk with rfl | hm
          · have := h.key (k, T) (vget_memE hT); dsimp only at this; omega
          · obtain ⟨X, hX, _⟩ := h.q k hm
            have := h.key (k, X) (vget_memE hX); dsimp only at this; omega)
      rw [List.length_cons, List.length_cons] at h2
      rw [List.length_append, List.length_singleton]; omega
theorem puts_rises {W : Wb} (h : (W.vs.map (·.1)).Nodup) : (W.puts.map (·.1)).Pairwise (· < ·) := by
  have : W.puts.map (·.1) = sortI (W.vs.map (·.1)) := by unfold Wb.puts; rw [List.map_map]; exact List.map_id _
  rw [this]; exact sortI_lt h
theorem puts_good {W : Wb} {n : Nat} (hg : ∀ x ∈ W.vs, (0 ≤ x.1 ∧ x.1 < n) ∧ x.2.length = 40) : ∀ p ∈ W.puts, (0 ≤ p.1 ∧ p.1 < n) ∧ p.2.length = 40 := by
  intro p hp
  unfold Wb.puts at hp
  obtain ⟨k, hk, rfl⟩ := List.mem_map.1 hp
  obtain ⟨x, hx, hm⟩ := vget_mem (sortI_mem.1 hk)
  have := hg _ hm
  dsimp only
  rw [hx]
  exact this
theorem puts_len (W : Wb) : W.puts.length = W.vs.length := by unfold Wb.puts; rw [List.length_map, sortI_len, List.length_map]

/-- What a batch of one leaves where it was written, and where not. -/
def Mg.doneA (M : Mg) (h : Int) (T : Tr) : Mg :=
  { M with E := M.E.put T.time T.W.puts, last := T.time, all := vset M.all h { T with st := 3, code := 0 }, K := { M.K with ts := verase M.K.ts h }, num := M.num + 1, queue := [], out := 0 }
def Mg.doneN (M : Mg) (h : Int) (T : Tr) (code : Int) : Mg :=
  { M with all := vset M.all h { T with st := 4, code := code, time := 0 }, K := { M.K with ts := verase M.K.ts h }, queue := [], out := 0 }
theorem one_waits {M : Mg} {h : Int} {T : Tr} (hT : vget M.all h = some T) (hq : M.queue = [h]) : M.waits = [(T.time, T.W.puts)] := by
  unfold Mg.waits; rw [hq, List.filterMap_cons, hT]; rfl
theorem one_form (t : TV) : formGo 0 0 [t] = 1 := by
  unfold formGo
  rw [if_neg (by omega)]
  unfold formGo; rfl
theorem one_batch {M : Mg} {c : Nat} (hM : MI M c) {h : Int} {T : Tr} (hT : vget M.all h = some T) (hq : M.queue = [h]) : M.batch = (0, { M with out := 1 }, (M.num : Int) + 1, [(T.time, T.W.puts)]) := by
  unfold Mg.batch
  rw [if_neg (by rw [hM.out]; omega), if_neg (by rw [hq]; simp), one_waits hT hq, one_form]
  rfl
theorem one_apply {M : Mg} {c : Nat} (hM : MI M c) {h : Int} {T : Tr} (hT : vget M.all h = some T) (hq : M.queue = [h]) : M.E.apply T.time T.W.puts = (0, M.E.put T.time T.W.puts) := by
  obtain ⟨X, hX, h1, h2, h3, h4⟩ := hM.q h (by rw [hq]; exact List.mem_singleton.2 rfl)
  rw [hT] at hX; cases hX
  obtain ⟨⟨t1, t2, t3, t4, t5⟩, t6⟩ := hM.tr _ (vget_memE hT)
  have hel := hM.el
  have hla := hM.la
  refine put_ok_apply hM.eok.b.1 (by omega) (puts_rises t2) ?_ (puts_good t6)
  rw [puts_len]
  exact List.length_pos_iff.2 h2
theorem one_done {M : Mg} {c : Nat} (hM : MI M c) {h : Int} {T : Tr} (hT : vget M.all h = some T) (hq : M.queue = [h]) (code : Int) :
    ({ M with out := 1 } : Mg).done code = (0, if code = 0 then M.doneA h T else M.doneN h T code) := by
  have hw := one_waits hT hq
  unfold Mg.done
  rw [if_neg (by dsimp only; omega)]
  have hk : ({ M with out := 1 } : Mg).doneK code 1 = ({ M with out := 1 } : Mg).done1 code h (T.time, T.W.puts) := by
    show (({ M with out := 1 } : Mg).doneK code 0).done1 code (M.queue[0]?.getD 0) (({ M with out := 1 } : Mg).waits[0]?.getD (0, [])) = _
    rw [show ({ M with out := 1 } : Mg).waits = M.waits from rfl, hw, hq]
    rfl
  have hap := one_apply hM hT hq
  dsimp only
  rw [hk]
  unfold Mg.done1
  by_cases hc : code = 0
  · rw [if_neg (by simp [hc]), if_pos hc]
    unfold Mg.end
    dsimp only
    rw [hT, hap]
    dsimp only
    simp only [if_pos hc, hq]
    unfold Mg.doneA
    congr 2
  · rw [if_pos hc, if_neg hc]
    unfold Mg.end
    dsimp only
    rw [hT]
    dsimp only
    simp only [if_neg hc, hq]
    unfold Mg.doneN
    congr 2
theorem one_mgf {M : Mg} {c : Nat} (hM : MI M c) (hc : c ≤ 1000000) (hl : M.K.last ≤ 1000000) (hn : M.num ≤ 1000000000) {h : Int} {T : Tr} (hT : vget M.all h = some T) (hq : M.queue = [h]) : MgF M := by
  have hw := one_waits hT hq
  have hk0 : ∀ k, k < formGo 0 0 M.waits → k = 0 := fun k hk => by rw [hw, one_form] at hk; omega
  refine ⟨hM.qin, by rw [hq]; exact (by show 1 ≤ 1000000; omega), hM.hall, hn, by rw [hw, one_form]; exact Nat.le_refl _, by rw [hw, hq]; rfl, ?_, ?_, ?_⟩
  · rw [hw]
    intro x hx
    rw [List.mem_singleton.1 hx]
    show T.W.puts.length ≤ 1000000
    rw [puts_len]
    have := (hM.tr _ (vget_memE hT)).1.2.2.1
    dsimp only at this; omega
  · intro code k hk e he
    rw [hk0 k hk] at he
    have := (hM.eok.key e he).2.1.2
    omega
  · intro code k hk
    rw [hk0 k hk]
    exact ⟨T, by rw [hq]; exact hT⟩
theorem verase_mem {α : Type} {vs : List (Int × α)} {k : Int} {e : Int × α} (h : e ∈ verase vs k) : e ∈ vs := List.mem_of_mem_eraseP h
theorem one_tail {M : Mg} {c : Nat} (hM : MI M c) {h : Int} {T : Tr} (hT : vget M.all h = some T) (T' : Tr) (hW : T'.W = T.W) (hS : T'.S = T.S) :
    ((vset M.all h T').map (·.1)).Nodup ∧ (∀ e ∈ vset M.all h T', 1 ≤ e.1 ∧ e.1 ≤ M.K.last) ∧ (∀ e ∈ vset M.all h T', (e.2.S.l = [] ∧ (e.2.W.vs.map (·.1)).Nodup ∧ e.2.W.vs.length ≤ 16 ∧ e.2.W.blocks = M.E.blocks ∧ e.2.W.most = 16) ∧ ∀ x ∈ e.2.W.vs, (0 ≤ x.1 ∧ x.1 < M.E.blocks) ∧ x.2.length = 40) ∧
    (∀ e ∈ verase M.K.ts h, 1 ≤ e.1 ∧ e.1 ≤ M.K.last) ∧ ((verase M.K.ts h).map (·.1)).Nodup := by
  refine ⟨vset_nodup _ _ hM.nod, ?_, ?_, fun e he => hM.kk e (verase_mem he), ((eraseP_sub _ _).map _).nodup hM.kn⟩
  · intro e he
    rcases vset_mem he with rfl | he
    · exact hM.key (h, T) (vget_memE hT)
    · exact hM.key e he
  · intro e he
    rcases vset_mem he with rfl | he
    · dsimp only
      rw [hW, hS]
      exact hM.tr (h, T) (vget_memE hT)
    · exact hM.tr e he
theorem MI.doneA {M : Mg} {c : Nat} (hM : MI M c) {h : Int} {T : Tr} (hT : vget M.all h = some T) (hq : M.queue = [h]) : MI (M.doneA h T) (c + 16) := by
  obtain ⟨X, hX, h1, h2, h3, h4⟩ := hM.q h (by rw [hq]; exact List.mem_singleton.2 rfl)
  rw [hT] at hX; cases hX
  obtain ⟨⟨t1, t2, t3, t4, t5⟩, t6⟩ := hM.tr _ (vget_memE hT)
  obtain ⟨a1, a2, a3, a4, a5⟩ := one_tail hM hT { T with st := 3, code := 0 } rfl rfl
  have hla := hM.la
  have hel := hM.el
  have hap := one_apply hM hT hq
  have hok := apply_ok (t := T.time) (ps := T.W.puts) hM.eok
  rw [hap] at hok
  refine ⟨hok.mono (by rw [puts_len]; dsimp only at t3; omega), Int.le_refl _, ?_, ?_, ?_, a1, a2, a3, ?_, List.nodup_nil, Nat.zero_le _, a4, a5, rfl, hM.ro⟩
  · exact newT_put T.time _ _ (fun e he => by have := hM.vt e he; omega)
  · show 0 ≤ T.time ∧ T.time ≤ M.given ∧ M.given ≤ 1099511627776; omega
  · intro _; show 0 < T.time; omega
  · intro j hj; cases hj
theorem MI.doneN {M : Mg} {c : Nat} (hM : MI M c) {h : Int} {T : Tr} (hT : vget M.all h = some T) (code : Int) : MI (M.doneN h T code) c := by
  obtain ⟨a1, a2, a3, a4, a5⟩ := one_tail hM hT { T with st := 4, code := code, time := 0 } rfl rfl
  refine ⟨hM.eok, hM.el, hM.vt, hM.la, hM.pos, a1, a2, a3, ?_, List.nodup_nil, Nat.zero_le _, a4, a5, rfl, hM.ro⟩
  intro j hj; cases hj
end Go.SL
namespace Go.SL
open Go.Proofs
set_option synthInstance.maxSize 4000
set_option synthInstance.maxHeartbeats 400000
set_option maxRecDepth 4000
set_option maxHeartbeats 2000000

theorem one_check {M : Mg} {c : Nat} (hM : MI M c) {num : Nat} (hn : num < 1099511627776) {h : Int} {T : Tr} (hT : vget M.all h = some T) (hq : M.queue = [h]) : checkB ((num : Int) + 1) [(T.time, T.W.puts)] = true := by
  obtain ⟨X, hX, h1, h2, h3, h4⟩ := hM.q h (by rw [hq]; exact List.mem_singleton.2 rfl)
  rw [hT] at hX; cases hX
  obtain ⟨⟨t1, t2, t3, t4, t5⟩, t6⟩ := hM.tr _ (vget_memE hT)
  dsimp only at t1 t2 t3 t4 t5 t6
  have hla := hM.la
  have hb := hM.eok.b
  have hl := puts_len T.W
  have hpos := List.length_pos_iff.2 h2
  have hr := rises_of (puts_rises t2)
  have hg := puts_good t6
  have ho : orderOk 0 [(T.time, T.W.puts)] = true := by
    unfold orderOk
    dsimp only
    rw [if_neg (by omega), hr]
    rfl
  have hbl : blocksN [(T.time, T.W.puts)] = 1 + T.W.vs.length := by
    unfold blocksN; simp [hl]
  unfold checkB
  rw [if_neg, List.head?_cons]
  · unfold stepsGo
    dsimp only [Option.getD_some]
    rw [if_neg]
    · rfl
    · rintro (h | h | h)
      · omega
      · omega
      · obtain ⟨p, hp, h5⟩ := List.any_eq_true.1 h
        have := hg p hp
        simp only [putOk, Bool.not_eq_true', decide_eq_false_iff_not, Bool.and_eq_false_iff, decide_eq_true_eq] at h5
        omega
  · rw [ho, hbl, List.length_singleton]
    rintro (h | h | h | h | h | h)
    · omega
    · omega
    · omega
    · omega
    · cases h
    · omega
theorem one_blocks {T : Tr} : blocksN [(T.time, T.W.puts)] = 1 + T.W.vs.length := by
  unfold blocksN; simp [puts_len]
/-- A batch of one that finds room. -/
theorem flush_yes {T : SS} {D : Dv} (h : Ds T D) {c : Nat} (hM : MI T.M c) (hn : T.num < 1099511627776) {hd : Int} {X : Tr} (hT : vget T.M.all hd = some X) (hq : T.M.queue = [hd]) (hroom : T.pos + (1 + X.W.vs.length) ≤ (D.Z - 2 * midOf D.Z) * D.S) :
    ∃ D', T.flush D = (0, ⟨T.x, T.M.doneA hd X, T.pos + (1 + X.W.vs.length), T.num + 1, false⟩, D') ∧ Ds ⟨T.x, T.M.doneA hd X, T.pos + (1 + X.W.vs.length), T.num + 1, false⟩ D' ∧ D'.Z = D.Z ∧ D'.S = D.S := by
  obtain ⟨Y, hY, h1, h2, h3, h4⟩ := hM.q hd (by rw [hq]; exact List.mem_singleton.2 rfl)
  rw [hT] at hY; cases hY
  obtain ⟨D', hw, hg, hds⟩ := write_ds h (l := [(X.time, X.W.puts)]) (one_check hM hn hT hq) (by rw [one_blocks]; exact hroom) (show T.M.last < X.time from h3)
  rw [one_blocks] at hw hds
  refine ⟨D', ?_, hds (T.M.doneA hd X) (fun S hl hs => ⟨rfl, Same.puts X.time _ hs⟩), hg.1, hg.2.1⟩
  unfold SS.flush flushOf
  rw [one_batch hM hT hq, if_neg (by simp)]
  dsimp only
  rw [hw, if_neg (by simp)]
  dsimp only
  rw [one_done hM hT hq, if_pos rfl]
/-- A batch of one that finds none. -/
theorem flush_no {T : SS} {D : Dv} {c : Nat} (hM : MI T.M c) (hoff : T.off = false) {hd : Int} {X : Tr} (hT : vget T.M.all hd = some X) (hq : T.M.queue = [hd]) (hroom : (D.Z - 2 * midOf D.Z) * D.S < T.pos + (1 + X.W.vs.length)) :
    T.flush D = (9, { T with M := T.M.doneN hd X 9 }, D) := by
  have hw : writeOf D T.x.count T.pos T.num [(X.time, X.W.puts)] = ⟨9, T.pos, T.num, D⟩ := by
    unfold writeOf
    rw [if_pos (.inr (by rw [encBatch_len, one_blocks]; exact hroom))]
  unfold SS.flush flushOf
  rw [one_batch hM hT hq, if_neg (by simp)]
  dsimp only
  rw [hw, if_neg (by simp)]
  dsimp only
  rw [one_done hM hT hq, if_neg (by decide)]
  simp only [hoff]
/-- The disk does not ask what is open or waits. -/
theorem Ds.same {T : SS} {D : Dv} (h : Ds T D) (M : Mg) (hl : M.last = T.M.last) (hE : M.E = T.M.E) : Ds { T with M := M } D := by
  refine ⟨h.ok, h.live, h.good, h.xoff, h.off, h.inn, h.cnt, h.slot, h.oth, ?_⟩
  dsimp only
  rw [hl, hE]
  exact h.log
end Go.SL
namespace Go.SL
open Go.Proofs
set_option synthInstance.maxSize 4000
set_option synthInstance.maxHeartbeats 400000
set_option maxRecDepth 4000
set_option maxHeartbeats 2000000

theorem nowOf_dump {E : Em} (hb : 1 ≤ E.blocks) (k : Int) : vget E.dump k = nowOf E.vs k := by
  unfold Em.dump
  rw [if_neg (by omega)]
  by_cases hk : k ∈ E.vs.map (·.1)
  · obtain ⟨x, hx, _⟩ := vget_mem hk
    rw [vget_map_keys (f := fun k => (((vget E.vs k).getD []).getLast?.getD (0, [])).2) _ k (sortI_mem.2 hk)]
    unfold nowOf
    rw [hx]; rfl
  · rw [show nowOf E.vs k = none by unfold nowOf; rw [vget_none.2 hk]; rfl, vget_none]
    intro h
    rw [List.map_map] at h
    exact hk (sortI_mem.1 (by simpa [Function.comp_def] using h))
theorem now_key {vs : List (Int × List PV)} {k : Int} : (nowOf vs k).isSome ↔ k ∈ vs.map (·.1) := by
  unfold nowOf
  rw [Option.isSome_map]
  constructor
  · intro h
    obtain ⟨x, hx⟩ := Option.isSome_iff_exists.1 h
    exact List.mem_map.2 ⟨_, vget_memE hx, rfl⟩
  · intro h
    obtain ⟨x, hx, _⟩ := vget_mem h
    rw [hx]; rfl
/-- All that lies there, where that is a beginning of the blocks. -/
def heldN (n : Nat) (g : Nat → List UInt8) (k : Int) : Option (List UInt8) := if 0 ≤ k ∧ k < n then some (g k.toNat) else none
def Holds (E : Em) (n : Nat) (g : Nat → List UInt8) : Prop := ∀ k, nowOf E.vs k = heldN n g k
theorem range_sorted (n : Nat) : sortI ((List.range n).map fun (j : Nat) => (j : Int)) = (List.range n).map fun (j : Nat) => (j : Int) := by
  refine List.mergeSort_of_pairwise ?_
  rw [List.pairwise_map]
  exact List.Pairwise.imp (fun h => by simp; omega) List.pairwise_lt_range
theorem Holds.dump {E : Em} {c n : Nat} {g : Nat → List UInt8} (hE : EOk E c) (h : Holds E n g) : E.dump = (List.range n).map fun (j : Nat) => ((j : Int), g j) := by
  have hp : (E.vs.map (·.1)).Perm ((List.range n).map fun (j : Nat) => (j : Int)) := by
    rw [List.perm_ext_iff_of_nodup hE.nod (by
      refine List.Pairwise.map _ (fun a b (hab : a ≠ b) => ?_) List.nodup_range
      show (a : Int) ≠ b; omega)]
    intro k
    rw [← now_key, h k]
    unfold heldN
    constructor
    · intro hk
      split at hk
      · exact List.mem_map.2 ⟨k.toNat, List.mem_range.2 (by omega), by omega⟩
      · cases hk
    · intro hk
      obtain ⟨j, hj, rfl⟩ := List.mem_map.1 hk
      rw [if_pos ⟨by omega, by have := List.mem_range.1 hj; omega⟩]; rfl
  unfold Em.dump
  have hb := hE.b.1
  rw [if_neg (by omega), sortI_perm hp, range_sorted, List.map_map]
  refine List.map_congr_left fun j hj => ?_
  have hj2 := List.mem_range.1 hj
  have := h j
  unfold heldN at this
  rw [if_pos ⟨by omega, by omega⟩] at this
  show ((j : Int), (((vget E.vs (j : Int)).getD []).getLast?.getD (0, [])).2) = _
  unfold nowOf at this
  obtain ⟨x, hx, hx2⟩ := Option.map_eq_some_iff.1 this
  rw [hx]
  show ((j : Int), (x.getLast?.getD (0, [])).2) = _
  rw [hx2, Int.toNat_natCast]
theorem Holds.same {E E' : Em} {n : Nat} {g : Nat → List UInt8} (h : Holds E n g) (hb : 1 ≤ E.blocks) (hb' : 1 ≤ E'.blocks) (hd : E'.dump = E.dump) : Holds E' n g := fun k => by
  rw [← nowOf_dump hb', hd, nowOf_dump hb, h k]
theorem nowOf_puts (t : Int) : ∀ (ps : List PV) (vs : List (Int × List PV)) (k : Int), (ps.map (·.1)).Nodup → nowOf (ps.foldl (fun vs p => vput vs p.1 (t, p.2)) vs) k = (vget ps k).or (nowOf vs k)
  | [], _, _, _ => rfl
  | p :: ps, vs, k, h => by
    rw [List.map_cons, List.nodup_cons] at h
    rw [List.foldl_cons, nowOf_puts t ps _ k h.2, nowOf_vput]
    by_cases hk : k = p.1
    · subst hk
      have h0 : vget ps p.1 = none := vget_none.2 h.1
      have h1 : vget (p :: ps) p.1 = some p.2 := by unfold vget; simp
      rw [h0, h1, if_pos rfl]; rfl
    · rw [if_neg hk]
      have h1 : vget (p :: ps) k = vget ps k := by
        unfold vget
        rw [List.find?_cons]
        have : (p.1 == k) = false := by simpa using Ne.symm hk
        rw [this]
      rw [h1]
theorem Holds.one {E : Em} {n : Nat} {g : Nat → List UInt8} (h : Holds E n g) (t : Int) : Holds (E.put t [((n : Int), g n)]) (n + 1) g := fun k => by
  unfold Em.put
  dsimp only
  rw [nowOf_puts t _ _ _ (by simp), h k]
  unfold vget heldN
  by_cases hk : k = n
  · subst hk
    rw [if_neg (by omega), if_pos ⟨by omega, by omega⟩]
    simp
  · have : ((n : Int) == k) = false := by simpa using Ne.symm hk
    simp only [List.find?_cons, List.find?_nil, this]
    by_cases h2 : 0 ≤ k ∧ k < (n : Int)
    · rw [if_pos h2, if_pos ⟨h2.1, by omega⟩]; rfl
    · rw [if_neg h2, if_neg (by omega)]; rfl
theorem Holds.zero {E : Em} (h : E.vs = []) (g : Nat → List UInt8) : Holds E 0 g := fun k => by
  unfold nowOf heldN
  rw [h, if_neg (by omega)]; rfl
end Go.SL
namespace Go.SL
open Go.Proofs
set_option synthInstance.maxSize 4000
set_option synthInstance.maxHeartbeats 400000
set_option maxRecDepth 4000
set_option maxHeartbeats 2000000

theorem prune_keeps (t : Int) {l : List PV} (h : 0 < l.length) : (pruneL t l).getLast? = l.getLast? ∧ 0 < (pruneL t l).length ∧ (pruneL t l).length ≤ l.length ∧ ∀ p ∈ pruneL t l, p ∈ l := by
  unfold pruneL
  have hat := atGo_le l t l.length
  split
  · obtain ⟨i, hi⟩ : ∃ i : Nat, atGo l t l.length = i := ⟨(atGo l t l.length).toNat, by omega⟩
    rw [hi, Int.toNat_natCast]
    have hil : i < l.length := by omega
    refine ⟨?_, by rw [List.length_drop]; omega, by rw [List.length_drop]; omega, fun p hp => List.mem_of_mem_drop hp⟩
    rw [List.getLast?_drop, if_neg (by omega)]
  · exact ⟨rfl, h, Nat.le_refl _, fun p hp => hp⟩
theorem prune_vs (E : Em) (t : Int) (hb : 1 ≤ E.blocks) : E.prune t = { E with vs := E.vs.map fun e => (e.1, pruneL t e.2) } := by rw [Em.prune, if_neg (by omega)]
theorem prune_now {E : Em} {c : Nat} (h : EOk E c) (t k : Int) : nowOf (E.prune t).vs k = nowOf E.vs k := by
  rw [prune_vs E t h.b.1]
  unfold nowOf
  dsimp only
  rw [vget_mapv, Option.map_map]
  cases hv : vget E.vs k with
  | none => rfl
  | some l =>
    have := (prune_keeps t (h.key _ (vget_memE hv)).2.1.1).1
    show some ((pruneL t l).getLast?.getD (0, [])).2 = some (l.getLast?.getD (0, [])).2
    rw [this]
theorem EOk.prune {E : Em} {c : Nat} (h : EOk E c) (t : Int) : EOk (E.prune t) c := by
  rw [prune_vs E t h.b.1]
  refine ⟨h.b, by dsimp only; rw [List.map_map]; exact h.nod, ?_⟩
  intro e he
  obtain ⟨x, hx, rfl⟩ := List.mem_map.1 he
  obtain ⟨h1, h2, h3⟩ := h.key x hx
  obtain ⟨p1, p2, p3, p4⟩ := prune_keeps t h2.1
  exact ⟨h1, ⟨p2, Nat.le_trans p3 h2.2⟩, fun p hp => h3 p (p4 p hp)⟩
theorem MI.prune {M : Mg} {c : Nat} (h : MI M c) : MI M.prune c := by
  have hv := prune_vs M.E (lowOf M.K M.last) h.eok.b.1
  have hbl : M.prune.E.blocks = M.E.blocks := by show (M.E.prune _).blocks = _; rw [hv]
  have hla : M.prune.E.last = M.E.last := by show (M.E.prune _).last = _; rw [hv]
  refine ⟨h.eok.prune _, by rw [hla]; exact h.el, ?_, h.la, ?_, h.nod, h.key, by rw [hbl]; exact h.tr, h.q, h.qn, h.ql, h.kk, h.kn, h.out, h.ro⟩
  · show ∀ e ∈ (M.E.prune (lowOf M.K M.last)).vs, newT e.2 ≤ (M.E.prune (lowOf M.K M.last)).last
    rw [hv]
    intro e he
    obtain ⟨x, hx, rfl⟩ := List.mem_map.1 he
    have h2 := (prune_keeps (lowOf M.K M.last) (h.eok.key x hx).2.1.1).1
    have h3 := h.vt x hx
    unfold newT at h3 ⊢
    dsimp only
    rw [h2]; exact h3
  · show (M.E.prune (lowOf M.K M.last)).vs ≠ [] → 0 < M.last
    rw [hv]
    intro hne
    exact h.pos (fun e => hne (by dsimp only; rw [e]; rfl))
/-- What is begun and written at once. -/
def Mg.twoLT (M : Mg) (ps : List PV) : Tr := { Tr.new M.E.blocks M.last with W := ⟨M.E.blocks, 16, ps⟩ }
def Mg.twoL (M : Mg) (ps : List PV) : Mg := M.begin1.set ((M.K.last + 1 : Nat) : Int) (M.twoLT ps)
/-- At rest: R handles so far, C checkpoints at most. -/
structure Qt (R C : Nat) (T : SS) (D : Dv) : Prop where
  ds : Ds T D
  Z : D.Z = 8
  S : D.S = 96
  mi : MI T.M (300 + 16 * R)
  km : T.M.K.most = 16
  kl : T.M.K.last = R
  ts : T.M.K.ts = []
  q : T.M.queue = []
  bl : T.M.E.blocks = 258
  cnt : T.x.count ≤ C
  num : T.num ≤ R
  mn : T.M.num ≤ R
  gv : T.M.given ≤ R
  pp : T.pos ≤ 192
theorem Qt.waits {R C : Nat} {T : SS} {D : Dv} (h : Qt R C T D) : T.M.waits = [] := by unfold Mg.waits; rw [h.q]; rfl
theorem Qt.clean {R C : Nat} {T : SS} {D : Dv} (h : Qt R C T D) : Qt R C { T with M := T.M.prune } D := by
  have hv := prune_vs T.M.E (lowOf T.M.K T.M.last) h.mi.eok.b.1
  refine ⟨?_, h.Z, h.S, h.mi.prune, h.km, h.kl, h.ts, h.q, ?_, h.cnt, h.num, h.mn, h.gv, h.pp⟩
  · have hd := h.ds
    refine ⟨hd.ok, hd.live, hd.good, hd.xoff, hd.off, hd.inn, hd.cnt, hd.slot, hd.oth, ?_⟩
    obtain ⟨bs, S, h1, h2, h3, h4, h5, h6, h7⟩ := hd.log
    refine ⟨bs, S, h1, h2, h3, h4, h5, h6, ?_⟩
    have hn := (h.mi.eok.prune (lowOf T.M.K T.M.last)).nod
    exact ⟨h7.n1, hn, fun k => by rw [← h7.eq k]; exact prune_now h.mi.eok _ k⟩
  · show (T.M.E.prune (lowOf T.M.K T.M.last)).blocks = 258
    rw [hv]; exact h.bl
theorem Qt.check {R C : Nat} {T : SS} {D : Dv} (h : Qt R C T D) (hC : C < 4294967295) : ∃ T' D', T.check D = (0, T', D') ∧ Qt R (C + 1) T' D' ∧ T'.M = T.M ∧ T'.pos = 0 := by
  have hcp : capOf D.Z D.S = 258 := by rw [h.Z, h.S]; decide
  have hla := h.mi.la
  obtain ⟨D', h1, ⟨h2, h3, -⟩, h4⟩ := check_ds h.ds h.mi.eok (by rw [h.bl]; exact hcp.symm) (by omega) (by have := h.cnt; omega)
  exact ⟨_, D', h1, ⟨h4, h2.trans h.Z, h3.trans h.S, h.mi, h.km, h.kl, h.ts, h.q, h.bl, by have := h.cnt; dsimp only; omega, Nat.zero_le _, h.mn, h.gv, Nat.zero_le _⟩, rfl, rfl⟩
/-- One transaction: begun, written, committed. -/
theorem Qt.round {R C : Nat} {T : SS} {D : Dv} (h : Qt R C T D) (hR : R ≤ 20000) {ps : List PV} (hp : ps ≠ []) (hl : ps.length ≤ 16) (hn : (ps.map (·.1)).Nodup) (hg : ∀ p ∈ ps, (0 ≤ p.1 ∧ p.1 < 258) ∧ p.2.length = 40) :
    ∃ M3, (T.M.begin = (((R + 1 : Nat) : Int), 0, T.M.begin1) ∧ T.M.begin1.write ((R + 1 : Nat) : Int) ps = (0, T.M.twoL ps) ∧ (T.M.twoL ps).commit ((R + 1 : Nat) : Int) = (0, M3)) ∧ MI T.M.begin1 (300 + 16 * R) ∧ MI (T.M.twoL ps) (300 + 16 * R) ∧ MgF M3 ∧
      (T.pos + (1 + ps.length) ≤ 192 → ∃ T' D', ({ T with M := M3 } : SS).flush D = (0, T', D') ∧ Qt (R + 1) C T' D' ∧ (∀ k, nowOf T'.M.E.vs k = (vget ps k).or (nowOf T.M.E.vs k)) ∧ T'.M.last = T.M.given + 1 ∧ T'.M.given = T.M.given + 1) ∧
      (192 < T.pos + (1 + ps.length) → ∃ T', ({ T with M := M3 } : SS).flush D = (9, T', D) ∧ Qt (R + 1) C T' D ∧ T'.M.E = T.M.E ∧ T'.M.last = T.M.last ∧ T'.M.given = T.M.given + 1) := by
  obtain ⟨a1, a2⟩ := h.mi.begin (by rw [h.ts, h.km]; decide)
  have a3 : vget T.M.begin1.all ((T.M.K.last + 1 : Nat) : Int) = some (Tr.new T.M.E.blocks T.M.last) := by rw [begin1_get h.mi, if_pos rfl]
  obtain ⟨a4, a5⟩ := a2.write a3 rfl rfl hp hl hn (fun p hpm => by rw [show T.M.begin1.E.blocks = 258 from h.bl]; exact hg p hpm)
  have a4' : T.M.begin1.write ((T.M.K.last + 1 : Nat) : Int) ps = (0, T.M.twoL ps) := a4
  have a5' : MI (T.M.twoL ps) (300 + 16 * R) := a5
  have a6 : vget (T.M.twoL ps).all ((T.M.K.last + 1 : Nat) : Int) = some (T.M.twoLT ps) := vget_vset _ _ _
  have a7 : (T.M.twoL ps).waits = [] := by
    show (T.M.begin1.set _ _).waits = []
    rw [set_waits a2 a3 rfl, begin1_waits h.mi, h.waits]
  have hgv := h.gv
  obtain ⟨c1, c2⟩ := a5'.commit a6 rfl hp (by show T.M.given < _; omega) (fun e he _ => by
    have h1 := h.mi.vt e he
    have h2 := h.mi.el
    show newT e.2 ≤ T.M.last; omega) (fun t ht => by rw [a7] at ht; cases ht)
  have hq : ((T.M.twoL ps).commitA ((T.M.K.last + 1 : Nat) : Int) (T.M.twoLT ps)).queue = [((T.M.K.last + 1 : Nat) : Int)] := by show T.M.queue ++ _ = _; rw [h.q]; rfl
  have hT : vget ((T.M.twoL ps).commitA ((T.M.K.last + 1 : Nat) : Int) (T.M.twoLT ps)).all ((T.M.K.last + 1 : Nat) : Int) = some { T.M.twoLT ps with st := 2, time := T.M.given + 1 } := vget_vset _ _ _
  have hds : Ds ({ T with M := (T.M.twoL ps).commitA ((T.M.K.last + 1 : Nat) : Int) (T.M.twoLT ps) } : SS) D := h.ds.same _ rfl rfl
  have hmg := one_mgf c2 (by omega) (by show T.M.K.last + 1 ≤ _; rw [h.kl]; omega) (by show T.M.num ≤ _; have := h.mn; omega) hT hq
  have hts : verase (T.M.K.ts ++ [(((T.M.K.last + 1 : Nat) : Int), T.M.last)]) ((R + 1 : Nat) : Int) = [] := by rw [h.ts, h.kl]; simp [verase]
  have hpl : (T.M.twoLT ps).W.puts = putsOf ps := rfl
  rw [h.kl] at a1 a4' c1 c2 hq hT hds hmg
  refine ⟨_, ⟨a1, a4', c1⟩, a2, a5', hmg, fun hroom => ?_, fun hroom => ?_⟩
  · obtain ⟨D', hfl, hds', hZ, hS⟩ := flush_yes hds c2 (by have := h.num; dsimp only; omega) hT hq (by rw [h.Z, h.S, show (8 - 2 * midOf 8) * 96 = 192 from by decide]; exact hroom)
    refine ⟨_, D', hfl, ⟨hds', hZ.trans h.Z, hS.trans h.S, (c2.doneA hT hq).mono (by omega), h.km, ?_, hts, rfl, h.bl, h.cnt, ?_, ?_, ?_, ?_⟩, ?_, rfl, rfl⟩
    · show T.M.K.last + 1 = R + 1; rw [h.kl]
    · show T.num + 1 ≤ _; have := h.num; omega
    · show T.M.num + 1 ≤ _; have := h.mn; omega
    · show T.M.given + 1 ≤ _; omega
    · exact hroom
    · intro k
      show nowOf ((T.M.twoLT ps).W.puts.foldl (fun vs p => vput vs p.1 (T.M.given + 1, p.2)) T.M.E.vs) k = _
      have hal := putsOf_alike hn
      rw [hpl, nowOf_puts _ _ _ _ hal.n1, hal.eq k]
  · have hfl := flush_no (T := { T with M := (T.M.twoL ps).commitA ((R + 1 : Nat) : Int) (T.M.twoLT ps) }) (D := D) c2 h.ds.off hT hq (by rw [h.Z, h.S, show (8 - 2 * midOf 8) * 96 = 192 from by decide]; exact hroom)
    refine ⟨_, hfl, ⟨h.ds.same _ rfl rfl, h.Z, h.S, (c2.doneN hT 9).mono (by omega), h.km, ?_, hts, rfl, h.bl, h.cnt, ?_, ?_, ?_, h.pp⟩, rfl, rfl, rfl⟩
    · show T.M.K.last + 1 = R + 1; rw [h.kl]
    · show T.num ≤ _; have := h.num; omega
    · show T.M.num ≤ _; have := h.mn; omega
    · show T.M.given + 1 ≤ _; omega
end Go.SL
namespace Go.SL
open Go.Proofs
set_option synthInstance.maxSize 4000
set_option synthInstance.maxHeartbeats 400000
set_option maxRecDepth 4000
set_option maxHeartbeats 2000000

theorem sub_len : ∀ (l m : List Int), l.Nodup → (∀ k ∈ l, k ∈ m) → l.length ≤ m.length
  | [], _, _, _ => Nat.zero_le _
  | a :: l, m, hn, h => by
    rw [List.nodup_cons] at hn
    have ha := h a (List.mem_cons_self ..)
    have := sub_len l (m.erase a) hn.2 (fun k hk => (List.mem_erase_of_ne (fun e => hn.1 (by rw [← e]; exact hk))).2 (h k (List.mem_cons_of_mem _ hk)))
    rw [List.length_erase_of_mem ha] at this
    have := List.length_pos_of_mem ha
    rw [List.length_cons]; omega
/-- Which blocks are in a transaction. -/
structure Sn (b : List Bool) (ps : List PV) : Prop where
  len : b.length = 258
  iff : ∀ y : Nat, y < 258 → (b[y]?.getD false = true ↔ (y : Int) ∈ ps.map (·.1))
  nod : (ps.map (·.1)).Nodup
  good : ∀ p ∈ ps, (0 ≤ p.1 ∧ p.1 < 258) ∧ p.2.length = 40
theorem Sn.first : Sn (List.replicate 258 false) [] := ⟨List.length_replicate, fun y hy => by rw [List.getElem?_replicate, if_pos hy]; simp, List.nodup_nil, fun p hp => by cases hp⟩
/-- One that is not in it lies ahead. -/
theorem Sn.free {b : List Bool} {ps : List PV} (h : Sn b ps) (hl : ps.length < 258) {x : Int} (hx : 0 ≤ x ∧ x < 258) : ∃ d : Nat, d < 258 ∧ b[((x + d) % 258).toNat]?.getD false = false := by
  by_cases hall : ∀ y : Nat, y < 258 → (y : Int) ∈ ps.map (·.1)
  · exfalso
    have := sub_len ((List.range 258).map fun (j : Nat) => (j : Int)) (ps.map (·.1)) (by
      refine List.Pairwise.map _ (fun a b (hab : a ≠ b) => ?_) List.nodup_range
      show (a : Int) ≠ b; omega) (fun k hk => by
      obtain ⟨j, hj, rfl⟩ := List.mem_map.1 hk
      exact hall j (List.mem_range.1 hj))
    rw [List.length_map, List.length_map, List.length_range] at this
    omega
  · obtain ⟨y, hy⟩ := Classical.not_forall.1 hall
    obtain ⟨hy1, hy2⟩ := Classical.not_imp.1 hy
    have hb : b[y]?.getD false = false := by
      cases hv : b[y]?.getD false with
      | false => rfl
      | true => exact absurd ((h.iff y hy1).1 hv) hy2
    refine ⟨(((y : Int) - x) % 258).toNat, by omega, ?_⟩
    rw [show ((x + ((((y : Int) - x) % 258).toNat : Nat)) % 258).toNat = y from by omega]
    exact hb
theorem Sn.add {b : List Bool} {ps : List PV} (h : Sn b ps) {x : Int} (hx : 0 ≤ x ∧ x < 258) (hb : b[x.toNat]?.getD false = false) {d : List UInt8} (hd : d.length = 40) : Sn (b.set x.toNat true) (ps ++ [(x, d)]) := by
  have hxi : x ∉ ps.map (·.1) := fun hm => by
    have := (h.iff x.toNat (by omega)).2 (by rw [show ((x.toNat : Nat) : Int) = x from by omega]; exact hm)
    rw [hb] at this; cases this
  refine ⟨by rw [List.length_set]; exact h.len, fun y hy => ?_, ?_, ?_⟩
  · rw [List.getElem?_set, List.map_append, List.mem_append]
    by_cases hxy : x.toNat = y
    · rw [if_pos hxy, if_pos (by rw [h.len]; omega)]
      constructor
      · intro _; right; rw [List.map_cons, List.map_nil, List.mem_singleton]; omega
      · intro _; rfl
    · rw [if_neg hxy, h.iff y hy]
      constructor
      · intro hm; exact .inl hm
      · rintro (hm | hm)
        · exact hm
        · rw [List.map_cons, List.map_nil, List.mem_singleton] at hm
          exfalso; omega
  · rw [List.map_append, List.nodup_append]
    exact ⟨h.nod, by simp, fun a ha c hc e => hxi (by rw [List.map_cons, List.map_nil, List.mem_singleton] at hc; dsimp only at hc; rw [← hc, ← e]; exact ha)⟩
  · intro p hp
    rcases List.mem_append.1 hp with hp | hp
    · exact h.good p hp
    · rw [List.mem_singleton.1 hp]; exact ⟨hx, hd⟩
structure RI (i R C : Nat) (x : Int) (T : SS) (D : Dv) : Prop where
  qt : Qt R C T D
  x : 0 ≤ x ∧ x < 258
  la : (i : Int) ≤ T.M.last
  rb : R ≤ 2 * i
  cb : C ≤ 16 * i
theorem RI.first {la : Int} {D : Dv} (hla : la ≤ 0) (h : Ds ⟨⟨1, [], 0, false⟩, Mg.of 258 0 ⟨258, [], la⟩, 0, 0, false⟩ D) (hZ : D.Z = 8) (hS : D.S = 96) : RI 0 0 0 0 ⟨⟨1, [], 0, false⟩, Mg.of 258 0 ⟨258, [], la⟩, 0, 0, false⟩ D :=
  ⟨⟨h, hZ, hS, MI.new (by decide) (by decide) ⟨show 1 ≤ 258 ∧ 258 ≤ 1048576 by decide, by simp, fun e he => (by cases he)⟩ hla (fun e he => (by cases he)) (fun h => absurd rfl h), rfl, rfl, rfl, rfl, rfl, Nat.le_refl _, Nat.le_refl _, Nat.le_refl _, Int.le_refl _, Nat.zero_le _⟩, ⟨Int.le_refl _, by decide⟩, Int.le_refl _, Nat.le_refl _, Nat.le_refl _⟩
theorem blocks8 (p d : Nat) (D : Dv) (T : SS) (ok : D.ok) (hZ : D.Z = 8) (hS : D.S = 96) : Spec Tryz.prog 17 #[.pointer (some ⟨p, 0, none⟩)] [stO p d 8 96 T, devO d D] (fun v L => v = .int .i64 ((258 : Nat) : Int) ∧ L = [stO p d 8 96 T, devO d D]) := by
  have h := sto_blocks p d D T ok
  rw [hZ, hS, show capOf 8 96 = 258 from by decide] at h
  exact h
/-- Within a round. -/
structure KI (i k : Nat) (done : Bool) (R C : Nat) (x : Int) (T : SS) (D : Dv) : Prop where
  qt : Qt R C T D
  x : 0 ≤ x ∧ x < 258
  la : (i : Int) + (if done then 1 else 0) ≤ T.M.last
  rb : R ≤ 2 * i + k
  cb : C ≤ 16 * i + 8 * k
  k2 : k ≤ 2
  k1 : done = false → k ≤ 1
  p0 : k = 1 → done = false → T.pos = 0
theorem RI.start {i R C : Nat} {x : Int} {T : SS} {D : Dv} (h : RI i R C x T D) : KI i 0 false R C x T D :=
  ⟨h.qt, h.x, by have := h.la; simpa using this, h.rb, h.cb, by omega, fun _ => by omega, fun h => by cases h⟩
theorem KI.stop {i k R C : Nat} {x : Int} {T : SS} {D : Dv} (h : KI i k true R C x T D) : RI (i + 1) R C x T D :=
  ⟨h.qt, h.x, by have := h.la; simp at this; omega, by have := h.rb; have := h.k2; omega, by have := h.cb; have := h.k2; omega⟩
end Go.SL
namespace Go.SL
open Go.Proofs
set_option synthInstance.maxSize 4000
set_option synthInstance.maxHeartbeats 400000
set_option maxRecDepth 4000
set_option maxHeartbeats 2000000

theorem law_awake : Spec Tryz.prog 10 #[] [] (fun v L => v = .bool true ∧ L = []) := by
  have geo : geoOk (8 : Nat) (96 : Nat) := ⟨by decide, by decide⟩
  have hcap : capOf 8 96 = 258 := by decide
  refine enter0 Tryz.func10 rfl (by decide) ?_
  intro B F
  dsimp only [lcA, lnA]
  repeat' first | refine adv ?_ | refine Side.go ?_ | refine Giv.mk fun _ => ?_ | refine All.mk fun q => ?_ | refine Fork.mk ?_ ?_ | (refine Two.mk (fun h => ?_) (fun h => ?_) <;> try first | contradiction | (exfalso; omega))
  refine CallG.use law_least ?_
  rintro r M ⟨rfl, rfl⟩
  dsimp only [lcA, lnA]
  repeat' first | refine adv ?_ | refine Side.go ?_ | refine Giv.mk fun _ => ?_ | refine All.mk fun q => ?_ | refine Fork.mk ?_ ?_ | (refine Two.mk (fun h => ?_) (fun h => ?_) <;> try first | contradiction | (exfalso; omega))
  refine CallG.use (law_fresh 8 96 geo) ?_
  rintro v M ⟨w, d, p, xq, D, la, rfl, rfl, hds, hla, hZ, hS⟩
  dsimp only [freshL, List.cons_append, List.nil_append]
  rw [hcap] at hds ⊢
  repeat' first | refine adv ?_ | refine Side.go ?_ | refine Giv.mk fun _ => ?_ | refine All.mk fun q => ?_ | refine Fork.mk ?_ ?_ | (refine Two.mk (fun h => ?_) (fun h => ?_) <;> try first | contradiction | (exfalso; omega))
  have k0 : (Mg.of 258 0 ⟨258, [], la⟩) = awM0 la := rfl
  rw [k0] at hds ⊢
  refine CallG.use (sto_begin p d 8 96 ⟨⟨1, [], 0, false⟩, awM0 la, 0, 0, false⟩ rfl ⟨show 1 ≤ 258 by decide, show 258 ≤ 1048576 by decide⟩ (fun e he => by cases he) (show (0 : Nat) ≤ _ by decide) (show (0 : Nat) ≤ _ by decide)) ?_
  rintro r M ⟨rfl, rfl⟩
  dsimp only [lcA, lnA]
  rw [aw_begin]
  repeat' first | refine adv ?_ | refine Side.go ?_ | refine Giv.mk fun _ => ?_ | refine All.mk fun q => ?_ | refine Fork.mk ?_ ?_ | (refine Two.mk (fun h => ?_) (fun h => ?_) <;> try first | contradiction | (exfalso; omega))
  refine CallG.use (alike_data 1 (by decide)) ?_
  rintro r M ⟨a, c, rfl, rfl⟩
  dsimp only [lcA, lnA]
  rw [show dataOf 1 = awD from rfl]
  repeat' first | refine adv ?_ | refine Side.go ?_ | refine Giv.mk fun _ => ?_ | refine All.mk fun q => ?_ | refine Fork.mk ?_ ?_ | (refine Two.mk (fun h => ?_) (fun h => ?_) <;> try first | contradiction | (exfalso; omega))
  refine CallG_conv (L' := stO p d 8 96 ⟨⟨1, [], 0, false⟩, awM1 la, 0, 0, false⟩ :: roS (⟨some ⟨q, 0, none⟩, 1, [⟨5, ⟨a, c, awD⟩⟩]⟩ : Sl PutR) :: cells true w 0 [.pointer (some ⟨d, 0, none⟩), .pointer (some ⟨p, 0, none⟩), .pointer (some ⟨xq, 0, none⟩), .int .i64 0] :: devO d D :: F) (fun B w' h => ?_) ?_
  · have h2 : sat B (cells true q 0 [.int .i64 5, .slice a awD.length c] :: roS (⟨a, c, awD⟩ : Sl UInt8) :: stO p d 8 96 ⟨⟨1, [], 0, false⟩, awM1 la, 0, 0, false⟩ :: cells true w 0 [.pointer (some ⟨d, 0, none⟩), .pointer (some ⟨p, 0, none⟩), .pointer (some ⟨xq, 0, none⟩), .int .i64 0] :: devO d D :: F) w' := goes w' h
    exact goes w' (own_lit1 (⟨5, ⟨a, c, awD⟩⟩ : PutR) h2)
  refine CallG.use (sto_write p d 8 96 ⟨⟨1, [], 0, false⟩, awM1 la, 0, 0, false⟩ rfl 1 (⟨some ⟨q, 0, none⟩, 1, [⟨5, ⟨a, c, awD⟩⟩]⟩ : Sl PutR) (fun x hx => by rw [List.mem_singleton.1 hx]; exact ⟨show (-9223372036854775808 : Int) ≤ 5 by decide, show (5 : Int) ≤ _ by decide⟩) (fun e he => by rw [show e = (1, ⟨1, 0, 0, 0, ⟨258, 16, []⟩, ⟨64, []⟩⟩) from List.mem_singleton.1 he]; exact Nat.zero_le _)) ?_
  rintro r M ⟨rfl, rfl⟩
  dsimp only [lcA, lnA]
  have hall2 : ∀ e ∈ (awM2 la).all, e.2.W.vs.length ≤ 1000000 ∧ ∀ x ∈ e.2.W.vs, I64 x.1 := fun e he => by
    rw [show e = (1, ⟨1, 0, 0, 0, awW, ⟨64, []⟩⟩) from List.mem_singleton.1 he]
    refine ⟨show (1 : Nat) ≤ _ by decide, fun x hx => ?_⟩
    rw [show x = (5, awD) from List.mem_singleton.1 hx]
    exact ⟨by decide, by decide⟩
  have hps : ([⟨5, ⟨a, c, awD⟩⟩] : List PutR).map PutR.v = [(5, awD)] := rfl
  rw [hps, aw_write]
  repeat' first | refine adv ?_ | refine Side.go ?_ | refine Giv.mk fun _ => ?_ | refine All.mk fun q => ?_ | refine Fork.mk ?_ ?_ | (refine Two.mk (fun h => ?_) (fun h => ?_) <;> try first | contradiction | (exfalso; omega))
  refine CallG.use (sto_commit1 p d 8 96 ⟨⟨1, [], 0, false⟩, awM2 la, 0, 0, false⟩ rfl 1 ⟨1, 0, 0, 0, awW, ⟨64, []⟩⟩ 5 awD (vget_one _ _) rfl rfl rfl rfl ⟨by decide, by decide⟩ (fun e he => by cases he) hall2 (Int.le_refl 0)) ?_
  rintro r M ⟨rfl, rfl⟩
  dsimp only [lcA, lnA]
  rw [aw_commit]
  repeat' first | refine adv ?_ | refine Side.go ?_ | refine Giv.mk fun _ => ?_ | refine All.mk fun q => ?_ | refine Fork.mk ?_ ?_ | (refine Two.mk (fun h => ?_) (fun h => ?_) <;> try first | contradiction | (exfalso; omega))
  dsimp only
  rw [show stO p d 8 96 = stO p d D.Z D.S from by rw [hZ, hS]]
  have hds3 : Ds ⟨⟨1, [], 0, false⟩, awM3 la, 0, 0, false⟩ D := ⟨hds.ok, hds.live, hds.good, rfl, rfl, hds.inn, hds.cnt, hds.slot, hds.oth, hds.log⟩
  obtain ⟨D2, hfl, hds4, hZ2, hS2⟩ := aw_flush hla hds3 hZ hS
  refine CallG.use (sto_flush p d D ⟨⟨1, [], 0, false⟩, awM3 la, 0, 0, false⟩ hds.ok rfl (show (0 : Nat) ≤ _ by decide) (show (0 : Nat) ≤ _ by decide) (aw_mgf la hla)) ?_
  rintro r M ⟨rfl, rfl⟩
  dsimp only [lcA, lnA]
  rw [hfl]
  repeat' first | refine adv ?_ | refine Side.go ?_ | refine Giv.mk fun _ => ?_ | refine All.mk fun q => ?_ | refine Fork.mk ?_ ?_ | (refine Two.mk (fun h => ?_) (fun h => ?_) <;> try first | contradiction | (exfalso; omega))
  dsimp only
  rw [hZ, hS]
  refine CallG_conv (L' := devO d D2 :: liI (.slice none 0 0) [] :: liI (.slice none 0 0) [] :: F) (fun B w' h => goes w' (sat_true liI_nil (sat_true liI_nil h))) ?_
  refine CallG.use (dev_crash d D2 hds4.ok (.slice none 0 0) (.slice none 0 0) [] []) ?_
  rintro r M ⟨d2, rfl, rfl⟩
  dsimp only [lcA, lnA]
  have hds5 := hds4.crash [] []
  have hE4 : EOk (awM4 la).E 1 := by
    refine ⟨⟨show 1 ≤ 258 by decide, show 258 ≤ 1048576 by decide⟩, by simp [awM4], fun e he => ?_⟩
    rw [show e = (5, [(1, awD)]) from List.mem_singleton.1 he]
    exact ⟨show (0 : Int) ≤ 5 ∧ (5 : Int) < (258 : Nat) by decide, ⟨show 0 < 1 by decide, Nat.le_refl _⟩, fun q hq => by rw [show q = (1, awD) from List.mem_singleton.1 hq]; exact awD_len⟩
  have hd4 := aw_dump la
  obtain ⟨D6, E6, hm6, hds6, hE6, hb6, hdump, ⟨hZ6, hS6⟩, -, -, -, -⟩ := mount_ds hds5 hE4 (show 258 = capOf D2.Z D2.S by rw [hZ2, hS2]; decide) ⟨show (0 : Int) ≤ 1 by decide, show (1 : Int) ≤ _ by decide⟩ (fun _ => show (0 : Int) < 1 by decide)
  rw [hd4] at hdump
  obtain ⟨T6, hT6, hl6, hv6, he6, hd6⟩ : ∃ T6, mountOf (D2.crash [] []) = ⟨0, D6, T6⟩ ∧ T6.M.last = 1 ∧ T6.M.E.vs.length ≤ 1000000 ∧ EOk T6.M.E 300 ∧ T6.M.E.dump = [(5, awD)] := ⟨_, hm6, rfl, Nat.le_trans hE6.len (by rw [hb6]; show capOf D2.Z D2.S ≤ 1000000; rw [hZ2, hS2]; decide), hE6.mono (by show capOf D2.Z D2.S + 1 ≤ 300; rw [hZ2, hS2]; decide), hdump⟩
  clear hm6 hds6 hE6 hdump
  repeat' first | refine adv ?_ | refine Side.go ?_ | refine Giv.mk fun _ => ?_ | refine All.mk fun q => ?_ | refine Fork.mk ?_ ?_ | (refine Two.mk (fun h => ?_) (fun h => ?_) <;> try first | contradiction | (exfalso; omega))
  refine CallG.use (st_mount d2 (D2.crash [] []) hds5.ok (ds_count hds5)) ?_
  rw [hT6]
  rintro v M (⟨h, -⟩ | ⟨-, p2, rfl, rfl⟩)
  · exact absurd rfl h
  dsimp only [lcA, lnA]
  repeat' first | refine adv ?_ | refine Side.go ?_ | refine Giv.mk fun _ => ?_ | refine All.mk fun q => ?_ | refine Fork.mk ?_ ?_ | (refine Two.mk (fun h => ?_) (fun h => ?_) <;> try first | contradiction | (exfalso; omega))
  refine CallG.use (sto_dump p2 d2 (D2.crash [] []).Z (D2.crash [] []).S T6 (he6.hk (by decide)) hv6) ?_
  rintro r M ⟨u, hu, rfl, rfl⟩
  dsimp only [lcA, lnA]
  rw [hd6] at hu
  have hul : u.xs.length = 1 := by have := congrArg List.length hu; rwa [List.length_map] at this
  have hu0 : 0 < u.xs.length := by omega
  have hux : u.xs[0].v = (5, awD) := by
    have h1 : (u.xs.map PutR.v)[0]? = some (5, awD) := by rw [hu]; rfl
    rw [List.getElem?_map, List.getElem?_eq_getElem hu0] at h1
    exact Option.some.inj h1
  have hl5 : u.xs[0].lba = 5 := congrArg Prod.fst hux
  have hd5 : u.xs[0].d.xs = awD := congrArg Prod.snd hux
  refine SyO_conv (freezeS u) ?_
  repeat' first | refine adv ?_ | refine Side.go ?_ | refine Giv.mk fun _ => ?_ | refine All.mk fun q => ?_ | refine Fork.mk ?_ ?_ | (refine Two.mk (fun h => ?_) (fun h => ?_) <;> try first | contradiction | (exfalso; omega))
  all_goals try (exfalso; omega)
  refine CallG.use (alike_data 1 (by decide)) ?_
  rintro r M ⟨a2, c2, rfl, rfl⟩
  dsimp only [lcA, lnA]
  repeat' first | refine adv ?_ | refine Side.go ?_ | refine Giv.mk fun _ => ?_ | refine All.mk fun q => ?_ | refine Fork.mk ?_ ?_ | (refine Two.mk (fun h => ?_) (fun h => ?_) <;> try first | contradiction | (exfalso; omega))
  refine CallG.pull (fun B => pull_put u hu0) ?_
  refine CallG.use (alike_bytes u.xs[0].d (⟨a2, c2, dataOf 1⟩ : Sl UInt8)) ?_
  rintro r M ⟨rfl, rfl⟩
  dsimp only [lcA, lnA]
  rw [show decide (u.xs[0].d.xs = dataOf 1) = true from decide_eq_true hd5]
  repeat' first | refine adv ?_ | refine Side.go ?_ | refine Giv.mk fun _ => ?_ | refine All.mk fun q => ?_ | refine Fork.mk ?_ ?_ | (refine Two.mk (fun h => ?_) (fun h => ?_) <;> try first | contradiction | (exfalso; omega))
  refine CallG.use (sto_last p2 d2 (D2.crash [] []).Z (D2.crash [] []).S T6) ?_
  rintro r M ⟨rfl, rfl⟩
  dsimp only [lcA, lnA]
  rw [hl6]
  repeat' first | refine adv ?_ | refine Side.go ?_ | refine Giv.mk fun _ => ?_ | refine All.mk fun q => ?_ | refine Fork.mk ?_ ?_ | (refine Two.mk (fun h => ?_) (fun h => ?_) <;> try first | contradiction | (exfalso; omega))
  exact endQ.one Tryz.results10 ⟨by rw [decide_eq_true rfl], rfl⟩
end Go.SL
