/- Parts of the proof of StoreNothing: a logic of memory, contracts of functions, plain laws (Sto10, PuI, PuJ, PuK, Lw, Aw, Aw2, Aw3, Law1, Row). Conditions: those that each theorem names. -/
import Derived.Carry
import Derived.Test.YtfgchgnielfhgaaGreatStoreNothingP5
set_option linter.unusedSimpArgs false
set_option linter.unusedVariables false
namespace Go.SL
open Go.Proofs
set_option synthInstance.maxSize 4000
set_option synthInstance.maxHeartbeats 400000
set_option maxRecDepth 4000
set_option maxHeartbeats 2000000

theorem Spec.wrap {P : Program} {f : FuncId} {args : Array Value} {pre R : List HProp} {α : Type} {g : α → List HProp} {rest : α → List HProp} {post : α → Value → List HProp → Prop} {post' : Value → List HProp → Prop}
    (hop : ∀ B F w, sat B (pre ++ F) w → ∃ x, sat B (g x ++ (rest x ++ F)) w) (h : ∀ x, Spec P f args (g x) (post x))
    (hcl : ∀ x v L, post x v L → ∃ L', post' v L' ∧ ∀ B F w, sat B (L ++ (rest x ++ F)) w → sat B (L' ++ F) w) : Spec P f args pre post' := by
  intro B F w hs
  obtain ⟨x, hx⟩ := hop B F w hs
  refine (h x B (rest x ++ F) w hx).mono ?_
  rintro e w' ⟨v, L, rfl, hp, hm⟩
  obtain ⟨L', hp', hc⟩ := hcl x v L hp
  exact ⟨v, L', rfl, hp', hc B F w' hm⟩
abbrev StQ (T : SS) := {q : Nat × Nat × Sl UInt8 // q.2.2.xs = T.x.text}
theorem sto_open2 {p d Z S : Nat} {T : SS} (B : World) (F : List HProp) (w : World) (h : sat B ([stO p d Z S T] ++ F) w) : ∃ q : StQ T,
    sat B ([stC p d Z (.pointer (some ⟨q.1.1, 0, none⟩)) (.pointer (some ⟨q.1.2.1, 0, none⟩)) T.pos T.num T.off, mgO q.1.1 T.M] ++ ([slotC q.1.2.1 d (T.x.sr Z S q.1.2.2), roS q.1.2.2] ++ F)) w := by
  obtain ⟨q, hq⟩ := stO_open h
  exact ⟨q, hq.perm (.cons _ (.trans (.cons _ (.swap _ _ _)) (.swap _ _ _)))⟩
theorem sto_close2 {p d Z S : Nat} {T : SS} {M : Mg} {b : Bool} (q : StQ T) (B : World) (F : List HProp) (w : World)
    (h : sat B ([stC p d Z (.pointer (some ⟨q.1.1, 0, none⟩)) (.pointer (some ⟨q.1.2.1, 0, none⟩)) T.pos T.num b, mgO q.1.1 M] ++ ([slotC q.1.2.1 d (T.x.sr Z S q.1.2.2), roS q.1.2.2] ++ F)) w) : sat B ([stO p d Z S { T with M := M, off := b }] ++ F) w :=
  stO_close { T with M := M, off := b } q.1.1 q.1.2.1 q.1.2.2 q.2 (h.perm (.cons _ (.trans (.swap _ _ _) (.cons _ (.swap _ _ _)))))

theorem sto_begin (p d Z S : Nat) (T : SS) (hoff : T.off = false) (hb : 1 ≤ T.M.E.blocks ∧ T.M.E.blocks ≤ 1048576) (hi : ∀ e ∈ T.M.K.ts, I64 e.1) (hl : T.M.K.ts.length ≤ 1000000) (hla : T.M.K.last ≤ 1000000000) :
    Spec Tryz.prog 16 #[.pointer (some ⟨p, 0, none⟩)] [stO p d Z S T] (fun v L => v = .tuple #[.int .i64 T.M.begin.1, .int .i64 T.M.begin.2.1] ∧ L = [stO p d Z S { T with M := T.M.begin.2.2 }]) := by
  refine Spec.wrap (R := []) (fun B F w h => sto_open2 B F w h) (fun q => by rw [hoff]; exact st_begin p d Z q.1.1 T.M (.pointer (some ⟨q.1.2.1, 0, none⟩)) T.pos T.num hb hi hl hla) ?_
  rintro q v L ⟨rfl, rfl⟩
  refine ⟨_, ⟨rfl, rfl⟩, fun B F w h => ?_⟩
  have := sto_close2 q B F w h
  rwa [← hoff] at this
theorem sto_last (p d Z S : Nat) (T : SS) : Spec Tryz.prog 26 #[.pointer (some ⟨p, 0, none⟩)] [stO p d Z S T] (fun v L => v = .int .i64 T.M.last ∧ L = [stO p d Z S T]) := by
  refine Spec.wrap (R := []) (fun B F w h => sto_open2 B F w h) (fun q => st_last p d Z q.1.1 T.M (.pointer (some ⟨q.1.2.1, 0, none⟩)) T.pos T.num T.off) ?_
  rintro q v L ⟨rfl, rfl⟩
  exact ⟨_, ⟨rfl, rfl⟩, fun B F w h => sto_close2 q B F w h⟩
theorem sto_dump (p d Z S : Nat) (T : SS) (hk : ∀ e ∈ T.M.E.vs, I64 e.1 ∧ 0 < e.2.length ∧ e.2.length ≤ 2000000) (hl : T.M.E.vs.length ≤ 1000000) :
    Spec Tryz.prog 27 #[.pointer (some ⟨p, 0, none⟩)] [stO p d Z S T] (fun v L => ∃ t : Sl PutR, t.xs.map PutR.v = T.M.E.dump ∧ v = t.val ∧ L = [stO p d Z S T, ownS t]) := by
  refine Spec.wrap (R := []) (fun B F w h => sto_open2 B F w h) (fun q => st_dump p d Z q.1.1 T.M (.pointer (some ⟨q.1.2.1, 0, none⟩)) T.pos T.num T.off hk hl) ?_
  rintro q v L ⟨t, ht, rfl, rfl⟩
  exact ⟨_, ⟨t, ht, rfl, rfl⟩, fun B F w h => sto_close2 q B (ownS t :: F) w (h.perm (.cons _ (.cons _ (.trans (.swap _ _ _) (.cons _ (.swap _ _ _))))))⟩
theorem sto_write (p d Z S : Nat) (T : SS) (hoff : T.off = false) (h : Int) (ps : Sl PutR) (hi : ∀ x ∈ ps.xs, I64 x.lba) (hW : ∀ e ∈ T.M.all, e.2.W.vs.length ≤ 1000000) :
    Spec Tryz.prog 19 #[.pointer (some ⟨p, 0, none⟩), .int .i64 h, ps.val] [stO p d Z S T, roS ps]
    (fun v L => v = .int .i64 (T.M.write h (ps.xs.map PutR.v)).1 ∧ L = [stO p d Z S { T with M := (T.M.write h (ps.xs.map PutR.v)).2 }]) := by
  refine Spec.wrap (R := []) (g := fun q : StQ T => [stC p d Z (.pointer (some ⟨q.1.1, 0, none⟩)) (.pointer (some ⟨q.1.2.1, 0, none⟩)) T.pos T.num T.off, mgO q.1.1 T.M, roS ps]) (rest := fun q => [slotC q.1.2.1 d (T.x.sr Z S q.1.2.2), roS q.1.2.2])
    (fun B F w h => ?_) (fun q => by rw [hoff]; exact st_write p d Z q.1.1 T.M (.pointer (some ⟨q.1.2.1, 0, none⟩)) T.pos T.num h ps hi hW) ?_
  · obtain ⟨q, hq⟩ := sto_open2 B (roS ps :: F) w h
    exact ⟨q, hq.perm (.cons _ (.cons _ (.trans (.cons _ (.swap _ _ _)) (.swap _ _ _))))⟩
  rintro q v L ⟨rfl, rfl⟩
  refine ⟨_, ⟨rfl, rfl⟩, fun B F w h => ?_⟩
  have := sto_close2 q B F w h
  rwa [← hoff] at this
theorem sto_commit1 (p d Z S : Nat) (T : SS) (hoff : T.off = false) (h : Int) (Tx : Tr) (k : Int) (b : List UInt8) (hT : vget T.M.all h = some Tx) (hst : Tx.st = 1) (hq : T.M.queue = []) (hS : Tx.S.l = []) (hW : Tx.W.vs = [(k, b)]) (hk : 0 ≤ k ∧ k ≤ 1048575)
    (hE : ∀ e ∈ T.M.E.vs, I64 e.1 ∧ 0 < e.2.length ∧ e.2.length ≤ 2000000) (hall : ∀ e ∈ T.M.all, e.2.W.vs.length ≤ 1000000 ∧ ∀ x ∈ e.2.W.vs, I64 x.1) (hgv : (0 : Int) ≤ T.M.given) :
    Spec Tryz.prog 20 #[.pointer (some ⟨p, 0, none⟩), .int .i64 h] [stO p d Z S T] (fun v L => v = .int .i64 (T.M.commit1 h Tx k).1 ∧ L = [stO p d Z S { T with M := (T.M.commit1 h Tx k).2 }]) := by
  refine Spec.wrap (R := []) (fun B F w h => sto_open2 B F w h) (fun q => by rw [hoff]; exact st_commit1 p d Z q.1.1 T.M (.pointer (some ⟨q.1.2.1, 0, none⟩)) T.pos T.num h Tx k b hT hst hq hS hW hk hE hall hgv) ?_
  rintro q v L ⟨rfl, rfl⟩
  refine ⟨_, ⟨rfl, rfl⟩, fun B F w h => ?_⟩
  have := sto_close2 q B F w h
  rwa [← hoff] at this
theorem sto_blocks (p d : Nat) (D : Dv) (T : SS) (ok : D.ok) : Spec Tryz.prog 17 #[.pointer (some ⟨p, 0, none⟩)] [stO p d D.Z D.S T, devO d D] (fun v L => v = .int .i64 (capOf D.Z D.S) ∧ L = [stO p d D.Z D.S T, devO d D]) := by
  refine Spec.wrap (R := []) (g := fun q : StQ T => [stC p d D.Z (.pointer (some ⟨q.1.1, 0, none⟩)) (.pointer (some ⟨q.1.2.1, 0, none⟩)) T.pos T.num T.off, devO d D]) (rest := fun q => [mgO q.1.1 T.M, slotC q.1.2.1 d (T.x.sr D.Z D.S q.1.2.2), roS q.1.2.2])
    (fun B F w h => ?_) (fun q => st_blocks p d D (.pointer (some ⟨q.1.1, 0, none⟩)) (.pointer (some ⟨q.1.2.1, 0, none⟩)) T.pos T.num T.off ok) ?_
  · obtain ⟨q, hq⟩ := sto_open2 B (devO d D :: F) w h
    simp only [lcA, lnA] at hq ⊢
    exact ⟨q, goes w hq⟩
  rintro q v L ⟨rfl, rfl⟩
  refine ⟨_, ⟨rfl, rfl⟩, fun B F w h => ?_⟩
  simp only [lcA, lnA] at h
  exact sto_close2 q B (devO d D :: F) w (by simp only [lcA, lnA]; exact goes w h)
/-- What a flush leaves of store and device. -/
def SS.flush (T : SS) (D : Dv) : Int × SS × Dv :=
  ((flushOf D T.x.count T.pos T.num T.M).e, ⟨T.x, (flushOf D T.x.count T.pos T.num T.M).M, (flushOf D T.x.count T.pos T.num T.M).pos, (flushOf D T.x.count T.pos T.num T.M).num, (flushOf D T.x.count T.pos T.num T.M).off⟩, (flushOf D T.x.count T.pos T.num T.M).D)
theorem sto_flush (p d : Nat) (D : Dv) (T : SS) (ok : D.ok) (hoff : T.off = false) (hpos : T.pos ≤ 1000000) (hnum : T.num ≤ 1000000000) (hM : MgF T.M) :
    Spec Tryz.prog 21 #[.pointer (some ⟨p, 0, none⟩)] [stO p d D.Z D.S T, devO d D] (fun v L => v = .int .i64 (T.flush D).1 ∧ L = [stO p d D.Z D.S (T.flush D).2.1, devO d (T.flush D).2.2]) := by
  refine Spec.wrap (R := []) (g := fun q : StQ T => [stC p d D.Z (.pointer (some ⟨q.1.1, 0, none⟩)) (.pointer (some ⟨q.1.2.1, 0, none⟩)) T.pos T.num T.off, slotC q.1.2.1 d (T.x.sr D.Z D.S q.1.2.2), roS q.1.2.2, devO d D, mgO q.1.1 T.M]) (rest := fun q => [])
    (fun B F w h => ?_) (fun q => by rw [hoff]; exact st_flush p d q.1.1 q.1.2.1 D ok T.M (T.x.sr D.Z D.S q.1.2.2) T.pos T.num hpos hnum hM) ?_
  · obtain ⟨q, hq⟩ := sto_open2 B (devO d D :: F) w h
    simp only [lcA, lnA] at hq ⊢
    exact ⟨q, goes w hq⟩
  rintro q v L ⟨rfl, rfl⟩
  refine ⟨_, ⟨rfl, rfl⟩, fun B F w h => ?_⟩
  exact stO_close (T.flush D).2.1 q.1.1 q.1.2.1 q.1.2.2 q.2 (h.perm (.cons _ (.cons _ (.cons _ (.swap _ _ _)))))
def SS.check (T : SS) (D : Dv) : Int × SS × Dv :=
  if (chkP D T.x (textOf T.M.last T.M.E.dump)).e = 0 then (0, ⟨(chkP D T.x (textOf T.M.last T.M.E.dump)).x, T.M, 0, 0, false⟩, (chkP D T.x (textOf T.M.last T.M.E.dump)).D)
  else ((chkP D T.x (textOf T.M.last T.M.E.dump)).e, ⟨(chkP D T.x (textOf T.M.last T.M.E.dump)).x, T.M, T.pos, T.num, true⟩, (chkP D T.x (textOf T.M.last T.M.E.dump)).D)
end Go.SL
namespace Go.SL
open Go.Proofs
set_option synthInstance.maxSize 4000
set_option synthInstance.maxHeartbeats 400000
set_option maxRecDepth 4000
set_option maxHeartbeats 2000000

/-- The log's batches, one behind the other. -/
def logX (ep : Nat) : Nat → List (List TV) → List (List UInt8)
  | _, [] => []
  | n, b :: bs => encBatch ep n b ++ logX ep (n + 1) bs
theorem logX_snoc (ep : Nat) : ∀ (n : Nat) (bs : List (List TV)) (b : List TV), logX ep n (bs ++ [b]) = logX ep n bs ++ encBatch ep (n + bs.length) b
  | n, [], b => by simp [logX]
  | n, a :: bs, b => by rw [List.cons_append, logX, logX_snoc ep (n + 1) bs b, logX, List.append_assoc, List.length_cons, show n + 1 + bs.length = n + (bs.length + 1) from by omega]
def Sta.all (S : Sta) (bs : List (List TV)) : Sta := bs.foldl Sta.txs S
/-- Batches that may follow each other behind a state. -/
def chainOk : Nat → Sta → List (List TV) → Prop
  | _, _, [] => True
  | n, S, b :: bs => (checkB n b = true ∧ S.last < (b[0]?.getD (0, [])).1) ∧ chainOk (n + 1) (S.txs b) bs
theorem chainOk_snoc : ∀ (n : Nat) (S : Sta) (bs : List (List TV)) (b : List TV), chainOk n S bs → checkB ((n + bs.length : Nat) : Int) b = true → (S.all bs).last < (b[0]?.getD (0, [])).1 → chainOk n S (bs ++ [b])
  | n, S, [], b, _, h1, h2 => ⟨⟨by simpa using h1, h2⟩, trivial⟩
  | n, S, a :: bs, b, h, h1, h2 => ⟨h.1, chainOk_snoc (n + 1) (S.txs a) bs b h.2 (by rw [List.length_cons] at h1; rw [show n + 1 + bs.length = n + (bs.length + 1) from by omega]; exact h1) h2⟩
theorem replay_log {count : Nat} (hc : count ≤ 4294967295) : ∀ (bs : List (List TV)) (pre : List (List UInt8)) (n : Nat) (S : Sta) (f : Nat), chainOk (n + 1) S bs → bs.length < f →
    replayGo (pre ++ logX count (n + 1) bs) count f pre.length n S = ⟨(pre ++ logX count (n + 1) bs).length, n + bs.length, S.all bs, false⟩
  | [], pre, n, S, f, _, hf => by
    obtain ⟨f, rfl⟩ : ∃ g, f = g + 1 := ⟨f - 1, by simp at hf; omega⟩
    rw [logX, List.append_nil, replayGo, if_pos (Nat.le_refl _)]; rfl
  | b :: bs, pre, n, S, f, h, hf => by
    obtain ⟨f, rfl⟩ : ∃ g, f = g + 1 := ⟨f - 1, by simp at hf; omega⟩
    rw [List.length_cons] at hf
    obtain ⟨⟨hb, ht⟩, hr⟩ := h
    have hne : 0 < (encBatch count (n + 1) b).length := by unfold encBatch; rw [List.length_append]; simp
    rw [logX, replayGo, if_neg (by rw [List.length_append, List.length_append]; omega), List.drop_left, decode_enc hb hc]
    dsimp only
    rw [if_neg (by rintro (h | h | h); exact h rfl; exact h rfl; omega)]
    have ih := replay_log hc bs (pre ++ encBatch count (n + 1) b) (n + 1) (S.txs b) f hr (by omega)
    rw [List.length_append, List.append_assoc] at ih
    rw [ih, List.length_cons, show n + 1 + bs.length = n + (bs.length + 1) from by omega]; rfl
theorem encBatch_mem {ep n : Nat} {b : List TV} (h : checkB n b = true) {p : List UInt8} (hp : p ∈ encBatch ep n b) : p.length = 64 ∧ strayOf p = false := by
  have g := checkB_good h
  have hl8 := g.len1
  have hs : ∀ (k e s l : Nat) (b : List UInt8), b.length ≤ 40 → (k = 1 ∨ k = 2) → (encB k e s l b).length = 64 ∧ strayOf (encB k e s l b) = false := by
    intro k e s l b hb hk
    refine ⟨encB_len _ _ _ _ _ hb, ?_⟩
    unfold strayOf
    rw [enc_first _ _ _ _ _ (by omega)]
    exact decide_eq_false (by omega)
  unfold encBatch at hp
  rcases List.mem_append.1 hp with hp | hp
  · rw [encPuts_eq] at hp
    obtain ⟨q, hq, rfl⟩ := List.mem_map.1 hp
    obtain ⟨t, ht, hqt⟩ := allPuts_mem hq
    have := (g.puts t ht).2 q hqt
    exact hs _ _ _ _ _ (by omega) (.inl rfl)
  · rw [List.mem_singleton.1 hp]
    exact hs _ _ _ _ _ (by rw [body_len]; omega) (.inr rfl)
theorem logX_mem {ep : Nat} : ∀ {n : Nat} {S : Sta} {bs : List (List TV)}, chainOk n S bs → ∀ p ∈ logX ep n bs, p.length = 64 ∧ strayOf p = false
  | _, _, [], _, p, hp => by cases hp
  | n, S, b :: bs, h, p, hp => by
    rw [logX] at hp
    rcases List.mem_append.1 hp with hp | hp
    · exact encBatch_mem h.1.1 hp
    · exact logX_mem h.2 p hp
theorem logX_len (ep : Nat) : ∀ (n : Nat) (bs : List (List TV)), bs.length ≤ (logX ep n bs).length
  | _, [] => Nat.le_refl _
  | n, b :: bs => by
    have := logX_len ep (n + 1) bs
    rw [logX, List.length_append, List.length_cons]
    have : 0 < (encBatch ep n b).length := by unfold encBatch; rw [List.length_append]; simp
    omega

/-- What a slot holds: nothing, or one text, whole. -/
def slotHas (D : Dv) (i : Nat) : Option (Nat × List UInt8) → Prop
  | none => laid D (slotA D.Z i) (midOf D.Z) []
  | some (c, t) => (0 < c ∧ c ≤ 1099511627776 ∧ t.length ≤ 1000000) ∧ laid D (slotA D.Z i) (midOf D.Z) (slotX c t)
def slotN : Option (Nat × List UInt8) → Nat
  | none => 0
  | some (c, _) => c
/-- The disk is as the store says. -/
structure Ds (T : SS) (D : Dv) : Prop where
  ok : D.ok
  live : D.live
  good : D.good
  xoff : T.x.off = false
  off : T.off = false
  inn : T.x.inn < 2
  cnt : T.x.count ≤ 4294967295
  slot : (T.x.count = 0 ∧ T.x.text = [] ∧ T.x.inn = 1 ∧ slotHas D 1 none) ∨ (0 < T.x.count ∧ slotHas D T.x.inn (some (T.x.count, T.x.text)))
  oth : ∃ o, slotN o ≤ T.x.count - 1 ∧ slotHas D (1 - T.x.inn) o
  log : ∃ bs S, T.num = bs.length ∧ T.pos = (logX T.x.count 1 bs).length ∧ laid D (2 * midOf D.Z) (D.Z - 2 * midOf D.Z) (logX T.x.count 1 bs) ∧ parseOf T.x.text = some S ∧ chainOk 1 S bs ∧ (S.all bs).last = T.M.last ∧ Same (S.all bs).vs T.M.E.vs

theorem laid_same {D D' : Dv} {a n : Nat} {X : List (List UInt8)} (hS : D'.S = D.S) (hz : ∀ z, zoneOf D' z = zoneOf D z) (h : laid D a n X) : laid D' a n X := ⟨by rw [hS]; exact h.1, fun i hi => by rw [hz, hS]; exact h.2 i hi⟩
theorem laid_keep {D D' : Dv} {a n a' n' : Nat} {X : List (List UInt8)} (k : Kept D D' a' n') (hd : a + n ≤ a' ∨ a' + n' ≤ a) (h : laid D a n X) : laid D' a n X :=
  ⟨by rw [k.S]; exact h.1, fun i hi => by rw [k.rest _ (by omega), k.S]; exact h.2 i hi⟩
/-- What is read from a slot. -/
theorem slot_reads {D : Dv} {i : Nat} {o : Option (Nat × List UInt8)} (hi : i < 2) (h : slotHas D i o) :
    (slotB D 0 (midOf D.Z) (2 * midOf D.Z) i).any strangeOf = false ∧ readGo 0 0 [] (slotB D 0 (midOf D.Z) (2 * midOf D.Z) i) = o.map (fun x => (x.2, x.1)) ∧ (slotB D 0 (midOf D.Z) (2 * midOf D.Z) i).length ≤ midOf D.Z * D.S := by
  have hB : ∀ X, laid D (slotA D.Z i) (midOf D.Z) X → slotB D 0 (midOf D.Z) (2 * midOf D.Z) i = X := by
    intro X hX
    unfold slotB
    rcases i with _ | _ | i
    · rw [if_pos rfl, Nat.sub_zero]; exact blocksFrom_laid _ _ _ hX
    · rw [if_neg (by omega), show 2 * midOf D.Z - midOf D.Z = midOf D.Z from by omega]; exact blocksFrom_laid _ _ _ hX
    · omega
  cases o with
  | none => rw [hB _ h]; exact ⟨rfl, rfl, Nat.zero_le _⟩
  | some x =>
    obtain ⟨c, t⟩ := x
    obtain ⟨⟨h0, h1, h2⟩, hl⟩ := h
    rw [hB _ hl]
    refine ⟨?_, ?_, hl.1⟩
    · rw [List.any_eq_false]
      intro p hp
      have := slotX_kind hp
      unfold strangeOf
      simp; omega
    · have := read_slot h1 h2 []
      rw [List.append_nil] at this
      rw [this]; rfl
def pickS (i : Nat) (s : Nat × List UInt8 × Nat) : Option (Nat × List UInt8) → Nat × List UInt8 × Nat
  | some x => if s.2.2 < x.1 then (i, x.2, x.1) else s
  | none => s
theorem pickS_lt {i : Nat} {s : Nat × List UInt8 × Nat} {x : Nat × List UInt8} (h : s.2.2 < x.1) : pickS i s (some x) = (i, x.2, x.1) := by rw [pickS, if_pos h]
theorem pickS_ge {i : Nat} {s : Nat × List UInt8 × Nat} {x : Nat × List UInt8} (h : ¬ s.2.2 < x.1) : pickS i s (some x) = s := by rw [pickS, if_neg h]
theorem step_of {i : Nat} {b : List (List UInt8)} {o : Option (Nat × List UInt8)} (h1 : b.any strangeOf = false) (h2 : readGo 0 0 [] b = o.map (fun x => (x.2, x.1))) (s : Nat × List UInt8 × Nat) :
    slotStep i b s = some (pickS i s o) := by
  unfold slotStep
  rw [h1]
  simp only [Bool.false_eq_true, if_false]
  rw [h2]
  cases o with
  | none => rfl
  | some x => obtain ⟨c, t⟩ := x; simp only [Option.map_some, pickS]; split <;> rfl
theorem open_ds {T : SS} {D : Dv} (h : Ds T D) : openAt D 0 (midOf D.Z) (2 * midOf D.Z) 2 = some (T.x.inn, T.x.text, T.x.count) ∧ readsAt D 0 (midOf D.Z) (2 * midOf D.Z) 2 ≤ D.reads + ((2 * (midOf D.Z * D.S) : Nat) : Int) := by
  obtain ⟨o, ho, hso⟩ := h.oth
  obtain ⟨p, hp, hsp⟩ : ∃ p, (p = none ∧ T.x.count = 0 ∧ T.x.text = [] ∧ T.x.inn = 1 ∨ p = some (T.x.count, T.x.text) ∧ 0 < T.x.count) ∧ slotHas D T.x.inn p := by
    rcases h.slot with ⟨h1, h2, h3, h4⟩ | ⟨h1, h2⟩
    · exact ⟨none, .inl ⟨rfl, h1, h2, h3⟩, by rw [h3]; exact h4⟩
    · exact ⟨_, .inr ⟨rfl, h1⟩, h2⟩
  have hinn := h.inn
  have r1 := slot_reads hinn hsp
  have r2 := slot_reads (i := 1 - T.x.inn) (by omega) hso
  have hopen : ∀ (q0 q1 : Option (Nat × List UInt8)), slotHas D 0 q0 → slotHas D 1 q1 → openAt D 0 (midOf D.Z) (2 * midOf D.Z) 2 = some (pickS 1 (pickS 0 (1, [], 0) q0) q1) := by
    intro q0 q1 h0 h1
    have a := slot_reads (i := 0) (by omega) h0
    have b := slot_reads (i := 1) (by omega) h1
    rw [openAt, openAt, openAt, Option.bind_some, step_of a.1 a.2.1, Option.bind_some, step_of b.1 b.2.1]
  refine ⟨?_, ?_⟩
  · generalize T.x.inn = inn at *
    rcases inn with _ | _ | inn
    · rw [hopen p o hsp hso]
      rcases hp with ⟨-, -, -, h4⟩ | ⟨rfl, h1⟩
      · cases h4
      · rw [pickS_lt (x := (T.x.count, T.x.text)) h1]
        cases o with
        | none => rfl
        | some x => obtain ⟨c, t⟩ := x; dsimp only [slotN] at ho; rw [pickS_ge (by dsimp only; omega)]
    · rw [hopen o p hso hsp]
      rcases hp with ⟨rfl, h1, h2, h3⟩ | ⟨rfl, h1⟩
      · cases o with
        | none => rw [h1, h2]; rfl
        | some x =>
          obtain ⟨c, t⟩ := x
          have := hso.1.1
          dsimp only [slotN] at ho
          omega
      · cases o with
        | none => exact congrArg some (pickS_lt (x := (T.x.count, T.x.text)) h1)
        | some x =>
          obtain ⟨c, t⟩ := x
          have := hso.1.1
          dsimp only [slotN] at ho
          rw [pickS_lt (i := 0) (x := (c, t)) this, pickS_lt (by dsimp only; omega)]
    · omega
  · rw [readsAt, readsAt, readsAt]
    have e : ∀ i, i < 2 → (slotB D 0 (midOf D.Z) (2 * midOf D.Z) i).length ≤ midOf D.Z * D.S := by
      intro i hi
      by_cases hii : i = T.x.inn
      · rw [hii]; exact r1.2.2
      · rw [show i = 1 - T.x.inn from by omega]; exact r2.2.2
    have e0 := e 0 (by omega)
    have e1 := e 1 (by omega)
    omega
end Go.SL
namespace Go.SL
open Go.Proofs
set_option synthInstance.maxSize 4000
set_option synthInstance.maxHeartbeats 400000
set_option maxRecDepth 4000
set_option maxHeartbeats 2000000

theorem rises_of : ∀ {l : List PV}, (l.map (·.1)).Pairwise (· < ·) → rises l = true
  | [], _ => rfl
  | [_], _ => rfl
  | a :: b :: l, h => by
    rw [List.map_cons, List.pairwise_cons] at h
    rw [rises, Bool.and_eq_true, decide_eq_true_eq]
    exact ⟨h.1 b.1 (List.mem_map.2 ⟨b, List.mem_cons_self .., rfl⟩), rises_of h.2⟩
theorem sortI_lt {l : List Int} (h : l.Nodup) : (sortI l).Pairwise (· < ·) := by
  have h1 : (sortI l).Pairwise (fun a b => decide (a ≤ b) = true) := List.pairwise_mergeSort (fun a b c h1 h2 => by simp at h1 h2 ⊢; omega) (fun a b => by simp; omega) l
  have h2 := sortI_nodup h
  refine List.Pairwise.imp₂ (fun a b h1 (h2 : a ≠ b) => ?_) h1 h2
  simp at h1; omega
theorem put_ok_apply {E : Em} {t : Int} {ps : List PV} (hb : 1 ≤ E.blocks) (ht : E.last < t ∧ t ≤ 1099511627776) (hr : (ps.map (·.1)).Pairwise (· < ·)) (hp : 0 < ps.length) (hg : ∀ p ∈ ps, (0 ≤ p.1 ∧ p.1 < E.blocks) ∧ p.2.length = 40) : E.apply t ps = (0, E.put t ps) := by
  have hne : ps ≠ [] := fun e => by rw [e] at hp; simp at hp
  unfold Em.apply
  rw [if_neg (by omega), if_neg (by omega), if_neg (by rw [rises_of hr, decide_eq_true hp]; simp)]
  rw [if_neg, if_neg]
  · intro h
    obtain ⟨p, hpm, h2⟩ := List.any_eq_true.1 h
    exact absurd (hg p hpm).2 (of_decide_eq_true h2)
  · rw [List.head?_eq_some_head hne, List.getLast?_eq_some_getLast hne, Option.getD_some, Option.getD_some]
    have h1 := (hg _ (List.head_mem hne)).1
    have h2 := (hg _ (List.getLast_mem hne)).1
    omega
theorem putsOf_mem {vs : List (Int × List UInt8)} {p : PV} (h : p ∈ putsOf vs) : ∃ e ∈ vs, p = e := by
  unfold putsOf at h
  obtain ⟨k, hk, rfl⟩ := List.mem_map.1 h
  obtain ⟨x, hx, hm⟩ := vget_mem (sortI_mem.1 hk)
  exact ⟨_, hm, by rw [hx]; rfl⟩
theorem putsOf_len (vs : List (Int × List UInt8)) : (putsOf vs).length = vs.length := by unfold putsOf; rw [List.length_map, sortI_len, List.length_map]
/-- What was committed is taken in. -/
theorem load_vs {n : Nat} {last : Int} {vs : List (Int × List UInt8)} (hn : 1 ≤ n ∧ n ≤ 1048576) (hl : 0 ≤ last ∧ last ≤ 1099511627776) (h0 : vs ≠ [] → 0 < last) (hd : (vs.map (·.1)).Nodup) (hg : ∀ p ∈ vs, (0 ≤ p.1 ∧ p.1 < n) ∧ p.2.length = 40) :
    ∃ E, (Mg.new n last).load (putsOf vs) = (0, { Mg.new n last with E := E }) ∧ E.blocks = n ∧ E.last ≤ last ∧ Same vs E.vs ∧ EOk E (vs.length + 1) := by
  by_cases hv : vs = []
  · subst hv
    refine ⟨⟨n, [], 0⟩, ?_, rfl, hl.1, ⟨by simp, by simp, fun k => rfl⟩, ⟨hn, by simp, by simp⟩⟩
    have hp0 : putsOf [] = [] := by simp [putsOf, sortI]
    rw [hp0]
    unfold Mg.load
    rw [if_neg (by simp [Mg.new]), if_pos rfl]; rfl
  · have hp := h0 hv
    have hpl : 0 < (putsOf vs).length := by rw [putsOf_len]; exact List.length_pos_iff.2 hv
    have hne : putsOf vs ≠ [] := fun e => by rw [e] at hpl; simp at hpl
    have ha := put_ok_apply (E := ⟨n, [], 0⟩) (t := last) (ps := putsOf vs) hn.1 ⟨hp, hl.2⟩ (by rw [putsOf_keys]; exact sortI_lt hd) hpl (fun p hpm => by obtain ⟨e, he, rfl⟩ := putsOf_mem hpm; exact hg _ he)
    refine ⟨(⟨n, [], 0⟩ : Em).put last (putsOf vs), ?_, rfl, Int.le_refl _, ?_, ?_⟩
    · unfold Mg.load
      rw [if_neg, if_neg hne]
      · show ((Em.apply ⟨n, [], 0⟩ last (putsOf vs)).1, { Mg.new n last with E := (Em.apply ⟨n, [], 0⟩ last (putsOf vs)).2 }) = _
        rw [ha]
      · rintro (h | h)
        · exact h rfl
        · have : last = 0 := h.1
          omega
    · have hpa := put_alike (l := putsOf vs) (by rw [putsOf_keys]; exact sortI_nodup hd)
      have hs := Same.puts last (putsOf vs) (vs := []) (es := []) ⟨by simp, by simp, fun k => rfl⟩
      have ha2 := putsOf_alike hd
      exact ⟨hd, hs.n2, fun k => by rw [← ha2.eq k, ← hpa.eq k, ← hs.eq k]; rfl⟩
    · have := apply_ok (E := ⟨n, [], 0⟩) (t := last) (ps := putsOf vs) (c := 0) ⟨hn, by simp, by simp⟩
      rw [ha, Nat.zero_add, putsOf_len] at this
      exact this.mono (by omega)
theorem capOf_ok {D : Dv} (ok : D.ok) : 1 ≤ capOf D.Z D.S ∧ capOf D.Z D.S ≤ 1048576 := by have := cap_ok ok; omega
/-- A device that shows the same zones. -/
theorem Ds.move {T : SS} {D D' : Dv} (h : Ds T D) (ok : D'.ok) (live : D'.live) (good : D'.good) (hZ : D'.Z = D.Z) (hS : D'.S = D.S) (hz : ∀ z, zoneOf D' z = zoneOf D z) : Ds T D' := by
  have hs : ∀ i o, slotHas D i o → slotHas D' i o := fun i o ho => by
    cases o with
    | none => unfold slotHas at ho ⊢; rw [hZ]; exact laid_same hS hz ho
    | some x => obtain ⟨c, t⟩ := x; unfold slotHas at ho ⊢; rw [hZ]; exact ⟨ho.1, laid_same hS hz ho.2⟩
  refine ⟨ok, live, good, h.xoff, h.off, h.inn, h.cnt, ?_, ?_, ?_⟩
  · rcases h.slot with ⟨h1, h2, h3, h4⟩ | ⟨h1, h2⟩
    · exact .inl ⟨h1, h2, h3, hs _ _ h4⟩
    · exact .inr ⟨h1, hs _ _ h2⟩
  · obtain ⟨o, ho, hso⟩ := h.oth; exact ⟨o, ho, hs _ _ hso⟩
  · obtain ⟨bs, S, h1, h2, h3, h4⟩ := h.log
    exact ⟨bs, S, h1, h2, by rw [hZ]; exact laid_same hS hz h3, h4⟩
theorem Ds.crash {T : SS} {D : Dv} (h : Ds T D) (picks torn : List Int) : Ds T (D.crash picks torn) := by
  have ok := Dv.crash_ok h.ok picks torn
  rw [crash_good h.good] at ok ⊢
  exact h.move ok ⟨rfl, rfl⟩ h.good rfl rfl (fun z => rfl)
theorem mount_ds {T : SS} {D : Dv} {c : Nat} (h : Ds T D) (hE : EOk T.M.E c) (hbl : T.M.E.blocks = capOf D.Z D.S) (hla : 0 ≤ T.M.last ∧ T.M.last ≤ 1099511627776) (hpos : T.M.E.vs ≠ [] → 0 < T.M.last) :
    ∃ D' E, mountOf D = ⟨0, D', ⟨T.x, { Mg.new (capOf D.Z D.S) T.M.last with E := E }, T.pos, T.num, false⟩⟩ ∧ Ds ⟨T.x, { Mg.new (capOf D.Z D.S) T.M.last with E := E }, T.pos, T.num, false⟩ D' ∧
      EOk E (capOf D.Z D.S + 1) ∧ E.blocks = capOf D.Z D.S ∧ E.dump = T.M.E.dump ∧ (D'.Z = D.Z ∧ D'.S = D.S) ∧ D'.reads ≤ D.reads + ((D.Z * D.S : Nat) : Int) ∧ (E.vs ≠ [] → 0 < T.M.last) ∧ E.last ≤ T.M.last := by
  obtain ⟨hop, hrd⟩ := open_ds h
  have z0 := h.ok.z0
  have hmid : 2 * midOf D.Z < D.Z := by unfold midOf; omega
  obtain ⟨bs, S, hnum, hpo, hlog, hpar, hch, hlast, hsame⟩ := h.log
  obtain ⟨D2, hf, hg2, hk2⟩ := flush_live (D := { D with reads := readsAt D 0 (midOf D.Z) (2 * midOf D.Z) 2 }) h.live
  have hk2 := hk2 (h.ok.reads _)
  have hZ2 : D2.Z = D.Z := hk2.Z
  have hS2 : D2.S = D.S := hk2.S
  have hR2 : D2.reads = readsAt D 0 (midOf D.Z) (2 * midOf D.Z) 2 := hk2.reads
  have hzz : ∀ z, zoneOf D2 z = zoneOf D z := fun z => hk2.rest z (by omega)
  have hlog2 : logOf D2 (D2.Z - 2 * midOf D2.Z) (2 * midOf D2.Z) false = (logX T.x.count 1 bs, []) := by
    have s0 := h.ok.s0
    rw [hZ2]
    exact logOf_laid (by omega) _ _ _ (laid_same hS2 hzz hlog)
  have hchk := hch
  have hvs : ∀ p ∈ (S.all bs).vs, (0 ≤ p.1 ∧ p.1 < capOf D.Z D.S) ∧ p.2.length = 40 := by
    intro p hp
    have hm : p.1 ∈ T.M.E.vs.map (·.1) := (hsame.keys.mem_iff).1 (List.mem_map.2 ⟨p, hp, rfl⟩)
    have h1 := hE.keys p.1 hm
    rw [hbl] at h1
    refine ⟨h1, ?_⟩
    have h2 := hsame.dump hE.b.1
    have h3 : p ∈ putsOf (S.all bs).vs := by
      unfold putsOf
      obtain ⟨x, hx, hxm⟩ := vget_mem (List.mem_map.2 ⟨p, hp, rfl⟩ : p.1 ∈ (S.all bs).vs.map (·.1))
      refine List.mem_map.2 ⟨p.1, sortI_mem.2 (List.mem_map.2 ⟨p, hp, rfl⟩), ?_⟩
      have hpx : vget (S.all bs).vs p.1 = some p.2 := by
        rw [hx]
        have hperm := vget_perm hsame.n1 hx
        rcases List.mem_cons.1 (hperm.mem_iff.1 hp) with h | h
        · exact congrArg some (congrArg Prod.snd h).symm
        · have := (List.mem_filter.1 h).2
          simp at this
      rw [hpx]; rfl
    rw [← h2] at h3
    exact (hE.dumpOk p h3).2
  have hvs0 : (S.all bs).vs ≠ [] → 0 < T.M.last := fun hne => hpos (fun e => hne (by
    have := hsame.keys
    rw [e, List.map_nil] at this
    exact List.map_eq_nil_iff.1 this.eq_nil))
  obtain ⟨E, hE1, hE2, hE3, hE4, hE5⟩ := load_vs (n := capOf D.Z D.S) (last := T.M.last) (vs := (S.all bs).vs) (capOf_ok h.ok) hla hvs0 hsame.n1 hvs
  have hrep := replay_log h.cnt bs [] 0 S ((logX T.x.count 1 bs).length + 1) hch (by have := logX_len T.x.count 1 bs; omega)
  simp only [List.nil_append, List.length_nil, Nat.zero_add] at hrep
  have hany : (logX T.x.count 1 bs).any strayOf = false := by
    rw [List.any_eq_false]; intro p hp; rw [(logX_mem hch p hp).2]; simp
  have hds : Ds ⟨T.x, { Mg.new (capOf D.Z D.S) T.M.last with E := E }, T.pos, T.num, false⟩ { D2 with reads := D2.reads + ((logX T.x.count 1 bs).length : Int) + (([] : List (List UInt8)).length : Int) } := by
    have hm := h.move (D' := { D2 with reads := D2.reads + ((logX T.x.count 1 bs).length : Int) + (([] : List (List UInt8)).length : Int) }) (hk2.ok.reads _) hk2.live hg2 hZ2 hS2 hzz
    refine ⟨hm.ok, hm.live, hm.good, hm.xoff, rfl, hm.inn, hm.cnt, hm.slot, hm.oth, ?_⟩
    exact ⟨bs, S, hnum, hpo, by dsimp only; rw [hZ2]; exact laid_same (D := D) hS2 hzz hlog, hpar, hch, hlast, hE4⟩
  refine ⟨{ D2 with reads := D2.reads + ((logX T.x.count 1 bs).length : Int) + (([] : List (List UInt8)).length : Int) }, E, ?_, hds, hE5.mono ?_, hE2, ?_, ⟨hZ2, hS2⟩, ?_, ?_, hE3⟩
  · have hx : (⟨T.x.inn, T.x.text, T.x.count, false⟩ : SP) = T.x := by rw [← h.xoff]
    unfold mountOf
    rw [hop]
    dsimp only
    rw [hf, if_neg (by simp), hx]
    dsimp only
    unfold mountIn
    rw [hpar, hlog2]
    dsimp only
    unfold mountLog
    rw [if_neg (by rw [hany]; simp), hrep]
    dsimp only
    rw [hlast, hZ2, hS2, hE1, if_neg (by simp)]
    unfold mountEnd
    rw [if_neg (by simp), hpo, hnum]
  · have h1 := nodup_range (capOf D.Z D.S) ((S.all bs).vs.map (·.1)) hsame.n1 (fun k hk => by
      obtain ⟨p, hp, rfl⟩ := List.mem_map.1 hk
      exact (hvs p hp).1)
    rw [List.length_map] at h1
    omega
  · rw [hE4.dump (by rw [hE2]; exact (capOf_ok h.ok).1), hsame.dump hE.b.1]
  · dsimp only
    rw [hR2]
    have h1 := hlog.1
    have h2 : D.Z * D.S = 2 * (midOf D.Z * D.S) + (D.Z - 2 * midOf D.Z) * D.S := by
      rw [← Nat.mul_assoc, ← Nat.add_mul]; congr 1; omega
    simp only [List.length_nil]
    omega
  · intro hne
    apply hvs0
    intro e
    have := hE4.keys
    rw [e, List.map_nil] at this
    exact hne (List.map_eq_nil_iff.1 this.symm.eq_nil)
end Go.SL
namespace Go.SL
open Go.Proofs
set_option synthInstance.maxSize 4000
set_option synthInstance.maxHeartbeats 400000
set_option maxRecDepth 4000
set_option maxHeartbeats 2000000

theorem Sta.all_snoc (S : Sta) (bs : List (List TV)) (b : List TV) : S.all (bs ++ [b]) = (S.all bs).txs b := by unfold Sta.all; rw [List.foldl_append]; rfl
theorem kept_slot {D D' : Dv} {a n i : Nat} {o : Option (Nat × List UInt8)} (k : Kept D D' a n) (hd : slotA D.Z i + midOf D.Z ≤ a ∨ a + n ≤ slotA D.Z i) (h : slotHas D i o) : slotHas D' i o := by
  cases o with
  | none => unfold slotHas at h ⊢; rw [k.Z]; exact laid_keep k hd h
  | some x => obtain ⟨c, t⟩ := x; unfold slotHas at h ⊢; rw [k.Z]; exact ⟨h.1, laid_keep k hd h.2⟩
theorem slotA_le (Z : Nat) {i : Nat} (hi : i < 2) : slotA Z i + midOf Z ≤ 2 * midOf Z := by
  unfold slotA
  rcases i with _ | _ | i
  · simp; omega
  · simp; omega
  · omega
/-- A batch that goes in is written. -/
theorem write_ds {T : SS} {D : Dv} (h : Ds T D) {l : List TV} (hck : checkB ((T.num : Int) + 1) l = true) (hroom : T.pos + blocksN l ≤ (D.Z - 2 * midOf D.Z) * D.S) (hlt : T.M.last < (l[0]?.getD (0, [])).1) :
    ∃ D', writeOf D T.x.count T.pos T.num l = ⟨0, T.pos + blocksN l, T.num + 1, D'⟩ ∧ (D'.Z = D.Z ∧ D'.S = D.S ∧ D'.reads = D.reads) ∧
      ∀ M', (∀ S : Sta, S.last = T.M.last → Same S.vs T.M.E.vs → (S.txs l).last = M'.last ∧ Same (S.txs l).vs M'.E.vs) → Ds ⟨T.x, M', T.pos + blocksN l, T.num + 1, false⟩ D' := by
  have z0 := h.ok.z0
  have hmid : 2 * midOf D.Z < D.Z := by unfold midOf; omega
  obtain ⟨bs, S, hnum, hpo, hlog, hpar, hch, hlast, hsame⟩ := h.log
  have hck2 : checkB ((1 + bs.length : Nat) : Int) l = true := by rw [← hnum, show ((1 + T.num : Nat) : Int) = (T.num : Int) + 1 from by omega]; exact hck
  have hel := encBatch_len T.x.count (T.num + 1) l
  have hmem : ∀ p ∈ encBatch T.x.count (T.num + 1) l, p.length = 64 := fun p hp => (encBatch_mem (n := T.num + 1) (by rw [show ((T.num + 1 : Nat) : Int) = (T.num : Int) + 1 from by omega]; exact hck) hp).1
  obtain ⟨D1, e1, hl1, k1⟩ := appGo_live (encBatch T.x.count (T.num + 1) l) D (logX T.x.count 1 bs) T.pos 0 (by omega) hlog h.live h.ok hmem (by omega) (by rw [hel, ← hpo]; exact hroom)
  obtain ⟨D2, e2, g2, k2⟩ := flush_live k1.live
  have k2 := k2 k1.ok
  have hzz : ∀ z, zoneOf D2 z = zoneOf D1 z := fun z => k2.rest z (by omega)
  have hZ : D2.Z = D.Z := k2.Z.trans k1.Z
  have hS : D2.S = D.S := k2.S.trans k1.S
  refine ⟨D2, ?_, ⟨hZ, hS, k2.reads.trans k1.reads⟩, fun M' hM' => ?_⟩
  · unfold writeOf
    rw [if_neg, e1, if_neg (by simp)]
    · dsimp only
      rw [e2, if_neg (by simp), hel]
    · rintro (hx | hx)
      · exact hx ⟨hck, by omega, by have := h.cnt; omega⟩
      · rw [hel] at hx; omega
  · have kk : Kept D D2 (2 * midOf D.Z) (D.Z - 2 * midOf D.Z) := ⟨k2.live, k2.ok, hZ, hS, k2.reads.trans k1.reads, fun z hz => (hzz z).trans (k1.rest z hz)⟩
    have hsl : ∀ i o, i < 2 → slotHas D i o → slotHas D2 i o := fun i o hi ho => kept_slot kk (.inl (slotA_le D.Z hi)) ho
    have hin := h.inn
    refine ⟨k2.ok, k2.live, g2, h.xoff, rfl, h.inn, h.cnt, ?_, ?_, ?_⟩
    · rcases h.slot with ⟨h1, h2, h3, h4⟩ | ⟨h1, h2⟩
      · exact .inl ⟨h1, h2, h3, hsl _ _ (by omega) h4⟩
      · exact .inr ⟨h1, hsl _ _ h.inn h2⟩
    · obtain ⟨o, ho, hso⟩ := h.oth
      exact ⟨o, ho, hsl _ _ (by omega) hso⟩
    · obtain ⟨m1, m2⟩ := hM' (S.all bs) hlast hsame
      refine ⟨bs ++ [l], S, by rw [List.length_append, hnum]; rfl, ?_, ?_, hpar, chainOk_snoc 1 S bs l hch hck2 (by rw [hlast]; exact hlt), by rw [Sta.all_snoc]; exact m1, by rw [Sta.all_snoc]; exact m2⟩
      · dsimp only
        rw [logX_snoc, List.length_append, encBatch_len, hpo]
      · dsimp only
        rw [logX_snoc, hZ, show 1 + bs.length = T.num + 1 from by omega]
        exact laid_same (D := D1) k2.S hzz hl1

end Go.SL
namespace Go.SL
open Go.Proofs
set_option synthInstance.maxSize 4000
set_option synthInstance.maxHeartbeats 400000
set_option maxRecDepth 4000
set_option maxHeartbeats 2000000

theorem alike_round (n b : Int) (hb : 0 < b ∧ b ≤ 1000000) : Spec Tryz.prog 95 #[.int .i64 n, .int .i64 b] [] (fun v L => v = .int .i64 (restOf n b) ∧ L = []) := by
  refine enter2 Tryz.func95 rfl (by decide) (by decide) ?_
  intro B F
  dsimp only [lcA, lnA]
  have h1 := Int.tmod_lt_of_pos n hb.1
  have h2 := Int.lt_tmod_of_pos n hb.1
  repeat' first | refine adv ?_ | refine Side.go ?_ | refine Giv.mk fun _ => ?_ | refine All.mk fun q => ?_ | refine Fork.mk ?_ ?_ | (refine Two.mk (fun h => ?_) (fun h => ?_) <;> try first | contradiction | (exfalso; omega))
  · refine endQ.one Tryz.results95 ⟨?_, rfl⟩
    unfold restOf; rw [if_pos h]
  · refine endQ.one Tryz.results95 ⟨?_, rfl⟩
    unfold restOf; rw [if_neg h]

def blkAt (k i : Nat) : UInt8 := UInt8.ofNat ((i * i + k * 7 + 1) % 251)
def dataOf (k : Nat) : List UInt8 := (List.range 40).map (blkAt k)
def dataTo (k n : Nat) : List UInt8 := (List.range 40).map fun i => if i < n then blkAt k i else 0
theorem dataTo_len (k n : Nat) : (dataTo k n).length = 40 := by simp [dataTo]
theorem dataOf_len (k : Nat) : (dataOf k).length = 40 := by simp [dataOf]
theorem dataTo_zero (k : Nat) : dataTo k 0 = List.replicate 40 0 := by
  unfold dataTo
  apply List.ext_getElem (by simp)
  intro i h1 h2
  simp only [List.getElem_map, List.getElem_range, List.getElem_replicate]
  rw [if_neg (by omega)]
theorem dataTo_end (k : Nat) : dataTo k 40 = dataOf k := by
  unfold dataTo dataOf
  apply List.ext_getElem (by simp)
  intro i h1 h2
  simp at h1
  simp; omega
theorem dataTo_step (k n : Nat) (h : n < (dataTo k n).length) : (dataTo k n).set n (blkAt k n) = dataTo k (n + 1) := by
  unfold dataTo at h ⊢
  apply List.ext_getElem (by simp)
  intro i h1 h2
  rw [List.getElem_set]
  simp only [List.getElem_map, List.getElem_range]
  split
  · rename_i e; subst e; rw [if_pos (by omega)]
  · split <;> split <;> first | rfl | omega
theorem restOf_nat (a : Nat) : restOf (a : Int) 251 = ((UInt8.ofNat (a % 251)).toNat : Nat) := by
  unfold restOf
  rw [Int.tmod_eq_emod_of_nonneg (Int.natCast_nonneg a), UInt8.toNat_ofNat']
  split <;> omega

theorem byte_back (b : UInt8) : UInt8.ofNat (((b.toNat : Nat) : Int) % 256).toNat = b := by
  have := b.toNat_lt
  rw [show ((((b.toNat : Nat) : Int) % 256).toNat) = b.toNat from by omega]
  exact UInt8.ofNat_toNat

theorem alike_block (k : Nat) (hk : k ≤ 1000000000) : Spec Tryz.prog 51 #[.int .i64 40, .int .i64 k] [] (freshS (dataOf k)) := by
  refine enter2 Tryz.func51 rfl (by decide) (by decide) ?_
  intro B F
  dsimp only [lcA, lnA]
  repeat' first | refine adv ?_ | refine Side.go ?_ | refine Giv.mk fun _ => ?_ | refine All.mk fun q => ?_ | refine Fork.mk ?_ ?_ | (refine Two.mk (fun h => ?_) (fun h => ?_) <;> try first | contradiction | (exfalso; omega))
  refine Sy_loop (ι := {n : Nat // n ≤ 40}) (fun n => [(6, .int .i64 n.1), (5, .slice (some ⟨q, 0, none⟩) (dataTo k n.1).length 40), (1, .int .i64 k)]) (fun n => ownS (⟨some ⟨q, 0, none⟩, 40, dataTo k n.1⟩ : Sl UInt8) :: F) (fun n => 40 - n.1) ⟨0, by decide⟩
    (evs rfl (evs (by rw [dataTo_len]; rfl) (evs rfl .nil))) (fun w h => by dsimp only; rw [dataTo_zero]; exact (h : sat B (ownS (⟨some ⟨q, 0, none⟩, 40, List.replicate 40 0⟩ : Sl UInt8) :: F) w)) ?_
  rintro ⟨n, hn⟩ env
  dsimp only [upds]
  have hl : (dataTo k n).length = 40 := dataTo_len k n
  repeat' first | refine adv ?_ | refine Side.go ?_ | refine Giv.mk fun _ => ?_ | refine All.mk fun q => ?_ | refine Fork.mk ?_ ?_ | (refine Two.mk (fun h => ?_) (fun h => ?_) <;> try first | contradiction | (exfalso; omega))
  · have hn2 : n < 40 := by omega
    have hnn : n * n ≤ 40 * 40 := Nat.mul_le_mul (by omega) (by omega)
    simp only [(Int.natCast_mul n n).symm]
    have e0 : ((n * n : Nat) : Int) + (k : Int) * 7 + 1 = ((n * n + k * 7 + 1 : Nat) : Int) := by omega
    repeat' first | refine adv ?_ | refine Side.go ?_ | refine Giv.mk fun _ => ?_ | refine All.mk fun q => ?_ | refine Fork.mk ?_ ?_ | (refine Two.mk (fun h => ?_) (fun h => ?_) <;> try first | contradiction | (exfalso; omega))
    rw [e0]
    refine CallG.use (alike_round ((n * n + k * 7 + 1 : Nat) : Int) 251 (by decide)) ?_
    rintro r M ⟨rfl, rfl⟩
    dsimp only [lcA, lnA]
    rw [restOf_nat]
    have hb : (UInt8.ofNat ((n * n + k * 7 + 1) % 251)).toNat < 256 := UInt8.toNat_lt _
    repeat' first | refine adv ?_ | refine Side.go ?_ | refine Giv.mk fun _ => ?_ | refine All.mk fun q => ?_ | refine Fork.mk ?_ ?_ | (refine Two.mk (fun h => ?_) (fun h => ?_) <;> try first | contradiction | (exfalso; omega))
    refine loopQ.next ⟨n + 1, by omega⟩ (by simp only []; omega) (evs rfl (evs (by rw [dataTo_len, dataTo_len]) (evs rfl .nil))) (fun w h => ?_)
    rw [← dataTo_step k n (by omega)]
    rw [byte_back] at h
    exact h
  · have hn2 : n = 40 := by omega
    subst hn2
    repeat' first | refine adv ?_ | refine Side.go ?_ | refine Giv.mk fun _ => ?_ | refine All.mk fun q => ?_ | refine Fork.mk ?_ ?_ | (refine Two.mk (fun h => ?_) (fun h => ?_) <;> try first | contradiction | (exfalso; omega))
    rw [dataTo_end]
    exact endQ.one Tryz.results51 (freshS.mk _ _)

theorem alike_data (k : Nat) (hk : k ≤ 1000000000) : Spec Tryz.prog 18 #[.int .i64 k] [] (freshS (dataOf k)) := by
  refine enter1 Tryz.func18 rfl (by decide) (by decide) ?_
  intro B F
  dsimp only [lcA, lnA]
  repeat' first | refine adv ?_ | refine Side.go ?_ | refine Giv.mk fun _ => ?_ | refine All.mk fun q => ?_ | refine Fork.mk ?_ ?_ | (refine Two.mk (fun h => ?_) (fun h => ?_) <;> try first | contradiction | (exfalso; omega))
  refine CallG.use (alike_block k hk) ?_
  rintro r M ⟨a, c, rfl, rfl⟩
  dsimp only [lcA, lnA]
  repeat' first | refine adv ?_ | refine Side.go ?_ | refine Giv.mk fun _ => ?_ | refine All.mk fun q => ?_ | refine Fork.mk ?_ ?_ | (refine Two.mk (fun h => ?_) (fun h => ?_) <;> try first | contradiction | (exfalso; omega))
  exact endQ.one Tryz.results18 (freshS.mk a c)

theorem alike_bytes (s t : Sl UInt8) :
   Spec Tryz.prog 29 #[s.val, t.val] [roS s, roS t] (fun v L => v = .bool (decide (s.xs = t.xs)) ∧ L = []) := by
  refine enter2 Tryz.func29 rfl (by decide) (by decide) ?_
  intro B F
  dsimp only [lcA, lnA]
  refine Sy_know (ro_ok s) (fun hs => ?_)
  have hsl := hs.len
  repeat' first | refine adv ?_ | refine Side.go ?_ | refine Giv.mk fun _ => ?_ | refine All.mk fun q => ?_ | refine Fork.mk ?_ ?_ | (refine Two.mk (fun h => ?_) (fun h => ?_) <;> try first | contradiction | (exfalso; omega))
  · refine endQ.one Tryz.results29 ⟨?_, rfl⟩
    have : s.xs ≠ t.xs := fun e => h (by rw [e])
    simp [this]
  · have hl : s.xs.length = t.xs.length := by omega
    refine Sy_loop (ι := {k : Nat // k ≤ s.xs.length ∧ s.xs.take k = t.xs.take k}) (fun k => [(5, .int .i64 k.1), (0, s.val), (1, t.val)]) (fun _ => roS s :: roS t :: F)
      (fun k => s.xs.length - k.1) ⟨0, by simp⟩ (evs rfl (evs rfl (evs rfl .nil))) (fun _ h => h) ?_
    rintro ⟨k, hk, he⟩ env
    dsimp only [upds]
    repeat' first | refine adv ?_ | refine Side.go ?_ | refine Giv.mk fun _ => ?_ | refine All.mk fun q => ?_ | refine Fork.mk ?_ ?_ | (refine Two.mk (fun h => ?_) (fun h => ?_) <;> try first | contradiction | (exfalso; omega))
    · refine endQ.one Tryz.results29 ⟨?_, rfl⟩
      have : s.xs ≠ t.xs := fun e => h (by simp [e])
      simp [this]
    · refine loopQ.next ⟨k + 1, by omega, take_snoc_eq _ _ k (by omega) (by omega) he (UInt8.toNat_inj.1 (by omega))⟩ (by simp only []; omega) (evs rfl (evs rfl (evs rfl .nil))) (fun _ h => h)
    · refine endQ.one Tryz.results29 ⟨?_, rfl⟩
      have hk2 : k = s.xs.length := by omega
      subst hk2
      rw [List.take_of_length_le (Nat.le_refl _), List.take_of_length_le (by omega)] at he
      simp [he]

theorem ref_may (Z S : Int) : Spec Tryz.prog 9 #[.agg #[.int .i64 Z, .int .i64 S]] [] (fun v L => ∃ b : Bool, (b = true ↔ geoOk Z S) ∧ v = .bool b ∧ L = []) := by
  refine enter1 Tryz.func9 rfl (by decide) (by decide) ?_
  intro B F
  dsimp only [lcA, lnA]
  repeat' first | refine adv ?_ | refine Side.go ?_ | refine Giv.mk fun _ => ?_ | refine All.mk fun q => ?_ | refine Fork.mk ?_ ?_ | (refine Two.mk (fun h => ?_) (fun h => ?_) <;> try first | contradiction | (exfalso; omega))
  all_goals refine endQ.one Tryz.results9 ⟨_, ?_, rfl, rfl⟩
  all_goals unfold geoOk; simp; omega
theorem ref_split (Z S : Nat) (ok : geoOk Z S) : Spec Tryz.prog 65 #[.agg #[.int .i64 Z, .int .i64 S]] []
    (fun v L => v = .tuple #[.agg #[.int .i64 0, .int .i64 (midOf Z), .int .i64 (2 * midOf Z), .int .i64 ((Z : Int) - 1)], .int .i64 0] ∧ L = []) := by
  refine enter1 Tryz.func65 rfl (by decide) (by decide) ?_
  intro B F
  dsimp only [lcA, lnA]
  repeat' first | refine adv ?_ | refine Side.go ?_ | refine Giv.mk fun _ => ?_ | refine All.mk fun q => ?_ | refine Fork.mk ?_ ?_ | (refine Two.mk (fun h => ?_) (fun h => ?_) <;> try first | contradiction | (exfalso; omega))
  refine CallG.use (ref_may Z S) ?_
  rintro r M ⟨b, hb, rfl, rfl⟩
  dsimp only [lcA, lnA]
  obtain rfl := hb.2 ok
  obtain ⟨⟨z0, z1⟩, s0, s1⟩ := ok
  repeat' first | refine adv ?_ | refine Side.go ?_ | refine Giv.mk fun _ => ?_ | refine All.mk fun q => ?_ | refine Fork.mk ?_ ?_ | (refine Two.mk (fun h => ?_) (fun h => ?_) <;> try first | contradiction | (exfalso; omega))
  have e2 : (3 * (Z : Int)) / 8 = (midOf Z : Nat) := by unfold midOf; omega
  simp only [e2]
  have hm : midOf Z ≤ 24 := by unfold midOf; omega
  repeat' first | refine adv ?_ | refine Side.go ?_ | refine Giv.mk fun _ => ?_ | refine All.mk fun q => ?_ | refine Fork.mk ?_ ?_ | (refine Two.mk (fun h => ?_) (fun h => ?_) <;> try first | contradiction | (exfalso; omega))
  exact endQ.res Tryz.results65 ⟨rfl, rfl⟩
theorem ref_capacity (Z S : Nat) (ok : geoOk Z S) : Spec Tryz.prog 24 #[.agg #[.int .i64 Z, .int .i64 S]] [] (fun v L => v = .int .i64 (capOf Z S) ∧ L = []) := by
  refine enter1 Tryz.func24 rfl (by decide) (by decide) ?_
  intro B F
  dsimp only [lcA, lnA]
  repeat' first | refine adv ?_ | refine Side.go ?_ | refine Giv.mk fun _ => ?_ | refine All.mk fun q => ?_ | refine Fork.mk ?_ ?_ | (refine Two.mk (fun h => ?_) (fun h => ?_) <;> try first | contradiction | (exfalso; omega))
  refine CallG.use (ref_split Z S ok) ?_
  rintro r M ⟨rfl, rfl⟩
  dsimp only [lcA, lnA]
  obtain ⟨⟨z0, z1⟩, s0, s1⟩ := ok
  have hm : midOf Z ≤ 24 := by unfold midOf; omega
  have hm2 : 3 ≤ midOf Z := by unfold midOf; omega
  have hp : midOf Z * S ≤ 24 * 192 := Nat.mul_le_mul hm (by omega)
  have hp2 : 3 * 96 ≤ midOf Z * S := Nat.mul_le_mul hm2 (by omega)
  have hpi : (midOf Z : Int) * (S : Int) = ((midOf Z * S : Nat) : Int) := (Int.natCast_mul _ _).symm
  repeat' first | refine adv ?_ | refine Side.go ?_ | refine Giv.mk fun _ => ?_ | refine All.mk fun q => ?_ | refine Fork.mk ?_ ?_ | (refine Two.mk (fun h => ?_) (fun h => ?_) <;> try first | contradiction | (exfalso; omega))
  refine endQ.one Tryz.results24 ⟨?_, rfl⟩
  congr 1
  unfold capOf
  omega
theorem law_least : Spec Tryz.prog 25 #[] [] (fun v L => v = .agg #[.int .i64 8, .int .i64 96] ∧ L = []) := by
  refine enter0 Tryz.func25 rfl (by decide) ?_
  intro B F
  dsimp only [lcA, lnA]
  repeat' first | refine adv ?_ | refine Side.go ?_ | refine Giv.mk fun _ => ?_ | refine All.mk fun q => ?_ | refine Fork.mk ?_ ?_ | (refine Two.mk (fun h => ?_) (fun h => ?_) <;> try first | contradiction | (exfalso; omega))
  exact endQ.res Tryz.results25 ⟨rfl, rfl⟩
theorem ref_newmap (n : Nat) (hn : 1 ≤ n ∧ n ≤ 1048576) : Spec Tryz.prog 114 #[.int .i64 n] [] (fun v L => ∃ p, v = .tuple #[.pointer (some ⟨p, 0, none⟩), .int .i64 0] ∧ L = []) := by
  refine enter1 Tryz.func114 rfl (by decide) (by decide) ?_
  intro B F
  dsimp only [lcA, lnA]
  repeat' first | refine adv ?_ | refine Side.go ?_ | refine Giv.mk fun _ => ?_ | refine All.mk fun q => ?_ | refine Fork.mk ?_ ?_ | (refine Two.mk (fun h => ?_) (fun h => ?_) <;> try first | contradiction | (exfalso; omega))
  exact endQ.two Tryz.results114 ⟨_, rfl, rfl⟩
theorem ref_new (n : Nat) (hn : 1 ≤ n ∧ n ≤ 1048576) : Spec Tryz.prog 70 #[.int .i64 n, .int .i64 0] [] (fun v L => ∃ p, v = .tuple #[.pointer (some ⟨p, 0, none⟩), .int .i64 0] ∧ L = []) := by
  refine enter2 Tryz.func70 rfl (by decide) (by decide) ?_
  intro B F
  dsimp only [lcA, lnA]
  repeat' first | refine adv ?_ | refine Side.go ?_ | refine Giv.mk fun _ => ?_ | refine All.mk fun q => ?_ | refine Fork.mk ?_ ?_ | (refine Two.mk (fun h => ?_) (fun h => ?_) <;> try first | contradiction | (exfalso; omega))
  refine CallG.use (ref_newmap n hn) ?_
  rintro r M ⟨p, rfl, rfl⟩
  dsimp only [lcA, lnA]
  repeat' first | refine adv ?_ | refine Side.go ?_ | refine Giv.mk fun _ => ?_ | refine All.mk fun q => ?_ | refine Fork.mk ?_ ?_ | (refine Two.mk (fun h => ?_) (fun h => ?_) <;> try first | contradiction | (exfalso; omega))
  exact endQ.two Tryz.results70 ⟨_, rfl, rfl⟩
end Go.SL
namespace Go.SL
open Go.Proofs
set_option synthInstance.maxSize 4000
set_option synthInstance.maxHeartbeats 400000
set_option maxRecDepth 4000
set_option maxHeartbeats 2000000

def Dv.fresh (Z S : Nat) : Dv := ⟨Z, S, List.replicate Z ([], 0), 0, 0, false, 0, false⟩
theorem dev_fresh (Z S : Nat) (ok : geoOk Z S) : Spec Tryz.prog 11 #[.agg #[.int .i64 Z, .int .i64 S]] [] (fun v L => ∃ r, v = .tuple #[.pointer (some ⟨r, 0, none⟩), .int .i64 0] ∧ L = [devO r (Dv.fresh Z S)]) := by
  refine Spec.wrap (R := []) (α := Unit) (g := fun _ => []) (rest := fun _ => []) (fun B F w h => ⟨(), h⟩) (fun _ => dev_new Z S) ?_
  rintro _ v L (⟨hn, -⟩ | ⟨-, r, a, c, ps, hp, rfl, rfl⟩)
  · exact absurd ok hn
  · refine ⟨_, ⟨r, rfl, rfl⟩, fun B F w h => ?_⟩
    refine devO_close ⟨Z, S, a, c, ps.map (fun p => (p, ⟨⟨none, 0, []⟩, 0⟩)), 0, 0, false, 0, false⟩ ?_ h
    unfold DR.dv Dv.fresh
    dsimp only
    congr 1
    rw [List.map_map]
    have : ((fun x : Ptr × ZR => x.2.zv) ∘ fun p : Ptr => (p, (⟨⟨none, 0, []⟩, 0⟩ : ZR))) = fun _ => (([], 0) : List (List UInt8) × Nat) := by funext p; rfl
    rw [this, List.map_const', hp]; rfl
theorem fresh_zone (Z S z : Nat) : zoneOf (Dv.fresh Z S) z = [] := by
  unfold zoneOf Dv.fresh
  dsimp only
  rw [List.getElem?_replicate]
  split <;> rfl
theorem fresh_ok {Z S : Nat} (ok : geoOk Z S) : (Dv.fresh Z S).ok := by
  obtain ⟨⟨h1, h2⟩, h3, h4⟩ := ok
  refine ⟨by show 8 ≤ Z; omega, by show Z ≤ 64; omega, by show 96 ≤ S; omega, by show S ≤ 192; omega, by simp [Dv.fresh], fun z hz => ?_, show (0 : Nat) < _ by decide⟩
  have := List.eq_of_mem_replicate hz
  rw [this]; simp
/-- A store on nothing. -/
def noT (Z S : Nat) : SS := ⟨⟨1, [], 0, false⟩, Mg.new (capOf Z S) 0, 0, 0, false⟩
theorem fresh_ds {Z S : Nat} (ok : geoOk Z S) : Ds (noT Z S) (Dv.fresh Z S) := by
  have hz : ∀ z, zoneOf (Dv.fresh Z S) z = [] := fresh_zone Z S
  refine ⟨fresh_ok ok, ⟨rfl, rfl⟩, fun z hz => by rw [List.eq_of_mem_replicate hz]; rfl, rfl, rfl, show (1 : Nat) < 2 by decide, show (0 : Nat) ≤ _ by decide, .inl ⟨rfl, rfl, rfl, laid_nil (fun z _ _ => hz z)⟩, ⟨none, Nat.zero_le _, laid_nil (fun z _ _ => hz z)⟩, ?_⟩
  refine ⟨[], ⟨0, []⟩, rfl, rfl, laid_nil (fun z _ _ => hz z), rfl, trivial, rfl, ?_⟩
  exact ⟨by simp [Sta.all], by simp [noT, Mg.new], fun k => rfl⟩
theorem ds_count {T : SS} {D : Dv} (h : Ds T D) : ∀ s, openAt D 0 (midOf D.Z) (2 * midOf D.Z) 2 = some s → s.2.2 < 1099511627776 := by
  intro s hs
  rw [(open_ds h).1] at hs
  cases hs
  have := h.cnt
  dsimp only; omega
/-- A manager freshly made of what was there. -/
def Mg.of (n : Nat) (last : Int) (E : Em) : Mg := { Mg.new n last with E := E }
theorem mount_fresh {Z S : Nat} (ok : geoOk Z S) : ∃ D' la, mountOf (Dv.fresh Z S) = ⟨0, D', ⟨⟨1, [], 0, false⟩, Mg.of (capOf Z S) 0 ⟨capOf Z S, [], la⟩, 0, 0, false⟩⟩ ∧ Ds ⟨⟨1, [], 0, false⟩, Mg.of (capOf Z S) 0 ⟨capOf Z S, [], la⟩, 0, 0, false⟩ D' ∧ la ≤ 0 ∧ (D'.Z = Z ∧ D'.S = S) ∧ D'.reads ≤ ((Z * S : Nat) : Int) := by
  have hds := fresh_ds ok
  have hcap := capOf_ok (fresh_ok ok)
  obtain ⟨D', E, h1, h2, h3, h4, h5, h6, h7, h8, h9⟩ := mount_ds (c := 0) hds ⟨hcap, by simp [noT, Mg.new], by simp [noT, Mg.new]⟩ rfl ⟨Int.le_refl 0, show (0 : Int) ≤ _ by decide⟩ (fun h => absurd rfl h)
  obtain ⟨bl, vs, la⟩ := E
  have hvs : vs = [] := by
    apply Classical.byContradiction
    intro hne
    have := h8 hne
    exact absurd this (show ¬ ((0 : Int) < 0) by decide)
  subst hvs
  dsimp only at h4
  subst h4
  have h7' : D'.reads ≤ 0 + ((Z * S : Nat) : Int) := h7
  exact ⟨D', la, h1, h2, h9, h6, by omega⟩

/-- A fresh store, as the laws' world holds it. -/
def freshL (w d p q : Nat) (Z S : Nat) (D : Dv) (la : Int) : List HProp :=
  [cells true w 0 [.pointer (some ⟨d, 0, none⟩), .pointer (some ⟨p, 0, none⟩), .pointer (some ⟨q, 0, none⟩), .int .i64 0], stO p d Z S ⟨⟨1, [], 0, false⟩, Mg.of (capOf Z S) 0 ⟨capOf Z S, [], la⟩, 0, 0, false⟩, devO d D]
theorem law_fresh (Z S : Nat) (ok : geoOk Z S) : Spec Tryz.prog 30 #[.agg #[.int .i64 Z, .int .i64 S]] [] (fun v L => ∃ w d p q D la, v = .tuple #[.pointer (some ⟨w, 0, none⟩), .bool true] ∧
    L = freshL w d p q Z S D la ∧ Ds ⟨⟨1, [], 0, false⟩, Mg.of (capOf Z S) 0 ⟨capOf Z S, [], la⟩, 0, 0, false⟩ D ∧ la ≤ 0 ∧ (D.Z = Z ∧ D.S = S)) := by
  obtain ⟨D', la, hm, hds, hla, ⟨hZ, hS⟩, -⟩ := mount_fresh ok
  have hcap := capOf_ok (fresh_ok ok)
  subst hZ hS
  dsimp only [Dv.fresh] at hcap
  refine enter1 Tryz.func30 rfl (by decide) (by decide) ?_
  intro B F
  dsimp only [lcA, lnA]
  repeat' first | refine adv ?_ | refine Side.go ?_ | refine Giv.mk fun _ => ?_ | refine All.mk fun q => ?_ | refine Fork.mk ?_ ?_ | (refine Two.mk (fun h => ?_) (fun h => ?_) <;> try first | contradiction | (exfalso; omega))
  refine CallG.use (dev_fresh D'.Z D'.S ok) ?_
  rintro r M ⟨d, rfl, rfl⟩
  dsimp only [lcA, lnA]
  repeat' first | refine adv ?_ | refine Side.go ?_ | refine Giv.mk fun _ => ?_ | refine All.mk fun q => ?_ | refine Fork.mk ?_ ?_ | (refine Two.mk (fun h => ?_) (fun h => ?_) <;> try first | contradiction | (exfalso; omega))
  refine CallG.use (st_mount d (Dv.fresh D'.Z D'.S) (fresh_ok ok) (ds_count (fresh_ds ok))) ?_
  rw [hm]
  rintro v M (⟨h, -⟩ | ⟨-, p, rfl, rfl⟩)
  · exact absurd rfl h
  dsimp only [List.cons_append, List.nil_append, Dv.fresh]
  repeat' first | refine adv ?_ | refine Side.go ?_ | refine Giv.mk fun _ => ?_ | refine All.mk fun q => ?_ | refine Fork.mk ?_ ?_ | (refine Two.mk (fun h => ?_) (fun h => ?_) <;> try first | contradiction | (exfalso; omega))
  refine CallG.use (ref_capacity D'.Z D'.S ok) ?_
  rintro r M ⟨rfl, rfl⟩
  dsimp only [lcA, lnA]
  repeat' first | refine adv ?_ | refine Side.go ?_ | refine Giv.mk fun _ => ?_ | refine All.mk fun q => ?_ | refine Fork.mk ?_ ?_ | (refine Two.mk (fun h => ?_) (fun h => ?_) <;> try first | contradiction | (exfalso; omega))
  refine CallG.use (ref_new (capOf D'.Z D'.S) hcap) ?_
  rintro r M ⟨xq, rfl, rfl⟩
  dsimp only [lcA, lnA]
  repeat' first | refine adv ?_ | refine Side.go ?_ | refine Giv.mk fun _ => ?_ | refine All.mk fun q => ?_ | refine Fork.mk ?_ ?_ | (refine Two.mk (fun h => ?_) (fun h => ?_) <;> try first | contradiction | (exfalso; omega))
  all_goals
    refine CallG.use (sto_blocks p d D' ⟨⟨1, [], 0, false⟩, Mg.of (capOf D'.Z D'.S) 0 ⟨capOf D'.Z D'.S, [], la⟩, 0, 0, false⟩ hds.ok) ?_
    rintro v M ⟨rfl, rfl⟩
    dsimp only [lcA, lnA]
    repeat' first | refine adv ?_ | refine Side.go ?_ | refine Giv.mk fun _ => ?_ | refine All.mk fun q => ?_ | refine Fork.mk ?_ ?_ | (refine Two.mk (fun h => ?_) (fun h => ?_) <;> try first | contradiction | (exfalso; omega))
  all_goals
    refine CallG.use (ref_capacity D'.Z D'.S ok) ?_
    rintro v M ⟨rfl, rfl⟩
    dsimp only [lcA, lnA]
    repeat' first | refine adv ?_ | refine Side.go ?_ | refine Giv.mk fun _ => ?_ | refine All.mk fun q => ?_ | refine Fork.mk ?_ ?_ | (refine Two.mk (fun h => ?_) (fun h => ?_) <;> try first | contradiction | (exfalso; omega))
  all_goals
    refine endQ.twoW Tryz.results30 ⟨q, d, p, xq, D', la, by rw [decide_eq_true rfl], rfl, hds, hla, rfl, rfl⟩ (fun w h => ?_)
    dsimp only [freshL, List.cons_append, List.nil_append]
    exact goes w h
end Go.SL
namespace Go.SL
open Go.Proofs
set_option synthInstance.maxSize 4000
set_option synthInstance.maxHeartbeats 400000
set_option maxRecDepth 4000
set_option maxHeartbeats 2000000

def awE (la : Int) : Em := ⟨258, [], la⟩
def awD : List UInt8 := dataOf 1
def awW : Wb := ⟨258, 16, [(5, awD)]⟩
def awM0 (la : Int) : Mg := Mg.of 258 0 (awE la)
def awM1 (la : Int) : Mg := { awM0 la with K := ⟨16, 1, [(1, 0)]⟩, all := [(1, ⟨1, 0, 0, 0, ⟨258, 16, []⟩, ⟨64, []⟩⟩)] }
def awM2 (la : Int) : Mg := { awM1 la with all := [(1, ⟨1, 0, 0, 0, awW, ⟨64, []⟩⟩)] }
def awM3 (la : Int) : Mg := { awM2 la with given := 1, all := [(1, ⟨2, 1, 0, 0, awW, ⟨64, []⟩⟩)], queue := [1] }
def awM4 (la : Int) : Mg := { awM3 la with E := ⟨258, [(5, [(1, awD)])], 1⟩, K := ⟨16, 1, []⟩, all := [(1, ⟨3, 1, 0, 0, awW, ⟨64, []⟩⟩)], last := 1, num := 1, queue := [], out := 0 }
theorem awD_len : awD.length = 40 := dataOf_len 1
theorem aw_begin (la : Int) : (awM0 la).begin = (1, 0, awM1 la) := rfl
theorem aw_write (la : Int) : (awM1 la).write 1 [(5, awD)] = (0, awM2 la) := by
  unfold Mg.write
  have h : openT (awM1 la) 1 = some ⟨1, 0, 0, 0, ⟨258, 16, []⟩, ⟨64, []⟩⟩ := rfl
  rw [h]
  dsimp only
  have hw : Wb.write ⟨258, 16, []⟩ [(5, awD)] = (0, awW) := by
    unfold Wb.write
    rw [if_neg (by decide), if_neg (by simp), if_neg (by simp [awD_len]), if_neg (by simp), if_neg (by simp [vget])]
    rfl
  rw [hw]; rfl
theorem aw_commit (la : Int) : (awM2 la).commit1 1 ⟨1, 0, 0, 0, awW, ⟨64, []⟩⟩ 5 = (0, awM3 la) := by
  have h : (awM2 la).mayC ⟨1, 0, 0, 0, awW, ⟨64, []⟩⟩ 5 = 0 := rfl
  unfold Mg.commit1
  rw [h, if_neg (by decide)]; rfl
theorem aw_puts : awW.puts = [(5, awD)] := by
  unfold Wb.puts awW
  have : sortI [5] = [5] := by simp [sortI]
  simp only [List.map_cons, List.map_nil]
  rw [this]; rfl
theorem aw_waits (la : Int) (o : Nat) : ({ awM3 la with out := o } : Mg).waits = [(1, [(5, awD)])] := by
  have : ({ awM3 la with out := o } : Mg).waits = [(1, awW.puts)] := rfl
  rw [this, aw_puts]
theorem aw_form : formGo 0 0 [((1 : Int), [((5 : Int), awD)])] = 1 := rfl
theorem aw_batch (la : Int) : (awM3 la).batch = (0, { awM3 la with out := 1 }, 1, [(1, [(5, awD)])]) := by
  have hw : (awM3 la).waits = [(1, [(5, awD)])] := aw_waits la 0
  unfold Mg.batch
  rw [if_neg (show ¬ 0 < (awM3 la).out from Nat.lt_irrefl 0), if_neg (by simp [awM3]), hw, aw_form]; rfl
theorem aw_end (M : Mg) (h : M.all = [(1, ⟨2, 1, 0, 0, awW, ⟨64, []⟩⟩)]) (hk : M.K = ⟨16, 1, [(1, 0)]⟩) (st code : Int) (h3 : st = 3) (h0 : code = 0) : M.end 1 st code = { M with all := [(1, ⟨3, 1, 0, 0, awW, ⟨64, []⟩⟩)], K := ⟨16, 1, []⟩ } := by
  subst h3 h0
  unfold Mg.end
  have hv : vget M.all 1 = some ⟨2, 1, 0, 0, awW, ⟨64, []⟩⟩ := by rw [h]; rfl
  rw [hv]
  dsimp only
  rw [h, hk]; rfl
theorem aw_done (la : Int) (hla : la ≤ 0) : ({ awM3 la with out := 1 } : Mg).done 0 = (0, awM4 la) := by
  have ha : (awE la).apply 1 [(5, awD)] = (0, ⟨258, [(5, [(1, awD)])], 1⟩) := by
    rw [put_ok_apply (E := awE la) (t := 1) (ps := [(5, awD)]) (show 1 ≤ 258 by decide) ⟨by show la < 1; omega, by decide⟩ (by simp) (by simp) (by
      intro p hp
      rw [List.mem_singleton.1 hp]
      exact ⟨show (0 : Int) ≤ 5 ∧ (5 : Int) < (258 : Nat) by decide, awD_len⟩)]
    rfl
  have hd : ({ awM3 la with out := 1 } : Mg).doneK 0 1 = { ({ awM3 la with out := 1 } : Mg) with E := ⟨258, [(5, [(1, awD)])], 1⟩, last := 1, all := [(1, ⟨3, 1, 0, 0, awW, ⟨64, []⟩⟩)], K := ⟨16, 1, []⟩ } := by
    rw [Mg.doneK, Mg.doneK, aw_waits, Mg.done1, if_neg (by decide)]
    have : ({ ({ awM3 la with out := 1 } : Mg) with E := (({ awM3 la with out := 1 } : Mg).E.apply 1 [(5, awD)]).2, last := 1 } : Mg) = { ({ awM3 la with out := 1 } : Mg) with E := ⟨258, [(5, [(1, awD)])], 1⟩, last := 1 } := by
      have : ({ awM3 la with out := 1 } : Mg).E = awE la := rfl
      rw [this, ha]
    show Mg.end _ 1 3 0 = _
    rw [show (([(1, [(5, awD)])] : List TV)[0]?.getD (0, [])) = (1, [(5, awD)]) from rfl]
    dsimp only
    rw [this]
    exact aw_end _ rfl rfl 3 0 rfl rfl
  unfold Mg.done
  rw [if_neg (show ¬ (1 : Nat) = 0 by decide)]
  dsimp only
  rw [hd]; rfl
theorem aw_check : checkB ((0 : Int) + 1) [((1 : Int), [((5 : Int), awD)])] = true := by decide +kernel
theorem aw_dump (la : Int) : (awM4 la).E.dump = [(5, awD)] := by
  show (if (258 : Nat) = 0 then [] else (sortI [5]).map fun k => (k, (((vget [((5 : Int), [((1 : Int), awD)])] k).getD []).getLast?.getD (0, [])).2)) = _
  have : sortI [5] = [5] := by simp [sortI]
  rw [if_neg (by decide), this]; rfl
theorem vget_one {α : Type} (k : Int) (x : α) : vget [(k, x)] k = some x := by unfold vget; simp
theorem aw_flush {D : Dv} {la : Int} (hla : la ≤ 0) (h : Ds ⟨⟨1, [], 0, false⟩, awM3 la, 0, 0, false⟩ D) (hZ : D.Z = 8) (hS : D.S = 96) :
    ∃ D', (⟨⟨1, [], 0, false⟩, awM3 la, 0, 0, false⟩ : SS).flush D = (0, ⟨⟨1, [], 0, false⟩, awM4 la, 2, 1, false⟩, D') ∧ Ds ⟨⟨1, [], 0, false⟩, awM4 la, 2, 1, false⟩ D' ∧ D'.Z = 8 ∧ D'.S = 96 := by
  obtain ⟨D', hw, hg, hds⟩ := write_ds h (l := [(1, [(5, awD)])]) aw_check (by rw [hZ, hS]; exact (show (0 : Nat) + 2 ≤ (8 - 2 * midOf 8) * 96 by decide)) (show (0 : Int) < 1 by decide)
  refine ⟨D', ?_, hds (awM4 la) (fun S hl hs => ?_), hg.1.trans hZ, hg.2.1.trans hS⟩
  · unfold SS.flush flushOf
    have hw' : writeOf D 0 0 0 [(1, [(5, awD)])] = ⟨0, 2, 1, D'⟩ := hw
    rw [aw_batch, if_neg (by simp)]
    dsimp only
    rw [hw', if_neg (by simp)]
    dsimp only
    rw [aw_done la hla]
  · refine ⟨rfl, ?_⟩
    have := hs.put 5 1 awD
    exact this
theorem aw_mgf (la : Int) (hla : la ≤ 0) : MgF (awM3 la) := by
  have hw := aw_waits la 0
  have hw' : (awM3 la).waits = [(1, [(5, awD)])] := hw
  refine ⟨?_, show (1 : Nat) ≤ 1000000 by decide, ?_, by show (0 : Nat) ≤ _; decide, by rw [hw', aw_form]; decide, by rw [hw']; rfl, ?_, ?_, ?_⟩
  · intro h hh
    rw [show h = 1 from List.mem_singleton.1 hh]
    exact ⟨_, vget_one _ _⟩
  · intro e he
    rw [show e = (1, ⟨2, 1, 0, 0, awW, ⟨64, []⟩⟩) from List.mem_singleton.1 he]
    refine ⟨by show (1 : Nat) ≤ _; decide, fun x hx => ?_⟩
    rw [show x = (5, awD) from List.mem_singleton.1 hx]
    exact ⟨by decide, by decide⟩
  · rw [hw']
    intro x hx
    rw [show x = (1, [(5, awD)]) from List.mem_singleton.1 hx]; show (1 : Nat) ≤ _; decide
  · rw [hw', aw_form]
    intro code k hk e he
    have hk0 : k = 0 := by omega
    subst hk0
    cases he
  · rw [hw', aw_form]
    intro code k hk
    have hk0 : k = 0 := by omega
    subst hk0
    exact ⟨_, vget_one _ _⟩
end Go.SL
namespace Go.SL
open Go.Proofs
set_option synthInstance.maxSize 4000
set_option synthInstance.maxHeartbeats 400000
set_option maxRecDepth 4000
set_option maxHeartbeats 2000000

theorem law_awake : Spec Tryz.prog 10 #[] [] (fun v L => v = .bool true ∧ L = []) := by
  have geo : geoOk (8 : Nat) (96 : Nat) := ⟨by decide, by decide⟩
  have hcap : capOf 8 96 = 258 := by decide
  refine enter0 Tryz.func10 rfl (by decide) ?_
  intro B F
  dsimp only [lcA, lnA]
  repeat' first | refine adv ?_ | refine Side.go ?_ | refine Giv.mk fun _ => ?_ | refine All.mk fun q => ?_ | refine Fork.mk ?_ ?_ | (refine Two.mk (fun h => ?_) (fun h => ?_) <;> try first | contradiction | (exfalso; omega))
  refine CallG.use law_least ?_
  rintro r M ⟨rfl, rfl⟩
  dsimp only [lcA, lnA]
  repeat' first | refine adv ?_ | refine Side.go ?_ | refine Giv.mk fun _ => ?_ | refine All.mk fun q => ?_ | refine Fork.mk ?_ ?_ | (refine Two.mk (fun h => ?_) (fun h => ?_) <;> try first | contradiction | (exfalso; omega))
  refine CallG.use (law_fresh 8 96 geo) ?_
  rintro v M ⟨w, d, p, xq, D, la, rfl, rfl, hds, hla, hZ, hS⟩
  dsimp only [freshL, List.cons_append, List.nil_append]
  rw [hcap] at hds ⊢
  repeat' first | refine adv ?_ | refine Side.go ?_ | refine Giv.mk fun _ => ?_ | refine All.mk fun q => ?_ | refine Fork.mk ?_ ?_ | (refine Two.mk (fun h => ?_) (fun h => ?_) <;> try first | contradiction | (exfalso; omega))
  have k0 : (Mg.of 258 0 ⟨258, [], la⟩) = awM0 la := rfl
  rw [k0] at hds ⊢
  refine CallG.use (sto_begin p d 8 96 ⟨⟨1, [], 0, false⟩, awM0 la, 0, 0, false⟩ rfl ⟨show 1 ≤ 258 by decide, show 258 ≤ 1048576 by decide⟩ (fun e he => by cases he) (show (0 : Nat) ≤ _ by decide) (show (0 : Nat) ≤ _ by decide)) ?_
  rintro r M ⟨rfl, rfl⟩
  dsimp only [lcA, lnA]
  rw [aw_begin]
  repeat' first | refine adv ?_ | refine Side.go ?_ | refine Giv.mk fun _ => ?_ | refine All.mk fun q => ?_ | refine Fork.mk ?_ ?_ | (refine Two.mk (fun h => ?_) (fun h => ?_) <;> try first | contradiction | (exfalso; omega))
  refine CallG.use (alike_data 1 (by decide)) ?_
  rintro r M ⟨a, c, rfl, rfl⟩
  dsimp only [lcA, lnA]
  rw [show dataOf 1 = awD from rfl]
  repeat' first | refine adv ?_ | refine Side.go ?_ | refine Giv.mk fun _ => ?_ | refine All.mk fun q => ?_ | refine Fork.mk ?_ ?_ | (refine Two.mk (fun h => ?_) (fun h => ?_) <;> try first | contradiction | (exfalso; omega))
  refine CallG_conv (L' := stO p d 8 96 ⟨⟨1, [], 0, false⟩, awM1 la, 0, 0, false⟩ :: roS (⟨some ⟨q, 0, none⟩, 1, [⟨5, ⟨a, c, awD⟩⟩]⟩ : Sl PutR) :: cells true w 0 [.pointer (some ⟨d, 0, none⟩), .pointer (some ⟨p, 0, none⟩), .pointer (some ⟨xq, 0, none⟩), .int .i64 0] :: devO d D :: F) (fun B w' h => ?_) ?_
  · have h2 : sat B (cells true q 0 [.int .i64 5, .slice a awD.length c] :: roS (⟨a, c, awD⟩ : Sl UInt8) :: stO p d 8 96 ⟨⟨1, [], 0, false⟩, awM1 la, 0, 0, false⟩ :: cells true w 0 [.pointer (some ⟨d, 0, none⟩), .pointer (some ⟨p, 0, none⟩), .pointer (some ⟨xq, 0, none⟩), .int .i64 0] :: devO d D :: F) w' := goes w' h
    exact goes w' (own_lit1 (⟨5, ⟨a, c, awD⟩⟩ : PutR) h2)
  refine CallG.use (sto_write p d 8 96 ⟨⟨1, [], 0, false⟩, awM1 la, 0, 0, false⟩ rfl 1 (⟨some ⟨q, 0, none⟩, 1, [⟨5, ⟨a, c, awD⟩⟩]⟩ : Sl PutR) (fun x hx => by rw [List.mem_singleton.1 hx]; exact ⟨show (-9223372036854775808 : Int) ≤ 5 by decide, show (5 : Int) ≤ _ by decide⟩) (fun e he => by rw [show e = (1, ⟨1, 0, 0, 0, ⟨258, 16, []⟩, ⟨64, []⟩⟩) from List.mem_singleton.1 he]; exact Nat.zero_le _)) ?_
  rintro r M ⟨rfl, rfl⟩
  dsimp only [lcA, lnA]
  have hall2 : ∀ e ∈ (awM2 la).all, e.2.W.vs.length ≤ 1000000 ∧ ∀ x ∈ e.2.W.vs, I64 x.1 := fun e he => by
    rw [show e = (1, ⟨1, 0, 0, 0, awW, ⟨64, []⟩⟩) from List.mem_singleton.1 he]
    refine ⟨show (1 : Nat) ≤ _ by decide, fun x hx => ?_⟩
    rw [show x = (5, awD) from List.mem_singleton.1 hx]
    exact ⟨by decide, by decide⟩
  have hps : ([⟨5, ⟨a, c, awD⟩⟩] : List PutR).map PutR.v = [(5, awD)] := rfl
  rw [hps, aw_write]
  repeat' first | refine adv ?_ | refine Side.go ?_ | refine Giv.mk fun _ => ?_ | refine All.mk fun q => ?_ | refine Fork.mk ?_ ?_ | (refine Two.mk (fun h => ?_) (fun h => ?_) <;> try first | contradiction | (exfalso; omega))
  refine CallG.use (sto_commit1 p d 8 96 ⟨⟨1, [], 0, false⟩, awM2 la, 0, 0, false⟩ rfl 1 ⟨1, 0, 0, 0, awW, ⟨64, []⟩⟩ 5 awD (vget_one _ _) rfl rfl rfl rfl ⟨by decide, by decide⟩ (fun e he => by cases he) hall2 (Int.le_refl 0)) ?_
  rintro r M ⟨rfl, rfl⟩
  dsimp only [lcA, lnA]
  rw [aw_commit]
  repeat' first | refine adv ?_ | refine Side.go ?_ | refine Giv.mk fun _ => ?_ | refine All.mk fun q => ?_ | refine Fork.mk ?_ ?_ | (refine Two.mk (fun h => ?_) (fun h => ?_) <;> try first | contradiction | (exfalso; omega))
  dsimp only
  rw [show stO p d 8 96 = stO p d D.Z D.S from by rw [hZ, hS]]
  have hds3 : Ds ⟨⟨1, [], 0, false⟩, awM3 la, 0, 0, false⟩ D := ⟨hds.ok, hds.live, hds.good, rfl, rfl, hds.inn, hds.cnt, hds.slot, hds.oth, hds.log⟩
  obtain ⟨D2, hfl, hds4, hZ2, hS2⟩ := aw_flush hla hds3 hZ hS
  refine CallG.use (sto_flush p d D ⟨⟨1, [], 0, false⟩, awM3 la, 0, 0, false⟩ hds.ok rfl (show (0 : Nat) ≤ _ by decide) (show (0 : Nat) ≤ _ by decide) (aw_mgf la hla)) ?_
  rintro r M ⟨rfl, rfl⟩
  dsimp only [lcA, lnA]
  rw [hfl]
  repeat' first | refine adv ?_ | refine Side.go ?_ | refine Giv.mk fun _ => ?_ | refine All.mk fun q => ?_ | refine Fork.mk ?_ ?_ | (refine Two.mk (fun h => ?_) (fun h => ?_) <;> try first | contradiction | (exfalso; omega))
  dsimp only
  rw [hZ, hS]
  refine CallG_conv (L' := devO d D2 :: roS (⟨none, 0, []⟩ : Sl Int) :: roS (⟨none, 0, []⟩ : Sl Int) :: F) (fun B w' h => goes w' (sat_true (ro_nil (α := Int)) (sat_true (ro_nil (α := Int)) h))) ?_
  refine CallG.use (dev_crash d D2 hds4.ok (⟨none, 0, []⟩ : Sl Int) (⟨none, 0, []⟩ : Sl Int)) ?_
  rintro r M ⟨d2, rfl, rfl⟩
  dsimp only [lcA, lnA]
  have hds5 := hds4.crash [] []
  have hE4 : EOk (awM4 la).E 1 := by
    refine ⟨⟨show 1 ≤ 258 by decide, show 258 ≤ 1048576 by decide⟩, by simp [awM4], fun e he => ?_⟩
    rw [show e = (5, [(1, awD)]) from List.mem_singleton.1 he]
    exact ⟨show (0 : Int) ≤ 5 ∧ (5 : Int) < (258 : Nat) by decide, ⟨show 0 < 1 by decide, Nat.le_refl _⟩, fun q hq => by rw [show q = (1, awD) from List.mem_singleton.1 hq]; exact awD_len⟩
  have hd4 := aw_dump la
  obtain ⟨D6, E6, hm6, hds6, hE6, hb6, hdump, ⟨hZ6, hS6⟩, -, -, -⟩ := mount_ds hds5 hE4 (show 258 = capOf D2.Z D2.S by rw [hZ2, hS2]; decide) ⟨show (0 : Int) ≤ 1 by decide, show (1 : Int) ≤ _ by decide⟩ (fun _ => show (0 : Int) < 1 by decide)
  rw [hd4] at hdump
  obtain ⟨T6, hT6, hl6, hv6, he6, hd6⟩ : ∃ T6, mountOf (D2.crash [] []) = ⟨0, D6, T6⟩ ∧ T6.M.last = 1 ∧ T6.M.E.vs.length ≤ 1000000 ∧ EOk T6.M.E 300 ∧ T6.M.E.dump = [(5, awD)] := ⟨_, hm6, rfl, Nat.le_trans hE6.len (by rw [hb6]; show capOf D2.Z D2.S ≤ 1000000; rw [hZ2, hS2]; decide), hE6.mono (by show capOf D2.Z D2.S + 1 ≤ 300; rw [hZ2, hS2]; decide), hdump⟩
  clear hm6 hds6 hE6 hdump
  repeat' first | refine adv ?_ | refine Side.go ?_ | refine Giv.mk fun _ => ?_ | refine All.mk fun q => ?_ | refine Fork.mk ?_ ?_ | (refine Two.mk (fun h => ?_) (fun h => ?_) <;> try first | contradiction | (exfalso; omega))
  refine CallG.use (st_mount d2 (D2.crash [] []) hds5.ok (ds_count hds5)) ?_
  rw [hT6]
  rintro v M (⟨h, -⟩ | ⟨-, p2, rfl, rfl⟩)
  · exact absurd rfl h
  dsimp only [lcA, lnA]
  repeat' first | refine adv ?_ | refine Side.go ?_ | refine Giv.mk fun _ => ?_ | refine All.mk fun q => ?_ | refine Fork.mk ?_ ?_ | (refine Two.mk (fun h => ?_) (fun h => ?_) <;> try first | contradiction | (exfalso; omega))
  refine CallG.use (sto_dump p2 d2 (D2.crash [] []).Z (D2.crash [] []).S T6 (he6.hk (by decide)) hv6) ?_
  rintro r M ⟨u, hu, rfl, rfl⟩
  dsimp only [lcA, lnA]
  rw [hd6] at hu
  have hul : u.xs.length = 1 := by have := congrArg List.length hu; rwa [List.length_map] at this
  have hu0 : 0 < u.xs.length := by omega
  have hux : u.xs[0].v = (5, awD) := by
    have h1 : (u.xs.map PutR.v)[0]? = some (5, awD) := by rw [hu]; rfl
    rw [List.getElem?_map, List.getElem?_eq_getElem hu0] at h1
    exact Option.some.inj h1
  have hl5 : u.xs[0].lba = 5 := congrArg Prod.fst hux
  have hd5 : u.xs[0].d.xs = awD := congrArg Prod.snd hux
  refine SyO_conv (freezeS u) ?_
  repeat' first | refine adv ?_ | refine Side.go ?_ | refine Giv.mk fun _ => ?_ | refine All.mk fun q => ?_ | refine Fork.mk ?_ ?_ | (refine Two.mk (fun h => ?_) (fun h => ?_) <;> try first | contradiction | (exfalso; omega))
  all_goals try (exfalso; omega)
  refine CallG.use (alike_data 1 (by decide)) ?_
  rintro r M ⟨a2, c2, rfl, rfl⟩
  dsimp only [lcA, lnA]
  repeat' first | refine adv ?_ | refine Side.go ?_ | refine Giv.mk fun _ => ?_ | refine All.mk fun q => ?_ | refine Fork.mk ?_ ?_ | (refine Two.mk (fun h => ?_) (fun h => ?_) <;> try first | contradiction | (exfalso; omega))
  refine CallG.pull (fun B => pull_put u hu0) ?_
  refine CallG.use (alike_bytes u.xs[0].d (⟨a2, c2, dataOf 1⟩ : Sl UInt8)) ?_
  rintro r M ⟨rfl, rfl⟩
  dsimp only [lcA, lnA]
  rw [show decide (u.xs[0].d.xs = dataOf 1) = true from decide_eq_true hd5]
  repeat' first | refine adv ?_ | refine Side.go ?_ | refine Giv.mk fun _ => ?_ | refine All.mk fun q => ?_ | refine Fork.mk ?_ ?_ | (refine Two.mk (fun h => ?_) (fun h => ?_) <;> try first | contradiction | (exfalso; omega))
  refine CallG.use (sto_last p2 d2 (D2.crash [] []).Z (D2.crash [] []).S T6) ?_
  rintro r M ⟨rfl, rfl⟩
  dsimp only [lcA, lnA]
  rw [hl6]
  repeat' first | refine adv ?_ | refine Side.go ?_ | refine Giv.mk fun _ => ?_ | refine All.mk fun q => ?_ | refine Fork.mk ?_ ?_ | (refine Two.mk (fun h => ?_) (fun h => ?_) <;> try first | contradiction | (exfalso; omega))
  exact endQ.one Tryz.results10 ⟨by rw [decide_eq_true rfl], rfl⟩
end Go.SL
namespace Go.SL
open Go.Proofs
set_option synthInstance.maxSize 4000
set_option synthInstance.maxHeartbeats 400000
set_option maxRecDepth 4000
set_option maxHeartbeats 2000000

theorem dev_geometry_nil : Spec Tryz.prog 37 #[.pointer none] [] (fun v L => v = .agg #[.int .i64 0, .int .i64 0] ∧ L = []) := by
  refine enter1 Tryz.func37 rfl (by decide) (by decide) ?_
  intro B F
  dsimp only [lcA, lnA]
  repeat' first | refine adv ?_ | refine Side.go ?_ | refine Giv.mk fun _ => ?_ | refine All.mk fun q => ?_ | refine Fork.mk ?_ ?_ | (refine Two.mk (fun h => ?_) (fun h => ?_) <;> try first | contradiction | (exfalso; omega))
  refine CallG.use dev_gone_nil ?_
  rintro r M ⟨rfl, rfl⟩
  dsimp only [lcA, lnA]
  repeat' first | refine adv ?_ | refine Side.go ?_ | refine Giv.mk fun _ => ?_ | refine All.mk fun q => ?_ | refine Fork.mk ?_ ?_ | (refine Two.mk (fun h => ?_) (fun h => ?_) <;> try first | contradiction | (exfalso; omega))
  exact endQ.res Tryz.results37 ⟨rfl, rfl⟩
theorem space_split_no (Z S : Int) (no : ¬ geoOk Z S) : Spec Tryz.prog 36 #[.agg #[.int .i64 Z, .int .i64 S]] [] (fun v L => v = .tuple #[.agg #[.int .i64 0, .int .i64 0, .int .i64 0, .int .i64 0], .int .i64 1] ∧ L = []) := by
  refine enter1 Tryz.func36 rfl (by decide) (by decide) ?_
  intro B F
  dsimp only [lcA, lnA]
  repeat' first | refine adv ?_ | refine Side.go ?_ | refine Giv.mk fun _ => ?_ | refine All.mk fun q => ?_ | refine Fork.mk ?_ ?_ | (refine Two.mk (fun h => ?_) (fun h => ?_) <;> try first | contradiction | (exfalso; omega))
  refine CallG.use (space_may Z S) ?_
  rintro r M ⟨b, hb, rfl, rfl⟩
  dsimp only [lcA, lnA]
  have hb0 : b = false := by
    cases b with
    | false => rfl
    | true => exact absurd (hb.1 rfl) no
  rw [hb0]
  repeat' first | refine adv ?_ | refine Side.go ?_ | refine Giv.mk fun _ => ?_ | refine All.mk fun q => ?_ | refine Fork.mk ?_ ?_ | (refine Two.mk (fun h => ?_) (fun h => ?_) <;> try first | contradiction | (exfalso; omega))
  exact endQ.res Tryz.results36 ⟨rfl, rfl⟩
theorem st_mount_nil : Spec Tryz.prog 12 #[.pointer none] [] (fun v L => v = .tuple #[.pointer none, .int .i64 1] ∧ L = []) := by
  refine enter1 Tryz.func12 rfl (by decide) (by decide) ?_
  intro B F
  dsimp only [lcA, lnA]
  repeat' first | refine adv ?_ | refine Side.go ?_ | refine Giv.mk fun _ => ?_ | refine All.mk fun q => ?_ | refine Fork.mk ?_ ?_ | (refine Two.mk (fun h => ?_) (fun h => ?_) <;> try first | contradiction | (exfalso; omega))
  refine CallG.use dev_geometry_nil ?_
  rintro r M ⟨rfl, rfl⟩
  dsimp only [lcA, lnA]
  repeat' first | refine adv ?_ | refine Side.go ?_ | refine Giv.mk fun _ => ?_ | refine All.mk fun q => ?_ | refine Fork.mk ?_ ?_ | (refine Two.mk (fun h => ?_) (fun h => ?_) <;> try first | contradiction | (exfalso; omega))
  refine CallG.use (space_split_no 0 0 (by unfold geoOk; omega)) ?_
  rintro r M ⟨rfl, rfl⟩
  dsimp only [lcA, lnA]
  repeat' first | refine adv ?_ | refine Side.go ?_ | refine Giv.mk fun _ => ?_ | refine All.mk fun q => ?_ | refine Fork.mk ?_ ?_ | (refine Two.mk (fun h => ?_) (fun h => ?_) <;> try first | contradiction | (exfalso; omega))
  exact endQ.two Tryz.results12 ⟨rfl, rfl⟩
theorem law_nothing (hn : Int) : Spec Tryz.prog 8 #[.int .i64 hn] [] (fun v L => v = .bool true ∧ L = []) := by
  refine enter1 Tryz.func8 rfl (by decide) (by decide) ?_
  intro B F
  dsimp only [lcA, lnA]
  repeat' first | refine adv ?_ | refine Side.go ?_ | refine Giv.mk fun _ => ?_ | refine All.mk fun q => ?_ | refine Fork.mk ?_ ?_ | (refine Two.mk (fun h => ?_) (fun h => ?_) <;> try first | contradiction | (exfalso; omega))
  refine CallG.use st_mount_nil ?_
  rintro r M ⟨rfl, rfl⟩
  dsimp only [lcA, lnA]
  repeat' first | refine adv ?_ | refine Side.go ?_ | refine Giv.mk fun _ => ?_ | refine All.mk fun q => ?_ | refine Fork.mk ?_ ?_ | (refine Two.mk (fun h => ?_) (fun h => ?_) <;> try first | contradiction | (exfalso; omega))
  refine CallG.use st_begin_nil ?_
  rintro r M ⟨rfl, rfl⟩
  dsimp only [lcA, lnA]
  repeat' first | refine adv ?_ | refine Side.go ?_ | refine Giv.mk fun _ => ?_ | refine All.mk fun q => ?_ | refine Fork.mk ?_ ?_ | (refine Two.mk (fun h => ?_) (fun h => ?_) <;> try first | contradiction | (exfalso; omega))
  refine CallG.use (st_result_nil hn) ?_
  rintro r M ⟨rfl, rfl⟩
  dsimp only [lcA, lnA]
  repeat' first | refine adv ?_ | refine Side.go ?_ | refine Giv.mk fun _ => ?_ | refine All.mk fun q => ?_ | refine Fork.mk ?_ ?_ | (refine Two.mk (fun h => ?_) (fun h => ?_) <;> try first | contradiction | (exfalso; omega))
  refine CallG.use (st_commit_nil hn) ?_
  rintro r M ⟨rfl, rfl⟩
  dsimp only [lcA, lnA]
  repeat' first | refine adv ?_ | refine Side.go ?_ | refine Giv.mk fun _ => ?_ | refine All.mk fun q => ?_ | refine Fork.mk ?_ ?_ | (refine Two.mk (fun h => ?_) (fun h => ?_) <;> try first | contradiction | (exfalso; omega))
  refine CallG.use st_flush_nil ?_
  rintro r M ⟨rfl, rfl⟩
  dsimp only [lcA, lnA]
  repeat' first | refine adv ?_ | refine Side.go ?_ | refine Giv.mk fun _ => ?_ | refine All.mk fun q => ?_ | refine Fork.mk ?_ ?_ | (refine Two.mk (fun h => ?_) (fun h => ?_) <;> try first | contradiction | (exfalso; omega))
  refine CallG.use st_checkpoint_nil ?_
  rintro r M ⟨rfl, rfl⟩
  dsimp only [lcA, lnA]
  repeat' first | refine adv ?_ | refine Side.go ?_ | refine Giv.mk fun _ => ?_ | refine All.mk fun q => ?_ | refine Fork.mk ?_ ?_ | (refine Two.mk (fun h => ?_) (fun h => ?_) <;> try first | contradiction | (exfalso; omega))
  refine CallG.use st_clean_nil ?_
  rintro r M ⟨rfl, rfl⟩
  dsimp only [lcA, lnA]
  repeat' first | refine adv ?_ | refine Side.go ?_ | refine Giv.mk fun _ => ?_ | refine All.mk fun q => ?_ | refine Fork.mk ?_ ?_ | (refine Two.mk (fun h => ?_) (fun h => ?_) <;> try first | contradiction | (exfalso; omega))
  refine CallG.use st_blocks_nil ?_
  rintro r M ⟨rfl, rfl⟩
  dsimp only [lcA, lnA]
  repeat' first | refine adv ?_ | refine Side.go ?_ | refine Giv.mk fun _ => ?_ | refine All.mk fun q => ?_ | refine Fork.mk ?_ ?_ | (refine Two.mk (fun h => ?_) (fun h => ?_) <;> try first | contradiction | (exfalso; omega))
  refine CallG.use st_dump_nil ?_
  rintro r M ⟨rfl, rfl⟩
  dsimp only [lcA, lnA]
  repeat' first | refine adv ?_ | refine Side.go ?_ | refine Giv.mk fun _ => ?_ | refine All.mk fun q => ?_ | refine Fork.mk ?_ ?_ | (refine Two.mk (fun h => ?_) (fun h => ?_) <;> try first | contradiction | (exfalso; omega))
  refine CallG.use st_dead_nil ?_
  rintro r M ⟨rfl, rfl⟩
  dsimp only [lcA, lnA]
  repeat' first | refine adv ?_ | refine Side.go ?_ | refine Giv.mk fun _ => ?_ | refine All.mk fun q => ?_ | refine Fork.mk ?_ ?_ | (refine Two.mk (fun h => ?_) (fun h => ?_) <;> try first | contradiction | (exfalso; omega))
  refine CallG.use law_awake ?_
  rintro r M ⟨rfl, rfl⟩
  dsimp only [lcA, lnA]
  repeat' first | refine adv ?_ | refine Side.go ?_ | refine Giv.mk fun _ => ?_ | refine All.mk fun q => ?_ | refine Fork.mk ?_ ?_ | (refine Two.mk (fun h => ?_) (fun h => ?_) <;> try first | contradiction | (exfalso; omega))
  exact endQ.one Tryz.results8 ⟨rfl, rfl⟩
end Go.SL
namespace Go.SL

def heapAt (W : World) : Hp
  | .cell r o => match W.heap[r]? with
    | some (.cells c _ _) => (c[o]?).map fun v => (false, .cell v)
    | _ => none
  | .obj r => match W.heap[r]? with
    | some o => if notCells o = true then some (false, .obj o) else none
    | none => none
/-- All that was there, only read. -/
def heapO (W : World) : HProp := fun h => h = heapAt W
theorem heap_real (W : World) : realises (heapAt W) W := by
  intro k b x hk
  cases k with
  | cell r o =>
    unfold heapAt at hk
    dsimp only at hk
    split at hk
    · rename_i c t fr he
      obtain ⟨v, hv, e⟩ := Option.map_eq_some_iff.1 hk
      cases e
      refine ⟨?_, fun h => by cases h⟩
      unfold World.cell?
      dsimp only
      rw [he]
      simpa using hv
    · cases hk
  | obj r =>
    unfold heapAt at hk
    dsimp only at hk
    split at hk
    · rename_i o he
      split at hk
      · rename_i hn
        cases hk
        exact ⟨he, hn⟩
      · cases hk
    · cases hk
theorem Base.refl (W : World) : Base W W := ⟨rfl, rfl, Nat.le_refl _, fun _ _ => rfl, fun _ c _ _ h => ⟨c, h, rfl⟩⟩
theorem sat_heap (W : World) : sat W [heapO W] W :=
  ⟨Base.refl W, heapAt W, ⟨heapAt W, fun _ => none, fun k => .inr (.inl rfl), by funext k; unfold join; cases heapAt W k <;> rfl, rfl, trivial⟩, heap_real W⟩
/-- What was there is there. -/
theorem heap_kept {W w : World} {L : List HProp} (h : sat W (L ++ [heapO W]) w) : w.os = W.os ∧ w.output = W.output ∧ W.heap.size ≤ w.heap.size ∧ ∀ k, k < W.heap.size → w.heap[k]? = W.heap[k]? := by
  have hb := h.base
  have h2 : sat W (heapO W :: L) w := h.perm List.perm_append_comm
  obtain ⟨g, hg, hr⟩ := h2.headOf
  cases hg
  refine ⟨hb.os, hb.output, hb.size, fun k hk => ?_⟩
  have hW : W.heap[k]? = some W.heap[k] := by simp [hk]
  cases ho : W.heap[k] with
  | cells c t fr =>
    rw [ho] at hW
    obtain ⟨c', hc', hs⟩ := hb.cells k c t fr hW
    rw [hc', hW]
    have : c' = c := by
      apply Array.ext hs
      intro i h1 h2
      have hi := hr (.cell k i) false (.cell c[i]) (by unfold heapAt; dsimp only; rw [hW]; simp [h2])
      have hi := hi.1
      unfold World.cell? at hi
      dsimp only at hi
      rw [hc'] at hi
      simpa [h1] using hi
    rw [this]
  | _ =>
    rw [ho] at hW
    have hi := hr (.obj k) false (.obj W.heap[k]) (by unfold heapAt; dsimp only; rw [hW, ho]; rfl)
    rw [hi.1, hW, ho]
theorem Spec.calls {P : Program} {f : FuncId} {args : Array Value} {post : Value → List HProp → Prop} (h : Spec P f args [] post) (w : World) :
    Calls P f args w fun e w' => (∃ v L, e = .returned v ∧ post v L) ∧ w'.os = w.os ∧ w'.output = w.output ∧ w.heap.size ≤ w'.heap.size ∧ ∀ k, k < w.heap.size → w'.heap[k]? = w.heap[k]? := by
  refine (h w [heapO w] w (sat_heap w)).mono ?_
  rintro e w' ⟨v, L, rfl, hp, hs⟩
  exact ⟨⟨v, L, rfl, hp⟩, heap_kept hs⟩
theorem kept_frame {W w' : World} (ho : w'.os = W.os) (hp : w'.output = W.output) (hb : ∀ k, k < W.heap.size → w'.heap[k]? = W.heap[k]?) (may : MemPlace → Prop) : W.keptBut w' may := by
  refine ⟨ho, hp, fun i hi => ?_⟩
  rw [hb i hi]
  split <;> simp_all
end Go.SL
