/- Parts of the proof of StoreRoom: a logic of memory, contracts of functions, plain laws (Ext5, Hor, Wb, Wb2, Wb3, Iv, Iv2, SlSortF, Iv3, Rs, Val, Bat2, Bat3, Bat4, Bat5, Bat6, Tx). Conditions: those that each theorem names. -/
import Derived.Shelf.SlSortCmp.NoneTotal
import Derived.Shelf.SlicesG.Cmp
import Derived.Shelf.Small.Bits
import Derived.Ground.SlsfProg
import Derived.Ground.SlgcProg
import Derived.Ground.NamesProg
import Derived.Test.YtfgchgnielfhgaaGreatStoreRoomP3
set_option linter.unusedSimpArgs false
set_option linter.unusedVariables false
namespace Go.SL
open Go.Proofs
set_option synthInstance.maxSize 4000
set_option synthInstance.maxHeartbeats 400000
set_option maxRecDepth 4000
set_option maxHeartbeats 2000000

def wrote (first len after : Int) (e : Int × List PV) : Bool := decide (first ≤ e.1 ∧ e.1 - first < len ∧ after < (e.2.getLast?.getD (0, [])).1)
def Em.written (E : Em) (first len after : Int) : Bool :=
  if E.blocks = 0 ∨ first < 0 ∨ 1048576 < first ∨ len < 1 ∨ 1048577 - first < len ∨ 1048576 < len then false else E.vs.any (wrote first len after)

theorem iter_perm {L R : List HProp} {i m : Nat} {ks : List Int} {bs : List Nat} {ck : Nat} {done rest : List Int} [p : IterPick L i m ks bs ck done rest R] (B : World) (w : World) (h : sat B L w) : (done ++ rest).Perm ks := (iterO_open (h.perm p.perm)).1

theorem take_some {α : Type} [Rep α] {B : World} {L R : List HProp} {vs : List (Int × Sl α)} {k : Int} {s : Sl α} (hn : (vs.map (·.1)).Nodup) (hg : vget vs k = some s) [p : Pick (bigS (fun q : Int × Sl α => ownS q.2) vs) L R] :
    ∀ w, sat B L w → sat B (ownS s :: bigS (fun q : Int × Sl α => ownS q.2) (vdel vs k) :: R) w := fun w h => by
  have := take_own vs k hn w h
  rw [hg] at this
  exact this

theorem ext_written (m : Nat) (E : Em) (first len after : Int) (hk : ∀ e ∈ E.vs, I64 e.1 ∧ 0 < e.2.length ∧ e.2.length ≤ 2000000) :
    Spec Tryz.prog 158 #[.pointer (some ⟨m, 0, none⟩), .agg #[.int .i64 first, .int .i64 len], .int .i64 after] [emO m E] (fun v L => v = .bool (E.written first len after) ∧ L = [emO m E]) := by
  refine enter3 Tryz.func158 rfl (by decide) (by decide) ?_
  intro B F
  dsimp only [lcA, lnA]
  refine Sy_all (fun w h => emO_open h) (fun r => ?_)
  obtain ⟨⟨rm, vs⟩, hr⟩ := r
  dsimp only [emL, List.cons_append, List.nil_append]
  have hve : ∀ e ∈ vs, I64 e.1 ∧ 0 < e.2.xs.length ∧ e.2.xs.length ≤ 2000000 := by
    intro e he
    have := hk (e.1, e.2.xs.map Ver.v) (by rw [← hr]; exact List.mem_map.2 ⟨e, he, rfl⟩)
    simpa using this
  refine Sy_know (fun B w h => map_nodup (r := rm) (es := vmap Sl.val vs) B w h) (fun hn => ?_)
  rw [vmap_keys] at hn
  repeat' first | refine adv ?_ | refine Side.go ?_ | refine Giv.mk fun _ => ?_ | refine All.mk fun q => ?_ | refine Fork.mk ?_ ?_ | (refine Two.mk (fun h => ?_) (fun h => ?_) <;> try first | contradiction | (exfalso; omega))
  obtain ⟨x4, hx4⟩ : ∃ p, p = q := ⟨q, rfl⟩
  subst hx4
  refine CallG.use (ext_gone m E.blocks (.map (some rm)) (.int .i64 E.last)) ?_
  rintro r M ⟨rfl, rfl⟩
  dsimp only [lcA, lnA]
  have hno : (E.blocks = 0 ∨ first < 0 ∨ 1048576 < first ∨ len < 1 ∨ 1048577 - first < len ∨ 1048576 < len) → E.written first len after = false := fun h => by rw [Em.written, if_pos h]
  by_cases hb : E.blocks = 0
  · rw [decide_eq_true hb]
    repeat' first | refine adv ?_ | refine Side.go ?_ | refine Giv.mk fun _ => ?_ | refine All.mk fun q => ?_ | refine Fork.mk ?_ ?_ | (refine Two.mk (fun h => ?_) (fun h => ?_) <;> try first | contradiction | (exfalso; omega))
    rw [hno (by omega)]
    exact endQ.oneW Tryz.results158 ⟨rfl, rfl⟩ (fun w h => emO_close E (rm, vs) hr (goes w h))
  rw [decide_eq_false hb]
  repeat' first | refine adv ?_ | refine Side.go ?_ | refine Giv.mk fun _ => ?_ | refine All.mk fun q => ?_ | refine Fork.mk ?_ ?_ | (refine Two.mk (fun h => ?_) (fun h => ?_) <;> try first | contradiction | (exfalso; omega))
  · rw [hno (by omega)]
    exact endQ.oneW Tryz.results158 ⟨rfl, rfl⟩ (fun w h => emO_close E (rm, vs) hr (goes w h))
  · rw [hno (by omega)]
    exact endQ.oneW Tryz.results158 ⟨rfl, rfl⟩ (fun w h => emO_close E (rm, vs) hr (goes w h))
  · rw [hno (by omega)]
    exact endQ.oneW Tryz.results158 ⟨rfl, rfl⟩ (fun w h => emO_close E (rm, vs) hr (goes w h))
  · rw [hno (by omega)]
    exact endQ.oneW Tryz.results158 ⟨rfl, rfl⟩ (fun w h => emO_close E (rm, vs) hr (goes w h))
  · rw [hno (by omega)]
    exact endQ.oneW Tryz.results158 ⟨rfl, rfl⟩ (fun w h => emO_close E (rm, vs) hr (goes w h))
  have hyes : E.written first len after = E.vs.any (wrote first len after) := by rw [Em.written, if_neg (by omega)]
  rename_i it bs
  obtain ⟨ck, hck⟩ : ∃ p, p = q := ⟨q, rfl⟩
  subst hck
  have hcond : ∀ k x, vget vs k = some x → (wrote first len after (k, x.xs.map Ver.v) = true ↔ first ≤ k ∧ k - first < len ∧ after < ((x.xs[x.xs.length - 1]?.map Ver.time).getD 0)) := by
    intro k x hx
    unfold wrote
    rw [decide_eq_true_eq, List.getLast?_eq_getElem?, List.length_map, List.getElem?_map]
    cases x.xs[x.xs.length - 1]? <;> rfl
  refine Sy_loop (ι := {st : List Int × List Int // ∀ k ∈ st.1, ∀ x, vget vs k = some x → wrote first len after (k, x.xs.map Ver.v) = false})
    (fun st => [(43, .pointer (some ⟨it, 0, none⟩)), (4, .pointer (some ⟨x4, 0, none⟩)), (2, .int .i64 after)])
    (fun st => iterO it rm ((vmap Sl.val vs).map (·.1)) bs ck st.1.1 st.1.2 :: mapB rm (vmap Sl.val vs) bs ck :: cells true x4 0 [.int .i64 first, .int .i64 len] :: cells true m 0 [.int .i64 E.blocks, .map (some rm), .int .i64 E.last] :: bigS (fun q : Int × Sl Ver => ownS q.2) vs :: F)
    (fun st => st.1.2.length) ⟨([], (vmap Sl.val vs).map (·.1)), fun k hk => by cases hk⟩ (evs rfl (evs rfl (evs rfl .nil))) (fun w h => goes w h) ?_
  rintro ⟨⟨done, rest⟩, hdone⟩ env
  dsimp only [upds] at hdone ⊢
  refine Sy_know (fun B w h => iter_perm (i := it) (m := rm) (ks := (vmap Sl.val vs).map (fun e : Int × Value => e.1)) (bs := bs) (ck := ck) (done := done) (rest := rest) B w h) (fun hperm => ?_)
  repeat' first | refine adv ?_ | refine Side.go ?_ | refine Giv.mk fun _ => ?_ | refine All.mk fun q => ?_ | refine Fork.mk ?_ ?_ | (refine Two.mk (fun h => ?_) (fun h => ?_) <;> try first | contradiction | (exfalso; omega))
  refine NextG.mk (fun h0 => ?_) (fun k y rest' hp hg => ?_)
  · subst h0
    repeat' first | refine adv ?_ | refine Side.go ?_ | refine Giv.mk fun _ => ?_ | refine All.mk fun q => ?_ | refine Fork.mk ?_ ?_ | (refine Two.mk (fun h => ?_) (fun h => ?_) <;> try first | contradiction | (exfalso; omega))
    have hfin : E.written first len after = false := by
      rw [hyes, List.any_eq_false]
      intro e he hw
      rw [← hr] at he
      obtain ⟨x, hx, rfl⟩ := List.mem_map.1 he
      have hxk : x.1 ∈ done := by
        have : x.1 ∈ (vmap Sl.val vs).map (·.1) := by rw [vmap_keys]; exact List.mem_map.2 ⟨x, hx, rfl⟩
        have h2 := hperm.symm.subset this
        simpa using h2
      obtain ⟨x2, hx2, hm2⟩ := vget_mem (vs := vs) (k := x.1) (List.mem_map.2 ⟨x, hx, rfl⟩)
      have hp2 := vget_perm hn hx2
      have hxx : x = (x.1, x2) := by
        rcases List.mem_cons.1 (hp2.subset hx) with h | h
        · exact h
        · have := (List.mem_filter.1 h).2
          simp at this
      have h3 := hdone x.1 hxk x2 hx2
      rw [hxx] at hw
      exact absurd hw (by rw [h3]; simp)
    refine endQ.oneW Tryz.results158 ⟨by rw [hfin], rfl⟩ (fun w h => emO_close E (rm, vs) hr ?_)
    have h2 : sat B (mapB rm (vmap Sl.val vs) bs ck :: cells true m 0 [.int .i64 E.blocks, .map (some rm), .int .i64 E.last] :: bigS (fun q : Int × Sl Ver => ownS q.2) vs :: F) w := goes w h
    exact goes w (mapO_of h2)
  · obtain ⟨x, hx, rfl⟩ : ∃ x, vget vs k = some x ∧ y = x.val := by
      have := hg.h
      rw [mget_vmap] at this
      cases hv : vget vs k with
      | none => rw [hv] at this; cases this
      | some x => rw [hv] at this; exact ⟨x, rfl, (Option.some.inj this).symm⟩
    have hxm : (k, x) ∈ vs := by
      have hp2 := vget_perm hn hx
      exact hp2.symm.subset (List.mem_cons_self ..)
    have hxl := hve _ hxm
    dsimp only at hxl
    have hc := hcond k x hx
    have hlx : x.xs.length - 1 < x.xs.length := by omega
    rw [List.getElem?_eq_getElem hlx] at hc
    dsimp only [Option.map_some, Option.getD_some] at hc
    have hix : ((x.xs.length : Int) - 1).toNat = x.xs.length - 1 := by omega
    refine SyO_conv (take_some hn hx) ?_
    have hE : wrote first len after (k, x.xs.map Ver.v) = true → E.written first len after = true := fun h => by
      rw [hyes, List.any_eq_true]
      exact ⟨_, by rw [← hr]; exact List.mem_map.2 ⟨_, hxm, rfl⟩, h⟩
    repeat' first | refine adv ?_ | refine Side.go ?_ | refine Giv.mk fun _ => ?_ | refine All.mk fun q => ?_ | refine Fork.mk ?_ ?_ | (refine Two.mk (fun h => ?_) (fun h => ?_) <;> try first | contradiction | (exfalso; omega))
    · simp only [hix] at h
      rw [hE (hc.2 ⟨by omega, by omega, h⟩)]
      refine endQ.oneW Tryz.results158 ⟨rfl, rfl⟩ (fun w h => emO_close E (rm, vs) hr ?_)
      have h2 : sat B (ownS x :: bigS (fun q : Int × Sl Ver => ownS q.2) (vdel vs k) :: mapB rm (vmap Sl.val vs) bs ck :: cells true m 0 [.int .i64 E.blocks, .map (some rm), .int .i64 E.last] :: F) w := goes w h
      have h3 := untake hn hx h2
      have h4 : sat B (mapB rm (vmap Sl.val vs) bs ck :: cells true m 0 [.int .i64 E.blocks, .map (some rm), .int .i64 E.last] :: bigS (fun q : Int × Sl Ver => ownS q.2) vs :: F) w := goes w h3
      exact goes w (mapO_of h4)
    · simp only [hix] at h
      refine loopQ.next ⟨(done ++ [k], rest'), ?_⟩ (by have := hp.length_eq; simp only [List.length_cons] at this ⊢; omega) (evs rfl (evs rfl (evs rfl .nil))) (fun w h => ?_)
      · intro k2 hk2 x2 hx2
        rcases List.mem_append.1 hk2 with h5 | h5
        · exact hdone k2 h5 x2 hx2
        · have : k2 = k := by simpa using h5
          subst this
          rw [hx] at hx2
          obtain rfl := Option.some.inj hx2
          cases hw : wrote first len after (k2, x.xs.map Ver.v) with
          | false => rfl
          | true => have := hc.1 hw; exfalso; omega
      · have h2 : sat B (ownS x :: bigS (fun q : Int × Sl Ver => ownS q.2) (vdel vs k) :: iterO it rm ((vmap Sl.val vs).map (·.1)) bs ck (done ++ [k]) rest' :: mapB rm (vmap Sl.val vs) bs ck :: cells true x4 0 [.int .i64 first, .int .i64 len] :: cells true m 0 [.int .i64 E.blocks, .map (some rm), .int .i64 E.last] :: F) w := goes w h
        exact goes w (untake hn hx h2)
    all_goals
      refine loopQ.next ⟨(done ++ [k], rest'), ?_⟩ (by have := hp.length_eq; simp only [List.length_cons] at this ⊢; omega) (evs rfl (evs rfl (evs rfl .nil))) (fun w h => ?_)
      · intro k2 hk2 x2 hx2
        rcases List.mem_append.1 hk2 with h5 | h5
        · exact hdone k2 h5 x2 hx2
        · have : k2 = k := by simpa using h5
          subst this
          rw [hx] at hx2
          obtain rfl := Option.some.inj hx2
          cases hw : wrote first len after (k2, x.xs.map Ver.v) with
          | false => rfl
          | true => have := hc.1 hw; exfalso; omega
      · have h2 : sat B (ownS x :: bigS (fun q : Int × Sl Ver => ownS q.2) (vdel vs k) :: iterO it rm ((vmap Sl.val vs).map (·.1)) bs ck (done ++ [k]) rest' :: mapB rm (vmap Sl.val vs) bs ck :: cells true x4 0 [.int .i64 first, .int .i64 len] :: cells true m 0 [.int .i64 E.blocks, .map (some rm), .int .i64 E.last] :: F) w := goes w h
        exact goes w (untake hn hx h2)
end Go.SL
namespace Go.SL
open Go.Proofs
set_option synthInstance.maxSize 4000
set_option synthInstance.maxHeartbeats 400000
set_option maxRecDepth 4000
set_option maxHeartbeats 2000000

/-- The book of those that are open: handles, and since when. -/
structure Bk where
  most : Nat
  last : Nat
  ts : List (Int × Int)
@[reducible] def vI (n : Int) : Value := .int .i64 n
@[reducible] def bkL (b : Nat) (K : Bk) (rt : Nat) : List HProp := [cells true b 0 [.int .i64 K.most, .int .i64 K.last, .map (some rt)], mapO rt (vmap vI K.ts)]
def bkO (b : Nat) (K : Bk) : HProp := ex fun rt : Nat => star (bkL b K rt)
theorem bkO_open {B : World} {L : List HProp} {b : Nat} {K : Bk} {w : World} (h : sat B (bkO b K :: L) w) : ∃ rt : Nat, sat B (bkL b K rt ++ L) w := by
  obtain ⟨r, hr⟩ := sat_ex.1 h
  exact ⟨r, sat_star.1 hr⟩
theorem bkO_close {B : World} {L : List HProp} {b : Nat} {w : World} (K : Bk) (rt : Nat)
    (h : sat B (cells true b 0 [.int .i64 K.most, .int .i64 K.last, .map (some rt)] :: mapO rt (vmap vI K.ts) :: L) w) : sat B (bkO b K :: L) w :=
  sat_ex.2 ⟨rt, sat_star.2 h⟩

/-- Nothing lies at a key. -/
class MN (es : List (Int × Value)) (k : Int) : Prop where h : mget es k = none
instance (priority := high) rexec_lookup2_g (P : Program) (env : Env) (ty : TypeId) (L : List HProp) (mt kt e : TypeId) (x y : Operand) (r : Nat) (k : Int) (z o : Value) (es : List (Int × Value)) [ex : EvO env x (.map (some r))] [ey : EvO env y (.int .i64 k)] [u : TUnd P mt (.map kt e)] [uk : TUnd P kt (.int .i64)] [hz : TZero P e z]
    [m : MapAt L r es] [g : MG es k o] : RExec P (.lookup mt x y true) ty env L (.tuple #[o, .bool true]) L := ⟨fun dst pos after guard B w hs => ⟨by
      obtain ⟨L', hs'⟩ := m.h B w hs
      simp [execOp, ex.h, ey.h, lookup_run u.h uk.h hz.h hs' k true, g.h], hs⟩⟩
instance (priority := high) rexec_lookup2_n (P : Program) (env : Env) (ty : TypeId) (L : List HProp) (mt kt e : TypeId) (x y : Operand) (r : Nat) (k : Int) (z : Value) (es : List (Int × Value)) [ex : EvO env x (.map (some r))] [ey : EvO env y (.int .i64 k)] [u : TUnd P mt (.map kt e)] [uk : TUnd P kt (.int .i64)] [hz : TZero P e z]
    [m : MapAt L r es] [g : MN es k] : RExec P (.lookup mt x y true) ty env L (.tuple #[z, .bool false]) L := ⟨fun dst pos after guard B w hs => ⟨by
      obtain ⟨L', hs'⟩ := m.h B w hs
      simp [execOp, ex.h, ey.h, lookup_run u.h uk.h hz.h hs' k true, g.h], hs⟩⟩
theorem mg_vmap {α : Type} {f : α → Value} {vs : List (Int × α)} {k : Int} {x : α} (h : vget vs k = some x) : MG (vmap f vs) k (f x) := ⟨by rw [mget_vmap, h]; rfl⟩
theorem mn_vmap {α : Type} {f : α → Value} {vs : List (Int × α)} {k : Int} (h : vget vs k = none) : MN (vmap f vs) k := ⟨by rw [mget_vmap, h]; rfl⟩
def verase {α : Type} (vs : List (Int × α)) (k : Int) : List (Int × α) := vs.eraseP fun e => e.1 == k
theorem mdel_vmap {α : Type} (f : α → Value) (vs : List (Int × α)) (k : Int) : mdel (vmap f vs) k = vmap f (verase vs k) := by
  unfold mdel verase vmap
  induction vs with
  | nil => rfl
  | cons p vs ih =>
    rw [List.map_cons, List.eraseP_cons, List.eraseP_cons]
    dsimp only
    cases p.1 == k
    · simp only [cond_false, List.map_cons, ih]
    · rfl

theorem hz_new (n : Nat) : Spec Tryz.prog 86 #[.int .i64 n] [] (fun v L => ∃ b, v = .pointer (some ⟨b, 0, none⟩) ∧ L = [bkO b ⟨n, 0, []⟩]) := by
  refine enter1 Tryz.func86 rfl (by decide) (by decide) ?_
  intro B F
  dsimp only [lcA, lnA]
  repeat' first | refine adv ?_ | refine Side.go ?_ | refine Giv.mk fun _ => ?_ | refine All.mk fun q => ?_ | refine Fork.mk ?_ ?_ | (refine Two.mk (fun h => ?_) (fun h => ?_) <;> try first | contradiction | (exfalso; omega))
  rename_i rt
  refine endQ.oneW Tryz.results86 ⟨q, rfl, rfl⟩ (fun w h => bkO_close ⟨n, 0, []⟩ rt ?_)
  exact goes w (show sat B (cells true q 0 [.int .i64 n, .int .i64 0, .map (some rt)] :: mapO rt (vmap vI []) :: F) w from h)

theorem hz_room (b : Nat) (n : Nat) (x y : Value) : Spec Tryz.prog 132 #[.pointer (some ⟨b, 0, none⟩)] [cells true b 0 [.int .i64 n, x, y]] (fun v L => v = .int .i64 n ∧ L = [cells true b 0 [.int .i64 n, x, y]]) := by
  refine enter1 Tryz.func132 rfl (by decide) (by decide) ?_
  intro B F
  dsimp only [lcA, lnA]
  repeat' first | refine adv ?_ | refine Side.go ?_ | refine Giv.mk fun _ => ?_ | refine All.mk fun q => ?_ | refine Fork.mk ?_ ?_ | (refine Two.mk (fun h => ?_) (fun h => ?_) <;> try first | contradiction | (exfalso; omega))
  exact endQ.oneW Tryz.results132 ⟨rfl, rfl⟩ (fun w h => goes w h)

theorem hz_list (b : Nat) (K : Bk) (hi : ∀ e ∈ K.ts, I64 e.1) (hl : K.ts.length ≤ 1000000) : Spec Tryz.prog 146 #[.pointer (some ⟨b, 0, none⟩)] [bkO b K] (fun v L => ∃ a c, v = .slice a K.ts.length c ∧ L = [bkO b K, ownS (⟨a, c, sortI (K.ts.map (·.1))⟩ : Sl Int)]) := by
  refine enter1 Tryz.func146 rfl (by decide) (by decide) ?_
  intro B F
  dsimp only [lcA, lnA]
  refine Sy_all (fun w h => bkO_open h) (fun rt => ?_)
  dsimp only [bkL, List.cons_append, List.nil_append]
  repeat' first | refine adv ?_ | refine Side.go ?_ | refine Giv.mk fun _ => ?_ | refine All.mk fun q => ?_ | refine Fork.mk ?_ ?_ | (refine Two.mk (fun h => ?_) (fun h => ?_) <;> try first | contradiction | (exfalso; omega))
  refine CallG.use (maps_keys_int rt) ?_
  rintro r M ⟨p, rfl, rfl⟩
  dsimp only [lcA, lnA]
  repeat' first | refine adv ?_ | refine Side.go ?_ | refine Giv.mk fun _ => ?_ | refine All.mk fun q => ?_ | refine Fork.mk ?_ ?_ | (refine Two.mk (fun h => ?_) (fun h => ?_) <;> try first | contradiction | (exfalso; omega))
  have hlen : (vmap vI K.ts).length = K.ts.length := by simp [vmap]
  refine CallG.use (sorted_int p rt (vmap vI K.ts) (by intro e he; obtain ⟨x, hx, rfl⟩ := List.mem_map.1 he; exact hi x hx) (by omega)) ?_
  rintro r M ⟨a, c, rfl, rfl⟩
  dsimp only [lcA, lnA]
  rw [vmap_keys, hlen]
  repeat' first | refine adv ?_ | refine Side.go ?_ | refine Giv.mk fun _ => ?_ | refine All.mk fun q => ?_ | refine Fork.mk ?_ ?_ | (refine Two.mk (fun h => ?_) (fun h => ?_) <;> try first | contradiction | (exfalso; omega))
  refine endQ.oneW Tryz.results146 ⟨a, c, rfl, rfl⟩ (fun w h => bkO_close K rt ?_)
  exact goes w h

theorem hz_count (b : Nat) (K : Bk) (hi : ∀ e ∈ K.ts, I64 e.1) (hl : K.ts.length ≤ 1000000) : Spec Tryz.prog 115 #[.pointer (some ⟨b, 0, none⟩)] [bkO b K] (fun v L => v = .int .i64 K.ts.length ∧ L = [bkO b K]) := by
  refine enter1 Tryz.func115 rfl (by decide) (by decide) ?_
  intro B F
  dsimp only [lcA, lnA]
  repeat' first | refine adv ?_ | refine Side.go ?_ | refine Giv.mk fun _ => ?_ | refine All.mk fun q => ?_ | refine Fork.mk ?_ ?_ | (refine Two.mk (fun h => ?_) (fun h => ?_) <;> try first | contradiction | (exfalso; omega))
  refine CallG.use (hz_list b K hi hl) ?_
  rintro r M ⟨a, c, rfl, rfl⟩
  dsimp only [lcA, lnA]
  repeat' first | refine adv ?_ | refine Side.go ?_ | refine Giv.mk fun _ => ?_ | refine All.mk fun q => ?_ | refine Fork.mk ?_ ?_ | (refine Two.mk (fun h => ?_) (fun h => ?_) <;> try first | contradiction | (exfalso; omega))
  exact endQ.oneW Tryz.results115 ⟨rfl, rfl⟩ (fun w h => goes w h)

def Bk.open (K : Bk) (at_ : Int) : Int × Int × Bk :=
  if at_ < 0 ∨ 1099511627776 < at_ then (0, 1, K) else if K.most ≤ K.ts.length then (0, 6, K) else (((K.last + 1 : Nat) : Int), 0, { K with last := K.last + 1, ts := vset K.ts ((K.last + 1 : Nat) : Int) at_ })
theorem hz_open (b : Nat) (K : Bk) (at_ : Int) (hi : ∀ e ∈ K.ts, I64 e.1) (hl : K.ts.length ≤ 1000000) (hla : K.last ≤ 1000000000) :
    Spec Tryz.prog 91 #[.pointer (some ⟨b, 0, none⟩), .int .i64 at_] [bkO b K] (fun v L => v = .tuple #[.int .i64 (K.open at_).1, .int .i64 (K.open at_).2.1] ∧ L = [bkO b (K.open at_).2.2]) := by
  refine enter2 Tryz.func91 rfl (by decide) (by decide) ?_
  intro B F
  dsimp only [lcA, lnA]
  repeat' first | refine adv ?_ | refine Side.go ?_ | refine Giv.mk fun _ => ?_ | refine All.mk fun q => ?_ | refine Fork.mk ?_ ?_ | (refine Two.mk (fun h => ?_) (fun h => ?_) <;> try first | contradiction | (exfalso; omega))
  · have e : K.open at_ = (0, 1, K) := by rw [Bk.open, if_pos (by omega)]
    rw [e]
    exact endQ.twoW Tryz.results91 ⟨rfl, rfl⟩ (fun w h => goes w h)
  · have e : K.open at_ = (0, 1, K) := by rw [Bk.open, if_pos (by omega)]
    rw [e]
    exact endQ.twoW Tryz.results91 ⟨rfl, rfl⟩ (fun w h => goes w h)
  refine CallG.use (hz_count b K hi hl) ?_
  rintro r M ⟨rfl, rfl⟩
  dsimp only [lcA, lnA]
  refine SyO_all (fun w h => bkO_open h) (fun rt => ?_)
  dsimp only [bkL, List.cons_append, List.nil_append]
  repeat' first | refine adv ?_ | refine Side.go ?_ | refine Giv.mk fun _ => ?_ | refine All.mk fun q => ?_ | refine Fork.mk ?_ ?_ | (refine Two.mk (fun h => ?_) (fun h => ?_) <;> try first | contradiction | (exfalso; omega))
  refine CallG.use (hz_room b K.most (.int .i64 K.last) (.map (some rt))) ?_
  rintro r M ⟨rfl, rfl⟩
  dsimp only [lcA, lnA]
  repeat' first | refine adv ?_ | refine Side.go ?_ | refine Giv.mk fun _ => ?_ | refine All.mk fun q => ?_ | refine Fork.mk ?_ ?_ | (refine Two.mk (fun h => ?_) (fun h => ?_) <;> try first | contradiction | (exfalso; omega))
  · have e : K.open at_ = (0, 6, K) := by rw [Bk.open, if_neg (by omega), if_pos (by omega)]
    rw [e]
    exact endQ.twoW Tryz.results91 ⟨rfl, rfl⟩ (fun w h => bkO_close K rt (goes w h))
  · have e : K.open at_ = (((K.last + 1 : Nat) : Int), 0, { K with last := K.last + 1, ts := vset K.ts ((K.last + 1 : Nat) : Int) at_ }) := by rw [Bk.open, if_neg (by omega), if_neg (by omega)]
    rw [e]
    refine endQ.twoW Tryz.results91 ⟨rfl, rfl⟩ (fun w h => bkO_close _ rt ?_)
    dsimp only
    rw [← mset_vmap, show ((K.last + 1 : Nat) : Int) = (K.last : Int) + 1 from by omega]
    exact goes w h

theorem hz_at (b : Nat) (K : Bk) (h : Int) : Spec Tryz.prog 155 #[.pointer (some ⟨b, 0, none⟩), .int .i64 h] [bkO b K] (fun v L => v = (match vget K.ts h with | some t => .tuple #[.int .i64 t, .int .i64 0] | none => .tuple #[.int .i64 0, .int .i64 14]) ∧ L = [bkO b K]) := by
  refine enter2 Tryz.func155 rfl (by decide) (by decide) ?_
  intro B F
  dsimp only [lcA, lnA]
  refine Sy_all (fun w h => bkO_open h) (fun rt => ?_)
  dsimp only [bkL, List.cons_append, List.nil_append]
  cases hg : vget K.ts h with
  | none =>
    haveI := mn_vmap (f := vI) hg
    repeat' first | refine adv ?_ | refine Side.go ?_ | refine Giv.mk fun _ => ?_ | refine All.mk fun q => ?_ | refine Fork.mk ?_ ?_ | (refine Two.mk (fun h => ?_) (fun h => ?_) <;> try first | contradiction | (exfalso; omega))
    exact endQ.twoW Tryz.results155 ⟨rfl, rfl⟩ (fun w h => bkO_close K rt (goes w h))
  | some t =>
    haveI := mg_vmap (f := vI) hg
    repeat' first | refine adv ?_ | refine Side.go ?_ | refine Giv.mk fun _ => ?_ | refine All.mk fun q => ?_ | refine Fork.mk ?_ ?_ | (refine Two.mk (fun h => ?_) (fun h => ?_) <;> try first | contradiction | (exfalso; omega))
    exact endQ.twoW Tryz.results155 ⟨rfl, rfl⟩ (fun w h => bkO_close K rt (goes w h))

theorem hz_close (b : Nat) (K : Bk) (h : Int) : Spec Tryz.prog 138 #[.pointer (some ⟨b, 0, none⟩), .int .i64 h] [bkO b K] (fun v L => v = .int .i64 (match vget K.ts h with | some _ => 0 | none => 14) ∧ L = [bkO b { K with ts := verase K.ts h }]) := by
  refine enter2 Tryz.func138 rfl (by decide) (by decide) ?_
  intro B F
  dsimp only [lcA, lnA]
  repeat' first | refine adv ?_ | refine Side.go ?_ | refine Giv.mk fun _ => ?_ | refine All.mk fun q => ?_ | refine Fork.mk ?_ ?_ | (refine Two.mk (fun h => ?_) (fun h => ?_) <;> try first | contradiction | (exfalso; omega))
  refine CallG.use (hz_at b K h) ?_
  rintro r M ⟨rfl, rfl⟩
  dsimp only [lcA, lnA]
  cases hg : vget K.ts h with
  | none =>
    have e : verase K.ts h = K.ts := by
      unfold verase
      unfold vget at hg
      rw [Option.map_eq_none_iff, List.find?_eq_none] at hg
      exact List.eraseP_of_forall_not (fun a ha => hg a ha)
    rw [e]
    repeat' first | refine adv ?_ | refine Side.go ?_ | refine Giv.mk fun _ => ?_ | refine All.mk fun q => ?_ | refine Fork.mk ?_ ?_ | (refine Two.mk (fun h => ?_) (fun h => ?_) <;> try first | contradiction | (exfalso; omega))
    exact endQ.oneW Tryz.results138 ⟨rfl, rfl⟩ (fun w h => goes w h)
  | some t =>
    dsimp only
    refine SyO_all (fun w h => bkO_open h) (fun rt => ?_)
    dsimp only [bkL, List.cons_append, List.nil_append]
    repeat' first | refine adv ?_ | refine Side.go ?_ | refine Giv.mk fun _ => ?_ | refine All.mk fun q => ?_ | refine Fork.mk ?_ ?_ | (refine Two.mk (fun h => ?_) (fun h => ?_) <;> try first | contradiction | (exfalso; omega))
    refine endQ.oneW Tryz.results138 ⟨rfl, rfl⟩ (fun w h => bkO_close _ rt ?_)
    dsimp only
    rw [← mdel_vmap]
    exact goes w h
end Go.SL
namespace Go.SL
open Go.Proofs
set_option synthInstance.maxSize 4000
set_option synthInstance.maxHeartbeats 400000
set_option maxRecDepth 4000
set_option maxHeartbeats 2000000

/-- What a transaction writes. -/
structure Wb where
  blocks : Nat
  most : Nat
  vs : List (Int × List UInt8)
abbrev WbR := Nat × List (Int × Sl UInt8)
def vr (vs : List (Int × Sl UInt8)) : List (Int × List UInt8) := vs.map fun e => (e.1, e.2.xs)
@[reducible] def roF (q : Int × Sl UInt8) : HProp := roS q.2
@[reducible] def wbL (b : Nat) (W : Wb) (r : WbR) : List HProp := [cells true b 0 [.int .i64 W.blocks, .int .i64 W.most, .map (some r.1)], mapO r.1 (vmap Sl.val r.2), bigS roF r.2]
def wbO (b : Nat) (W : Wb) : HProp := ex fun r : WbR => star (says (vr r.2 = W.vs) :: wbL b W r)
theorem wbO_open {B : World} {L : List HProp} {b : Nat} {W : Wb} {w : World} (h : sat B (wbO b W :: L) w) : ∃ r : {r : WbR // vr r.2 = W.vs}, sat B (wbL b W r.1 ++ L) w := by
  obtain ⟨r, hr⟩ := sat_ex.1 h
  obtain ⟨e, h2⟩ := sat_says.1 (sat_star.1 hr)
  exact ⟨⟨r, e⟩, h2⟩
theorem wbO_close {B : World} {L : List HProp} {b : Nat} {w : World} (W : Wb) (rm : Nat) (vs : List (Int × Sl UInt8)) (e : vr vs = W.vs)
    (h : sat B (cells true b 0 [.int .i64 W.blocks, .int .i64 W.most, .map (some rm)] :: mapO rm (vmap Sl.val vs) :: bigS roF vs :: L) w) : sat B (wbO b W :: L) w :=
  sat_ex.2 ⟨(rm, vs), sat_star.2 (sat_says.2 ⟨e, h⟩)⟩
theorem vget_vr (vs : List (Int × Sl UInt8)) (k : Int) : vget (vr vs) k = (vget vs k).map fun s => s.xs := by
  unfold vget vr
  rw [List.find?_map]
  have e : ((fun e : Int × List UInt8 => e.1 == k) ∘ fun e : Int × Sl UInt8 => (e.1, e.2.xs)) = fun e => e.1 == k := rfl
  rw [e]
  cases vs.find? (fun e => e.1 == k) <;> rfl
theorem vset_vr (vs : List (Int × Sl UInt8)) (k : Int) (s : Sl UInt8) : vset (vr vs) k s.xs = vr (vset vs k s) := by
  unfold vset vr
  have e : (vs.map fun e => (e.1, e.2.xs)).any (fun e => e.1 == k) = vs.any (fun e => e.1 == k) := by rw [List.any_map]; rfl
  rw [e]
  split
  · rw [List.map_map, List.map_map]
    apply List.map_congr_left
    intro a _
    simp only [Function.comp]
    split <;> simp_all
  · simp

theorem wb_new (n m : Nat) (hn : 1 ≤ n ∧ n ≤ 1048576) : Spec Tryz.prog 92 #[.int .i64 n, .int .i64 m] [] (fun v L => ∃ b, v = .tuple #[.pointer (some ⟨b, 0, none⟩), .int .i64 0] ∧ L = [wbO b ⟨n, m, []⟩]) := by
  refine enter2 Tryz.func92 rfl (by decide) (by decide) ?_
  intro B F
  dsimp only [lcA, lnA]
  repeat' first | refine adv ?_ | refine Side.go ?_ | refine Giv.mk fun _ => ?_ | refine All.mk fun q => ?_ | refine Fork.mk ?_ ?_ | (refine Two.mk (fun h => ?_) (fun h => ?_) <;> try first | contradiction | (exfalso; omega))
  rename_i rm
  refine endQ.twoW Tryz.results92 ⟨q, rfl, rfl⟩ (fun w h => wbO_close ⟨n, m, []⟩ rm [] rfl ?_)
  have h1 : sat B (cells true q 0 [.int .i64 n, .int .i64 m, .map (some rm)] :: mapO rm (vmap Sl.val ([] : List (Int × Sl UInt8))) :: F) w := goes w (show sat B (cells true q 0 [.int .i64 n, .int .i64 m, .map (some rm)] :: mapO rm (vmap Sl.val ([] : List (Int × Sl UInt8))) :: F) w from h)
  exact (sat_true (A := bigS roF []) (bigS_nil roF) h1).perm (.trans (.swap _ _ _) (.cons _ (.swap _ _ _)))

theorem wb_w1 (x b : Nat) (n : Nat) (y z : Value) (lba : Int) (d : Sl UInt8) : Spec Tryz.prog 134 #[.agg #[.int .i64 lba, d.val], .pointer (some ⟨x, 0, none⟩)] [roS d, cells true x 0 [.pointer (some ⟨b, 0, none⟩)], cells true b 0 [.int .i64 n, y, z]]
    (fun v L => v = .bool (decide (lba < 0 ∨ (n : Int) ≤ lba)) ∧ L = [cells true x 0 [.pointer (some ⟨b, 0, none⟩)], cells true b 0 [.int .i64 n, y, z]]) := by
  refine enter2 Tryz.func134 rfl (by decide) (by decide) ?_
  intro B F
  dsimp only [lcA, lnA]
  repeat' first | refine adv ?_ | refine Side.go ?_ | refine Giv.mk fun _ => ?_ | refine All.mk fun q => ?_ | refine Fork.mk ?_ ?_ | (refine Two.mk (fun h => ?_) (fun h => ?_) <;> try first | contradiction | (exfalso; omega))
  · refine endQ.oneW Tryz.results134 ⟨?_, rfl⟩ (fun w h => goes w h)
    congr 1; exact (decide_eq_true (by omega)).symm
  · refine endQ.oneW Tryz.results134 ⟨?_, rfl⟩ (fun w h => goes w h)
    congr 1; exact decide_eq_decide.2 (by omega)
theorem wb_w2 (lba : Int) (d : Sl UInt8) : Spec Tryz.prog 135 #[.agg #[.int .i64 lba, d.val]] [roS d] (fun v L => v = .bool (decide (d.xs.length ≠ 40)) ∧ L = []) := by
  refine enter1 Tryz.func135 rfl (by decide) (by decide) ?_
  intro B F
  dsimp only [lcA, lnA]
  repeat' first | refine adv ?_ | refine Side.go ?_ | refine Giv.mk fun _ => ?_ | refine All.mk fun q => ?_ | refine Fork.mk ?_ ?_ | (refine Two.mk (fun h => ?_) (fun h => ?_) <;> try first | contradiction | (exfalso; omega))
  refine endQ.one Tryz.results135 ⟨?_, rfl⟩
  congr 1
  rw [← decide_not]; exact decide_eq_decide.2 (by omega)

theorem md_vI (vs : List (Int × Int)) (k : Int) : MD (vmap vI vs) k (.int .i64 0) (.int .i64 ((vget vs k).getD 0)) := ⟨by rw [mget_vmap]; cases vget vs k <;> rfl⟩
theorem vget_vset {α : Type} (vs : List (Int × α)) (k : Int) (x : α) : vget (vset vs k x) k = some x := by
  unfold vset
  split
  · rename_i hany
    unfold vget
    rw [List.find?_map]
    induction vs with
    | nil => cases hany
    | cons p vs ih =>
      rw [List.find?_cons]
      by_cases hp : p.1 = k
      · simp [Function.comp, hp]
      · have hb : (p.1 == k) = false := by simpa using hp
        simp only [Function.comp, if_neg hp, hb]
        rw [List.any_cons, hb, Bool.false_or] at hany
        exact ih hany
  · rename_i hany
    unfold vget
    rw [List.find?_append]
    have : vs.find? (fun e => e.1 == k) = none := by
      rw [List.find?_eq_none]
      intro e he hek
      exact hany (List.any_eq_true.2 ⟨e, he, hek⟩)
    rw [this]; simp
theorem find_map_ne {α : Type} (k j : Int) (x : α) (h : j ≠ k) : ∀ vs : List (Int × α), (vs.map fun e => if e.1 = k then (k, x) else e).find? (fun e => e.1 == j) = vs.find? (fun e => e.1 == j)
  | [] => rfl
  | p :: vs => by
    rw [List.map_cons, List.find?_cons, List.find?_cons, find_map_ne k j x h vs]
    by_cases hp : p.1 = k
    · have h1 : (k == j) = false := by simpa using fun e => h e.symm
      have h2 : (p.1 == j) = false := by rw [hp]; exact h1
      rw [if_pos hp, h2]
      simp only [h1]
    · rw [if_neg hp]
theorem vget_vset_ne {α : Type} (vs : List (Int × α)) {k j : Int} (x : α) (h : j ≠ k) : vget (vset vs k x) j = vget vs j := by
  unfold vset
  split
  · unfold vget
    rw [find_map_ne k j x h]
  · unfold vget
    rw [List.find?_append]
    have h1 : (k == j) = false := by simpa using fun e => h e.symm
    cases vs.find? (fun e => e.1 == j) <;> simp [h1]

instance (priority := high) mg_mset (es : List (Int × Value)) (k : Int) (v : Value) : MG (mset es k v) k v := ⟨vget_vset es k v⟩
theorem wb_twice (s : Sl PutR) (hi : ∀ x ∈ s.xs, I64 x.lba) : Spec Tryz.prog 136 #[s.val] [roS s] (fun v L => v = .bool (decide (¬ (s.xs.map PutR.lba).Nodup)) ∧ L = []) := by
  refine enter1 Tryz.func136 rfl (by decide) (by decide) ?_
  intro B F
  dsimp only [lcA, lnA]
  refine Sy_know (fun B w h => ro_ok s B w h) (fun hs => ?_)
  have hsl := hs.len
  repeat' first | refine adv ?_ | refine Side.go ?_ | refine Giv.mk fun _ => ?_ | refine All.mk fun q => ?_ | refine Fork.mk ?_ ?_ | (refine Two.mk (fun h => ?_) (fun h => ?_) <;> try first | contradiction | (exfalso; omega))
  obtain ⟨mt, hmt⟩ : ∃ p, p = q := ⟨q, rfl⟩
  subst hmt
  refine Sy_loop (ι := {st : Nat × List (Int × Int) // st.1 ≤ s.xs.length ∧ ((s.xs.take st.1).map PutR.lba).Nodup ∧ ∀ k, vget st.2 k = if k ∈ (s.xs.take st.1).map PutR.lba then some 1 else none})
    (fun st => [(9, .int .i64 st.1.1), (8, .int .i64 s.xs.length), (7, s.val), (3, .map (some mt))]) (fun st => mapO mt (vmap vI st.1.2) :: roS s :: F) (fun st => s.xs.length - st.1.1)
    ⟨(0, []), Nat.zero_le _, by simp, fun k => by simp [vget]⟩ (evs rfl (evs rfl (evs rfl (evs rfl .nil)))) (fun w h => h) ?_
  rintro ⟨⟨k, vs⟩, hk, hnd, hmet⟩ env
  dsimp only [upds] at hk hnd hmet ⊢
  by_cases hk2 : k < s.xs.length
  · have hkl := hi s.xs[k] (List.getElem_mem hk2)
    haveI := md_vI vs s.xs[k].lba
    have htk : (s.xs.take (k + 1)).map PutR.lba = (s.xs.take k).map PutR.lba ++ [s.xs[k].lba] := by rw [List.take_succ_eq_append_getElem hk2, List.map_append]; rfl
    by_cases hin : s.xs[k].lba ∈ (s.xs.take k).map PutR.lba
    · rw [hmet, if_pos hin] at this
      dsimp only [Option.getD_some] at this
      repeat' first | refine adv ?_ | refine Side.go ?_ | refine Giv.mk fun _ => ?_ | refine All.mk fun q => ?_ | refine Fork.mk ?_ ?_ | (refine Two.mk (fun h => ?_) (fun h => ?_) <;> try first | contradiction | (exfalso; omega))
      refine endQ.oneW Tryz.results136 ⟨?_, rfl⟩ (fun w h => goes w h)
      congr 1
      refine (decide_eq_true ?_).symm
      intro hno
      have h2 : ((s.xs.take (k + 1)).map PutR.lba).Nodup := hno.sublist ((List.take_sublist _ _).map _)
      rw [htk, List.nodup_append] at h2
      exact h2.2.2 _ hin _ (List.mem_singleton.2 rfl) rfl
    · rw [hmet, if_neg hin] at this
      dsimp only [Option.getD_none] at this
      repeat' first | refine adv ?_ | refine Side.go ?_ | refine Giv.mk fun _ => ?_ | refine All.mk fun q => ?_ | refine Fork.mk ?_ ?_ | (refine Two.mk (fun h => ?_) (fun h => ?_) <;> try first | contradiction | (exfalso; omega))
      · refine loopQ.next ⟨(k + 1, vset vs s.xs[k].lba 1), by dsimp only; omega, ?_, ?_⟩ (by simp only []; omega) (evs rfl (evs rfl (evs rfl (evs rfl .nil)))) (fun w h => ?_)
        · dsimp only
          rw [htk, List.nodup_append]
          exact ⟨hnd, by simp, fun a ha b hb e => hin (by rw [List.mem_singleton.1 hb] at e; rw [← e]; exact ha)⟩
        · intro j
          dsimp only
          rw [htk]
          by_cases hj : j = s.xs[k].lba
          · subst hj
            rw [vget_vset, if_pos (by simp)]
          · rw [vget_vset_ne _ _ hj, hmet]
            by_cases hjm : j ∈ (s.xs.take k).map PutR.lba
            · rw [if_pos hjm, if_pos (List.mem_append_left _ hjm)]
            · rw [if_neg hjm, if_neg (fun h => (List.mem_append.1 h).elim hjm (fun h => hj (List.mem_singleton.1 h)))]
        · dsimp only
          rw [← mset_vmap]
          have h2 : sat B (cells true q 0 [.int .i64 s.xs[k].lba, s.xs[k].d.val] :: mapO mt (mset (vmap vI vs) s.xs[k].lba (vI 1)) :: roS s :: F) w := h
          exact goes w h2
      all_goals exact absurd (by decide : (0 : Int) + 1 = 1) (by assumption)
  · have hk3 : k = s.xs.length := by omega
    subst hk3
    rw [List.take_length] at hnd
    repeat' first | refine adv ?_ | refine Side.go ?_ | refine Giv.mk fun _ => ?_ | refine All.mk fun q => ?_ | refine Fork.mk ?_ ?_ | (refine Two.mk (fun h => ?_) (fun h => ?_) <;> try first | contradiction | (exfalso; omega))
    refine endQ.oneW Tryz.results136 ⟨?_, rfl⟩ (fun w h => goes w h)
    congr 1
    exact (decide_eq_false (fun h => h hnd)).symm
end Go.SL
namespace Go.SL
open Go.Proofs
set_option synthInstance.maxSize 4000
set_option synthInstance.maxHeartbeats 400000
set_option maxRecDepth 4000
set_option maxHeartbeats 2000000

def Wb.put (W : Wb) (ps : List PV) : Wb := { W with vs := ps.foldl (fun vs p => vset vs p.1 p.2) W.vs }
def Wb.write (W : Wb) (ps : List PV) : Int × Wb :=
  if ps.length = 0 then (1, W)
  else if ps.any (fun p => decide (p.1 < 0 ∨ (W.blocks : Int) ≤ p.1)) = true then (2, W)
  else if ps.any (fun p => decide (p.2.length ≠ 40)) = true then (3, W)
  else if ¬ (ps.map (·.1)).Nodup then (4, W)
  else if W.most < W.vs.length + (ps.filter fun p => (vget W.vs p.1).isNone).length then (7, W)
  else (0, W.put ps)

theorem put_ro {B : World} {L : List HProp} {w : World} (vs : List (Int × Sl UInt8)) (k : Int) (s : Sl UInt8) (hn : (vs.map (·.1)).Nodup) (h : sat B (roS s :: bigS roF vs :: L) w) : sat B (bigS roF (vset vs k s) :: L) w := by
  refine bigS_perm (vset_perm hn s) (sat_bigS_cons.2 (show sat B (roF (k, s) :: bigS roF (vdel vs k) :: L) w from ?_))
  cases hg : vget vs k with
  | none => rw [vdel_none hg]; exact h
  | some o =>
    have h1 := sat_bigS_cons.1 (bigS_perm (vget_perm hn hg) (h.perm (.swap _ _ _)))
    exact h1.tail.perm (.swap _ _ _)

theorem wb_write (b : Nat) (W : Wb) (ps : Sl PutR) (hi : ∀ x ∈ ps.xs, I64 x.lba) (hW : W.vs.length ≤ 1000000) :
    Spec Tryz.prog 97 #[.pointer (some ⟨b, 0, none⟩), ps.val] [wbO b W, roS ps] (fun v L => v = .int .i64 (W.write (ps.xs.map PutR.v)).1 ∧ L = [wbO b (W.write (ps.xs.map PutR.v)).2]) := by
  refine enter2 Tryz.func97 rfl (by decide) (by decide) ?_
  intro B F
  dsimp only [lcA, lnA]
  refine Sy_know (fun B w h => ro_ok ps B w h) (fun hps => ?_)
  have hpsl := hps.len
  refine Sy_all (fun w h => wbO_open h) (fun r => ?_)
  obtain ⟨⟨rm, vs⟩, hr⟩ := r
  dsimp only [wbL, List.cons_append, List.nil_append] at hr ⊢
  have hml : (ps.xs.map PutR.v).length = ps.xs.length := List.length_map _
  have hkeys : (ps.xs.map PutR.v).map (·.1) = ps.xs.map PutR.lba := by rw [List.map_map]; rfl
  repeat' first | refine adv ?_ | refine Side.go ?_ | refine Giv.mk fun _ => ?_ | refine All.mk fun q => ?_ | refine Fork.mk ?_ ?_ | (refine Two.mk (fun h => ?_) (fun h => ?_) <;> try first | contradiction | (exfalso; omega))
  · have e : W.write (ps.xs.map PutR.v) = (1, W) := by rw [Wb.write, if_pos (by omega)]
    rw [e]
    exact endQ.oneW Tryz.results97 ⟨rfl, rfl⟩ (fun w h => wbO_close W rm vs hr (goes w h))
  have h1 : ¬ (ps.xs.map PutR.v).length = 0 := by omega
  obtain ⟨x, hx⟩ : ∃ p, p = q := ⟨q, rfl⟩
  subst hx
  refine CallG.use (contains_put ps 134 [.pointer (some ⟨x, 0, none⟩)] [cells true x 0 [.pointer (some ⟨b, 0, none⟩)], cells true b 0 [.int .i64 W.blocks, .int .i64 W.most, .map (some rm)]] (fun p => decide (p.1 < 0 ∨ (W.blocks : Int) ≤ p.1)) (fun j hj => wb_w1 x b W.blocks _ _ ps.xs[j].lba ps.xs[j].d)) ?_
  rintro r M ⟨rfl, rfl⟩
  dsimp only [lcA, lnA]
  cases h2 : (ps.xs.map PutR.v).any (fun p => decide (p.1 < 0 ∨ (W.blocks : Int) ≤ p.1)) with
  | true =>
    repeat' first | refine adv ?_ | refine Side.go ?_ | refine Giv.mk fun _ => ?_ | refine All.mk fun q => ?_ | refine Fork.mk ?_ ?_ | (refine Two.mk (fun h => ?_) (fun h => ?_) <;> try first | contradiction | (exfalso; omega))
    have e : W.write (ps.xs.map PutR.v) = (2, W) := by rw [Wb.write, if_neg h1, if_pos h2]
    rw [e]
    exact endQ.oneW Tryz.results97 ⟨rfl, rfl⟩ (fun w h => wbO_close W rm vs hr (goes w h))
  | false =>
  have h2' : ¬ (ps.xs.map PutR.v).any (fun p => decide (p.1 < 0 ∨ (W.blocks : Int) ≤ p.1)) = true := by rw [h2]; simp
  repeat' first | refine adv ?_ | refine Side.go ?_ | refine Giv.mk fun _ => ?_ | refine All.mk fun q => ?_ | refine Fork.mk ?_ ?_ | (refine Two.mk (fun h => ?_) (fun h => ?_) <;> try first | contradiction | (exfalso; omega))
  refine CallG.use (contains_put ps 135 [] [] (fun p => decide (p.2.length ≠ 40)) (fun j hj => wb_w2 ps.xs[j].lba ps.xs[j].d)) ?_
  rintro r M ⟨rfl, rfl⟩
  dsimp only [lcA, lnA]
  cases h3 : (ps.xs.map PutR.v).any (fun p => decide (p.2.length ≠ 40)) with
  | true =>
    repeat' first | refine adv ?_ | refine Side.go ?_ | refine Giv.mk fun _ => ?_ | refine All.mk fun q => ?_ | refine Fork.mk ?_ ?_ | (refine Two.mk (fun h => ?_) (fun h => ?_) <;> try first | contradiction | (exfalso; omega))
    have e : W.write (ps.xs.map PutR.v) = (3, W) := by rw [Wb.write, if_neg h1, if_neg h2', if_pos h3]
    rw [e]
    exact endQ.oneW Tryz.results97 ⟨rfl, rfl⟩ (fun w h => wbO_close W rm vs hr (goes w h))
  | false =>
  have h3' : ¬ (ps.xs.map PutR.v).any (fun p => decide (p.2.length ≠ 40)) = true := by rw [h3]; simp
  repeat' first | refine adv ?_ | refine Side.go ?_ | refine Giv.mk fun _ => ?_ | refine All.mk fun q => ?_ | refine Fork.mk ?_ ?_ | (refine Two.mk (fun h => ?_) (fun h => ?_) <;> try first | contradiction | (exfalso; omega))
  refine CallG.use (wb_twice ps hi) ?_
  rintro r M ⟨rfl, rfl⟩
  dsimp only [lcA, lnA]
  by_cases h4 : (ps.xs.map PutR.lba).Nodup
  case neg =>
    rw [decide_eq_true h4]
    repeat' first | refine adv ?_ | refine Side.go ?_ | refine Giv.mk fun _ => ?_ | refine All.mk fun q => ?_ | refine Fork.mk ?_ ?_ | (refine Two.mk (fun h => ?_) (fun h => ?_) <;> try first | contradiction | (exfalso; omega))
    have e : W.write (ps.xs.map PutR.v) = (4, W) := by rw [Wb.write, if_neg h1, if_neg h2', if_neg h3', hkeys, if_pos h4]
    rw [e]
    exact endQ.oneW Tryz.results97 ⟨rfl, rfl⟩ (fun w h => wbO_close W rm vs hr (goes w h))
  rw [decide_eq_false (show ¬ ¬ (ps.xs.map PutR.lba).Nodup from fun h => h h4)]
  repeat' first | refine adv ?_ | refine Side.go ?_ | refine Giv.mk fun _ => ?_ | refine All.mk fun q => ?_ | refine Fork.mk ?_ ?_ | (refine Two.mk (fun h => ?_) (fun h => ?_) <;> try first | contradiction | (exfalso; omega))
  have hvl : (vmap Sl.val vs).length = W.vs.length := by rw [← hr]; simp [vmap, vr]
  rw [hvl]
  refine Sy_loop (ι := {st : Nat × Nat // (st.1 ≤ ps.xs.length ∧ st.2 ≤ W.vs.length + st.1) ∧ st.2 = W.vs.length + (((ps.xs.take st.1).map PutR.v).filter fun p => (vget W.vs p.1).isNone).length})
    (fun st => [(37, .int .i64 st.1.1), (36, .int .i64 ps.xs.length), (35, ps.val), (5, .int .i64 st.1.2), (1, ps.val), (2, .pointer (some ⟨x, 0, none⟩))])
    (fun st => cells true x 0 [.pointer (some ⟨b, 0, none⟩)] :: cells true b 0 [.int .i64 W.blocks, .int .i64 W.most, .map (some rm)] :: mapO rm (vmap Sl.val vs) :: bigS roF vs :: roS ps :: F)
    (fun st => ps.xs.length - st.1.1) ⟨(0, W.vs.length), ⟨Nat.zero_le _, Nat.le_refl _⟩, by simp⟩ (evs rfl (evs rfl (evs rfl (evs rfl (evs rfl (evs rfl .nil)))))) (fun w h => goes w h) ?_
  rintro ⟨⟨k, n⟩, ⟨hk, hn⟩, hcount⟩ env
  dsimp only [upds] at hk hn hcount ⊢
  by_cases hk2 : k < ps.xs.length
  · have htk : (ps.xs.take (k + 1)).map PutR.v = (ps.xs.take k).map PutR.v ++ [ps.xs[k].v] := by rw [List.take_succ_eq_append_getElem hk2, List.map_append]; rfl
    have hgr := vget_vr vs ps.xs[k].lba
    rw [hr] at hgr
    cases hg : vget vs ps.xs[k].lba with
    | none =>
      haveI := mn_vmap (f := Sl.val) hg
      rw [hg] at hgr
      repeat' first | refine adv ?_ | refine Side.go ?_ | refine Giv.mk fun _ => ?_ | refine All.mk fun q => ?_ | refine Fork.mk ?_ ?_ | (refine Two.mk (fun h => ?_) (fun h => ?_) <;> try first | contradiction | (exfalso; omega))
      refine loopQ.next ⟨(k + 1, n + 1), ⟨by dsimp only; omega, by dsimp only; omega⟩, ?_⟩ (by simp only []; omega) (evs rfl (evs rfl (evs rfl (evs rfl (evs rfl (evs rfl .nil)))))) (fun w h => goes w h)
      dsimp only
      rw [htk, List.filter_append, List.length_append, hcount]
      simp only [List.filter_cons, hgr, Option.map_none, Option.isNone_none, if_true, List.filter_nil, List.length_cons, List.length_nil]
      omega
    | some s =>
      haveI := mg_vmap (f := Sl.val) hg
      rw [hg] at hgr
      repeat' first | refine adv ?_ | refine Side.go ?_ | refine Giv.mk fun _ => ?_ | refine All.mk fun q => ?_ | refine Fork.mk ?_ ?_ | (refine Two.mk (fun h => ?_) (fun h => ?_) <;> try first | contradiction | (exfalso; omega))
      refine loopQ.next ⟨(k + 1, n), ⟨by dsimp only; omega, by dsimp only; omega⟩, ?_⟩ (by simp only []; omega) (evs rfl (evs rfl (evs rfl (evs rfl (evs rfl (evs rfl .nil)))))) (fun w h => goes w h)
      dsimp only
      rw [htk, List.filter_append, List.length_append, hcount]
      simp [hgr]
  have hk3 : k = ps.xs.length := by omega
  subst hk3
  rw [List.take_length] at hcount
  repeat' first | refine adv ?_ | refine Side.go ?_ | refine Giv.mk fun _ => ?_ | refine All.mk fun q => ?_ | refine Fork.mk ?_ ?_ | (refine Two.mk (fun h => ?_) (fun h => ?_) <;> try first | contradiction | (exfalso; omega))
  · have e : W.write (ps.xs.map PutR.v) = (7, W) := by rw [Wb.write, if_neg h1, if_neg h2', if_neg h3', hkeys, if_neg (fun h => h h4), if_pos (by omega)]
    rw [e]
    exact endQ.oneW Tryz.results97 ⟨rfl, rfl⟩ (fun w h => wbO_close W rm vs hr (goes w h))
  have e : W.write (ps.xs.map PutR.v) = (0, W.put (ps.xs.map PutR.v)) := by rw [Wb.write, if_neg h1, if_neg h2', if_neg h3', hkeys, if_neg (fun h => h h4), if_neg (by omega)]
  rw [e]
  refine Sy_loop (ι := {st : Nat × List (Int × Sl UInt8) // st.1 ≤ ps.xs.length ∧ vr st.2 = ((ps.xs.take st.1).map PutR.v).foldl (fun vs p => vset vs p.1 p.2) W.vs})
    (fun st => [(64, .int .i64 st.1.1), (63, .int .i64 ps.xs.length), (62, ps.val), (2, .pointer (some ⟨x, 0, none⟩))])
    (fun st => cells true x 0 [.pointer (some ⟨b, 0, none⟩)] :: cells true b 0 [.int .i64 W.blocks, .int .i64 W.most, .map (some rm)] :: mapO rm (vmap Sl.val st.1.2) :: bigS roF st.1.2 :: roS ps :: F)
    (fun st => ps.xs.length - st.1.1) ⟨(0, vs), Nat.zero_le _, hr⟩ (evs rfl (evs rfl (evs rfl (evs rfl .nil)))) (fun w h => goes w h) ?_
  rintro ⟨⟨k, ws⟩, hk, hfold⟩ env
  dsimp only [upds] at hk hfold ⊢
  refine Sy_know (fun B w h => map_nodup (r := rm) (es := vmap Sl.val ws) B w h) (fun hnd => ?_)
  rw [vmap_keys] at hnd
  by_cases hk2 : k < ps.xs.length
  · refine Sy_conv (pull_put ps hk2) ?_
    repeat' first | refine adv ?_ | refine Side.go ?_ | refine Giv.mk fun _ => ?_ | refine All.mk fun q => ?_ | refine Fork.mk ?_ ?_ | (refine Two.mk (fun h => ?_) (fun h => ?_) <;> try first | contradiction | (exfalso; omega))
    refine CallG.use (clone_bytes ps.xs[k].d) ?_
    rintro r M ⟨a, c, rfl, rfl⟩
    dsimp only [lcA, lnA]
    repeat' first | refine adv ?_ | refine Side.go ?_ | refine Giv.mk fun _ => ?_ | refine All.mk fun q => ?_ | refine Fork.mk ?_ ?_ | (refine Two.mk (fun h => ?_) (fun h => ?_) <;> try first | contradiction | (exfalso; omega))
    refine loopQ.next ⟨(k + 1, vset ws ps.xs[k].lba ⟨a, c, ps.xs[k].d.xs⟩), by dsimp only; omega, ?_⟩ (by simp only []; omega) (evs rfl (evs rfl (evs rfl (evs rfl .nil)))) (fun w h => ?_)
    · dsimp only
      rw [List.take_succ_eq_append_getElem hk2, List.map_append, List.foldl_append, ← hfold, ← vset_vr]
      rfl
    · dsimp only
      rw [← mset_vmap]
      have h5 : sat B (roS (⟨a, c, ps.xs[k].d.xs⟩ : Sl UInt8) :: bigS roF ws :: cells true x 0 [.pointer (some ⟨b, 0, none⟩)] :: cells true b 0 [.int .i64 W.blocks, .int .i64 W.most, .map (some rm)] :: mapO rm (mset (vmap Sl.val ws) ps.xs[k].lba (⟨a, c, ps.xs[k].d.xs⟩ : Sl UInt8).val) :: roS ps :: F) w := goes w h
      exact goes w (put_ro ws ps.xs[k].lba _ hnd h5)
  have hk3 : k = ps.xs.length := by omega
  subst hk3
  rw [List.take_length] at hfold
  repeat' first | refine adv ?_ | refine Side.go ?_ | refine Giv.mk fun _ => ?_ | refine All.mk fun q => ?_ | refine Fork.mk ?_ ?_ | (refine Two.mk (fun h => ?_) (fun h => ?_) <;> try first | contradiction | (exfalso; omega))
  refine endQ.oneW Tryz.results97 ⟨rfl, rfl⟩ (fun w h => wbO_close (W.put (ps.xs.map PutR.v)) rm ws hfold ?_)
  have h5 : sat B (cells true b 0 [.int .i64 W.blocks, .int .i64 W.most, .map (some rm)] :: mapO rm (vmap Sl.val ws) :: bigS roF ws :: F) w := goes w h
  exact h5
end Go.SL
namespace Go.SL
open Go.Proofs
set_option synthInstance.maxSize 4000
set_option synthInstance.maxHeartbeats 400000
set_option maxRecDepth 4000
set_option maxHeartbeats 2000000

def Wb.puts (W : Wb) : List PV := (sortI (W.vs.map (·.1))).map fun k => (k, (vget W.vs k).getD [])
theorem pull_roF {B : World} {L R : List HProp} {vs : List (Int × Sl UInt8)} {k : Int} {s : Sl UInt8} (hn : (vs.map (·.1)).Nodup) (hg : vget vs k = some s) [p : Pick (bigS roF vs) L R] : ∀ w, sat B L w → sat B (roS s :: L) w := fun w h => by
  have h1 := sat_bigS_cons.1 (bigS_perm (vget_perm hn hg) (h.perm p.perm))
  have h2 : sat B (roS s :: roS s :: bigS roF (vdel vs k) :: R) w := Shared.dup B _ w h1
  have h3 : sat B (roF (k, s) :: bigS roF (vdel vs k) :: roS s :: R) w := h2.perm (.cons _ (.swap _ _ _))
  have h4 := bigS_perm (vget_perm hn hg).symm (sat_bigS_cons.2 h3)
  exact (h4.perm (.swap _ _ _)).perm (.cons _ p.perm.symm)

theorem wb_puts (b : Nat) (W : Wb) (hk : ∀ e ∈ W.vs, I64 e.1) (hl : W.vs.length ≤ 1000000) :
    Spec Tryz.prog 137 #[.pointer (some ⟨b, 0, none⟩)] [wbO b W] (fun v L => ∃ t : Sl PutR, t.xs.map PutR.v = W.puts ∧ v = t.val ∧ L = [wbO b W, ownS t]) := by
  refine enter1 Tryz.func137 rfl (by decide) (by decide) ?_
  intro B F
  dsimp only [lcA, lnA]
  refine Sy_all (fun w h => wbO_open h) (fun r => ?_)
  obtain ⟨⟨rm, vs⟩, hr⟩ := r
  dsimp only [wbL, List.cons_append, List.nil_append] at hr ⊢
  have hvl : vs.length = W.vs.length := by rw [← hr]; simp [vr]
  have hvk : (vmap Sl.val vs).map (·.1) = W.vs.map (·.1) := by rw [vmap_keys, ← hr]; simp [vr, List.map_map, Function.comp_def]
  have hve : ∀ e ∈ vs, I64 e.1 := by
    intro e he
    exact hk (e.1, e.2.xs) (by rw [← hr]; exact List.mem_map.2 ⟨e, he, rfl⟩)
  refine Sy_know (fun B w h => map_nodup (r := rm) (es := vmap Sl.val vs) B w h) (fun hn => ?_)
  rw [vmap_keys] at hn
  repeat' first | refine adv ?_ | refine Side.go ?_ | refine Giv.mk fun _ => ?_ | refine All.mk fun q => ?_ | refine Fork.mk ?_ ?_ | (refine Two.mk (fun h => ?_) (fun h => ?_) <;> try first | contradiction | (exfalso; omega))
  refine CallG.use (maps_keys_bytes rm) ?_
  rintro r M ⟨p, rfl, rfl⟩
  dsimp only [lcA, lnA]
  repeat' first | refine adv ?_ | refine Side.go ?_ | refine Giv.mk fun _ => ?_ | refine All.mk fun q => ?_ | refine Fork.mk ?_ ?_ | (refine Two.mk (fun h => ?_) (fun h => ?_) <;> try first | contradiction | (exfalso; omega))
  refine CallG.use (sorted_bytes p rm (vmap Sl.val vs) (by intro e he; obtain ⟨x, hx, rfl⟩ := List.mem_map.1 he; exact hve x hx) (by simp [vmap]; omega)) ?_
  rintro r M ⟨a, c, rfl, rfl⟩
  dsimp only [lcA, lnA]
  rw [hvk]
  have hsl : (vmap Sl.val vs).length = (sortI (W.vs.map (·.1))).length := by rw [sortI_len, List.length_map, ← hvl]; simp [vmap]
  rw [hsl]
  have hsub : ∀ k ∈ sortI (W.vs.map (·.1)), k ∈ vs.map (·.1) := by
    intro k hk2
    have := sortI_mem.1 hk2
    rwa [← hvk, vmap_keys] at this
  have hsn : (sortI (W.vs.map (·.1))).length ≤ 1000000 := by rw [sortI_len, List.length_map]; exact hl
  have hputs : W.puts = (sortI (W.vs.map (·.1))).map fun k => (k, (vget W.vs k).getD []) := rfl
  generalize sortI (W.vs.map (·.1)) = ks at hsub hsn hputs ⊢
  repeat' first | refine adv ?_ | refine Side.go ?_ | refine Giv.mk fun _ => ?_ | refine All.mk fun q => ?_ | refine Fork.mk ?_ ?_ | (refine Two.mk (fun h => ?_) (fun h => ?_) <;> try first | contradiction | (exfalso; omega))
  refine Sy_loop (ι := {st : Nat × Sl PutR // (st.1 ≤ ks.length ∧ st.2.xs.length = st.1) ∧ st.2.xs.map PutR.v = (ks.take st.1).map fun k => (k, (vget W.vs k).getD [])})
    (fun st => [(14, .int .i64 st.1.1), (13, .int .i64 ks.length), (12, .slice a ks.length c), (2, st.1.2.val), (0, .pointer (some ⟨b, 0, none⟩))])
    (fun st => ownS st.1.2 :: mapO rm (vmap Sl.val vs) :: ownS (⟨a, c, ks⟩ : Sl Int) :: cells true b 0 [.int .i64 W.blocks, .int .i64 W.most, .map (some rm)] :: bigS roF vs :: F)
    (fun st => ks.length - st.1.1) ⟨(0, ⟨none, 0, []⟩), ⟨Nat.zero_le _, rfl⟩, rfl⟩ (evs rfl (evs rfl (evs rfl (evs rfl (evs rfl .nil))))) (fun w h => goes w (sat_true (own_nil (α := PutR)) h)) ?_
  rintro ⟨⟨j, t⟩, ⟨hj, htl⟩, ht⟩ env
  dsimp only [upds] at hj htl ht ⊢
  by_cases hj2 : j < ks.length
  · obtain ⟨x, hx, hxm⟩ := vget_mem (hsub ks[j] (List.getElem_mem hj2))
    haveI := mg_vmap (f := Sl.val) hx
    have hgE : vget W.vs ks[j] = some x.xs := by rw [← hr]; exact (vget_vr vs ks[j]).trans (by rw [hx]; rfl)
    refine Sy_conv (pull_roF hn hx) ?_
    repeat' first | refine adv ?_ | refine Side.go ?_ | refine Giv.mk fun _ => ?_ | refine All.mk fun q => ?_ | refine Fork.mk ?_ ?_ | (refine Two.mk (fun h => ?_) (fun h => ?_) <;> try first | contradiction | (exfalso; omega))
    refine CallG.use (clone_bytes x) ?_
    rintro r M ⟨a2, c2, rfl, rfl⟩
    dsimp only [lcA, lnA]
    repeat' first | refine adv ?_ | refine Side.go ?_ | refine Giv.mk fun _ => ?_ | refine All.mk fun q => ?_ | refine Fork.mk ?_ ?_ | (refine Two.mk (fun h => ?_) (fun h => ?_) <;> try first | contradiction | (exfalso; omega))
    refine AppG.oneP t ⟨ks[j], ⟨a2, c2, x.xs⟩⟩ (by omega) (fun a3 c3 => ?_)
    repeat' first | refine adv ?_ | refine Side.go ?_ | refine Giv.mk fun _ => ?_ | refine All.mk fun q => ?_ | refine Fork.mk ?_ ?_ | (refine Two.mk (fun h => ?_) (fun h => ?_) <;> try first | contradiction | (exfalso; omega))
    refine loopQ.next ⟨(j + 1, ⟨a3, c3, t.xs ++ [⟨ks[j], ⟨a2, c2, x.xs⟩⟩]⟩), ⟨by dsimp only; omega, by simp; omega⟩, ?_⟩ (by simp only []; omega) (evs rfl (evs rfl (evs rfl (evs rfl (evs rfl .nil))))) (fun w h => goes w h)
    dsimp only
    rw [List.map_append, ht, List.take_succ_eq_append_getElem hj2, List.map_append, List.map_cons, List.map_nil, List.map_cons, List.map_nil, hgE]
    rfl
  · have hj3 : j = ks.length := by omega
    subst hj3
    rw [List.take_length] at ht
    repeat' first | refine adv ?_ | refine Side.go ?_ | refine Giv.mk fun _ => ?_ | refine All.mk fun q => ?_ | refine Fork.mk ?_ ?_ | (refine Two.mk (fun h => ?_) (fun h => ?_) <;> try first | contradiction | (exfalso; omega))
    refine endQ.oneW Tryz.results137 ⟨t, by rw [ht, hputs], rfl, rfl⟩ (fun w h => wbO_close W rm vs hr ?_)
    exact goes w h

theorem wb_len (b : Nat) (W : Wb) (hk : ∀ e ∈ W.vs, I64 e.1) (hl : W.vs.length ≤ 1000000) : Spec Tryz.prog 98 #[.pointer (some ⟨b, 0, none⟩)] [wbO b W] (fun v L => v = .int .i64 W.vs.length ∧ L = [wbO b W]) := by
  refine enter1 Tryz.func98 rfl (by decide) (by decide) ?_
  intro B F
  dsimp only [lcA, lnA]
  repeat' first | refine adv ?_ | refine Side.go ?_ | refine Giv.mk fun _ => ?_ | refine All.mk fun q => ?_ | refine Fork.mk ?_ ?_ | (refine Two.mk (fun h => ?_) (fun h => ?_) <;> try first | contradiction | (exfalso; omega))
  refine CallG.use (wb_puts b W hk hl) ?_
  rintro r M ⟨t, ht, rfl, rfl⟩
  dsimp only [lcA, lnA]
  have htl : t.xs.length = W.vs.length := by
    have := congrArg List.length ht
    simpa [Wb.puts, sortI_len] using this
  repeat' first | refine adv ?_ | refine Side.go ?_ | refine Giv.mk fun _ => ?_ | refine All.mk fun q => ?_ | refine Fork.mk ?_ ?_ | (refine Two.mk (fun h => ?_) (fun h => ?_) <;> try first | contradiction | (exfalso; omega))
  exact endQ.oneW Tryz.results98 ⟨by rw [htl], rfl⟩ (fun w h => goes w h)
end Go.SL
namespace Go.SL
open Go.Proofs
set_option synthInstance.maxSize 4000
set_option synthInstance.maxHeartbeats 400000
set_option maxRecDepth 4000
set_option maxHeartbeats 2000000

structure ExR where
  f : Int
  n : Int
@[reducible] def ExR.vals (x : ExR) : List Value := [.int .i64 x.f, .int .i64 x.n]
instance rep_ex : Rep ExR := ⟨2, ExR.vals, fun _ => says True, fun _ => rfl, fun x v hv => by
  simp only [ExR.vals, List.mem_cons, List.not_mem_nil, or_false] at hv
  rcases hv with rfl | rfl <;> rfl, fun _ => inferInstance, by decide⟩
instance (priority := low) enc_ex' (x : ExR) : EncIs ExR x [.int .i64 x.f, .int .i64 x.n] := ⟨rfl⟩
instance k_ex : KIs ExR 2 := ⟨rfl⟩

theorem clone_ex (s : Sl ExR) (hb : s.xs.length ≤ 100000000) : Spec Tryz.prog 183 #[s.val] [roS s] (freshS s.xs) := by
  refine enter1 Tryz.func183 rfl (by decide) (by decide) ?_
  intro B F
  dsimp only [lcA, lnA]
  refine Sy_know (ro_ok s) (fun hs => ?_)
  have hsl := hs.len
  repeat' first | refine adv ?_ | refine Side.go ?_ | refine Giv.mk fun _ => ?_ | refine All.mk fun q => ?_ | refine Fork.mk ?_ ?_ | (refine Two.mk (fun h => ?_) (fun h => ?_) <;> try first | contradiction | (exfalso; omega))
  · have := sl_nil hs (by assumption)
    subst this
    exact endQ_conv (fun w h => sat_true (own_nil (α := ExR)) h) (endQ.one Tryz.results183 (freshS.mk (α := ExR) none 0))
  · refine AppG.first s (by omega) (fun a c => ?_)
    repeat' first | refine adv ?_ | refine Side.go ?_ | refine Giv.mk fun _ => ?_ | refine All.mk fun q => ?_ | refine Fork.mk ?_ ?_ | (refine Two.mk (fun h => ?_) (fun h => ?_) <;> try first | contradiction | (exfalso; omega))
    exact endQ.one Tryz.results183 (freshS.mk a c)
theorem clone_ints (s : Sl Int) (hb : s.xs.length ≤ 100000000) : Spec Tryz.prog 105 #[s.val] [roS s] (freshS s.xs) := by
  refine enter1 Tryz.func105 rfl (by decide) (by decide) ?_
  intro B F
  dsimp only [lcA, lnA]
  refine Sy_know (ro_ok s) (fun hs => ?_)
  have hsl := hs.len
  repeat' first | refine adv ?_ | refine Side.go ?_ | refine Giv.mk fun _ => ?_ | refine All.mk fun q => ?_ | refine Fork.mk ?_ ?_ | (refine Two.mk (fun h => ?_) (fun h => ?_) <;> try first | contradiction | (exfalso; omega))
  · have := sl_nil hs (by assumption)
    subst this
    exact endQ_conv (fun w h => sat_true (own_nil (α := Int)) h) (endQ.one Tryz.results105 (freshS.mk (α := Int) none 0))
  · refine AppG.first s (by omega) (fun a c => ?_)
    repeat' first | refine adv ?_ | refine Side.go ?_ | refine Giv.mk fun _ => ?_ | refine All.mk fun q => ?_ | refine Fork.mk ?_ ?_ | (refine Two.mk (fun h => ?_) (fun h => ?_) <;> try first | contradiction | (exfalso; omega))
    exact endQ.one Tryz.results105 (freshS.mk a c)
theorem clone_vers (s : Sl Ver) (hb : s.xs.length ≤ 100000000) : Spec Tryz.prog 148 #[s.val] [roS s] (freshS s.xs) := by
  refine enter1 Tryz.func148 rfl (by decide) (by decide) ?_
  intro B F
  dsimp only [lcA, lnA]
  refine Sy_know (ro_ok s) (fun hs => ?_)
  have hsl := hs.len
  repeat' first | refine adv ?_ | refine Side.go ?_ | refine Giv.mk fun _ => ?_ | refine All.mk fun q => ?_ | refine Fork.mk ?_ ?_ | (refine Two.mk (fun h => ?_) (fun h => ?_) <;> try first | contradiction | (exfalso; omega))
  · have := sl_nil hs (by assumption)
    subst this
    exact endQ_conv (fun w h => sat_true (own_nil (α := Ver)) h) (endQ.one Tryz.results148 (freshS.mk (α := Ver) none 0))
  · refine AppG.first s (by omega) (fun a c => ?_)
    repeat' first | refine adv ?_ | refine Side.go ?_ | refine Giv.mk fun _ => ?_ | refine All.mk fun q => ?_ | refine Fork.mk ?_ ?_ | (refine Two.mk (fun h => ?_) (fun h => ?_) <;> try first | contradiction | (exfalso; omega))
    exact endQ.one Tryz.results148 (freshS.mk a c)

def mayB (f n : Int) : Bool := decide ((0 ≤ f ∧ f ≤ 1048576) ∧ (1 ≤ n ∧ n ≤ 1048576) ∧ f + n ≤ 1048577)
theorem iv_may (f n : Int) : Spec Tryz.prog 199 #[.agg #[.int .i64 f, .int .i64 n]] [] (fun v L => v = .bool (mayB f n) ∧ L = []) := by
  refine enter1 Tryz.func199 rfl (by decide) (by decide) ?_
  intro B F
  dsimp only [lcA, lnA]
  repeat' first | refine adv ?_ | refine Side.go ?_ | refine Giv.mk fun _ => ?_ | refine All.mk fun q => ?_ | refine Fork.mk ?_ ?_ | (refine Two.mk (fun h => ?_) (fun h => ?_) <;> try first | contradiction | (exfalso; omega))
  all_goals refine endQ.one Tryz.results199 ⟨?_, rfl⟩
  all_goals unfold mayB
  all_goals first | (congr 1; exact (decide_eq_true (by omega)).symm) | (congr 1; exact (decide_eq_false (by omega)).symm) | (congr 1; exact decide_eq_decide.2 (by omega))
theorem iv_all1 (f n : Int) : Spec Tryz.prog 198 #[.agg #[.int .i64 f, .int .i64 n]] [] (fun v L => v = .bool (!mayB f n) ∧ L = []) := by
  refine enter1 Tryz.func198 rfl (by decide) (by decide) ?_
  intro B F
  dsimp only [lcA, lnA]
  repeat' first | refine adv ?_ | refine Side.go ?_ | refine Giv.mk fun _ => ?_ | refine All.mk fun q => ?_ | refine Fork.mk ?_ ?_ | (refine Two.mk (fun h => ?_) (fun h => ?_) <;> try first | contradiction | (exfalso; omega))
  refine CallG.use (iv_may f n) ?_
  rintro r M ⟨rfl, rfl⟩
  dsimp only [lcA, lnA]
  repeat' first | refine adv ?_ | refine Side.go ?_ | refine Giv.mk fun _ => ?_ | refine All.mk fun q => ?_ | refine Fork.mk ?_ ?_ | (refine Two.mk (fun h => ?_) (fun h => ?_) <;> try first | contradiction | (exfalso; omega))
  exact endQ.one Tryz.results198 ⟨rfl, rfl⟩

theorem index_ex (s : Sl ExR) (g : FuncId) [TFunc Tryz.prog g] (pred : ExR → Bool)
    (hg : ∀ j (h : j < s.xs.length), Spec Tryz.prog g #[.agg #[.int .i64 s.xs[j].f, .int .i64 s.xs[j].n]] [] (fun v L => v = .bool (pred s.xs[j]) ∧ L = [])) :
    Spec Tryz.prog 207 #[s.val, .func (.func g) #[] #[]] [roS s] (fun v L => ∃ n : Int, v = .int .i64 n ∧ (0 ≤ n ↔ s.xs.any pred = true) ∧ L = []) := by
  refine enter2 Tryz.func207 rfl (by decide) (by decide) ?_
  intro B F
  dsimp only [lcA, lnA]
  refine Sy_know (fun B w h => ro_ok s B w h) (fun hs => ?_)
  have hsl := hs.len
  repeat' first | refine adv ?_ | refine Side.go ?_ | refine Giv.mk fun _ => ?_ | refine All.mk fun q => ?_ | refine Fork.mk ?_ ?_ | (refine Two.mk (fun h => ?_) (fun h => ?_) <;> try first | contradiction | (exfalso; omega))
  refine Sy_loop (ι := {k : Nat // k ≤ s.xs.length ∧ (s.xs.take k).any pred = false}) (fun k => [(8, .int .i64 k.1), (7, .int .i64 s.xs.length), (0, s.val), (1, .func (.func g) #[] #[])]) (fun _ => roS s :: F)
      (fun k => s.xs.length - k.1) ⟨0, Nat.zero_le _, rfl⟩ (evs rfl (evs rfl (evs rfl (evs rfl .nil)))) (fun _ h => h) ?_
  rintro ⟨k, hk, hp⟩ env
  dsimp only [upds]
  repeat' first | refine adv ?_ | refine Side.go ?_ | refine Giv.mk fun _ => ?_ | refine All.mk fun q => ?_ | refine Fork.mk ?_ ?_ | (refine Two.mk (fun h => ?_) (fun h => ?_) <;> try first | contradiction | (exfalso; omega))
  · have hk2 : k < s.xs.length := by omega
    refine CallG.use (hg k hk2) ?_
    rintro r M ⟨rfl, rfl⟩
    dsimp only [lcA, lnA]
    repeat' first | refine adv ?_ | refine Side.go ?_ | refine Giv.mk fun _ => ?_ | refine All.mk fun q => ?_ | refine Fork.mk ?_ ?_ | (refine Two.mk (fun h => ?_) (fun h => ?_) <;> try first | contradiction | (exfalso; omega))
    · refine endQ.one Tryz.results207 ⟨_, rfl, ⟨fun _ => ?_, fun _ => by omega⟩, rfl⟩
      rw [List.any_eq_true]
      exact ⟨s.xs[k], List.getElem_mem hk2, h⟩
    · refine loopQ.next ⟨k + 1, by omega, ?_⟩ (by simp only []; omega) (evs rfl (evs rfl (evs rfl (evs rfl .nil)))) (fun w h => goes w h)
      rw [List.take_succ_eq_append_getElem hk2, List.any_append, hp]
      simpa using h
  · have hk3 : k = s.xs.length := by omega
    subst hk3
    rw [List.take_length] at hp
    refine endQ.one Tryz.results207 ⟨_, rfl, ⟨fun hn => by omega, fun hn => by rw [hp] at hn; cases hn⟩, rfl⟩
theorem contains_ex (s : Sl ExR) (g : FuncId) [TFunc Tryz.prog g] (pred : ExR → Bool)
    (hg : ∀ j (h : j < s.xs.length), Spec Tryz.prog g #[.agg #[.int .i64 s.xs[j].f, .int .i64 s.xs[j].n]] [] (fun v L => v = .bool (pred s.xs[j]) ∧ L = [])) :
    Spec Tryz.prog 197 #[s.val, .func (.func g) #[] #[]] [roS s] (fun v L => v = .bool (s.xs.any pred) ∧ L = []) := by
  refine enter2 Tryz.func197 rfl (by decide) (by decide) ?_
  intro B F
  dsimp only [lcA, lnA]
  repeat' first | refine adv ?_ | refine Side.go ?_ | refine Giv.mk fun _ => ?_ | refine All.mk fun q => ?_ | refine Fork.mk ?_ ?_ | (refine Two.mk (fun h => ?_) (fun h => ?_) <;> try first | contradiction | (exfalso; omega))
  refine CallG.use (index_ex s g pred hg) ?_
  rintro r M ⟨n, rfl, hn, rfl⟩
  dsimp only [lcA, lnA]
  repeat' first | refine adv ?_ | refine Side.go ?_ | refine Giv.mk fun _ => ?_ | refine All.mk fun q => ?_ | refine Fork.mk ?_ ?_ | (refine Two.mk (fun h => ?_) (fun h => ?_) <;> try first | contradiction | (exfalso; omega))
  refine endQ.one Tryz.results197 ⟨?_, rfl⟩
  congr 1
  rw [Bool.eq_iff_iff, decide_eq_true_eq, hn]
def allMay (l : List ExR) : Bool := !(l.any fun e => !mayB e.f e.n)
theorem iv_all (s : Sl ExR) : Spec Tryz.prog 186 #[s.val] [roS s] (fun v L => v = .bool (allMay s.xs) ∧ L = []) := by
  refine enter1 Tryz.func186 rfl (by decide) (by decide) ?_
  intro B F
  dsimp only [lcA, lnA]
  repeat' first | refine adv ?_ | refine Side.go ?_ | refine Giv.mk fun _ => ?_ | refine All.mk fun q => ?_ | refine Fork.mk ?_ ?_ | (refine Two.mk (fun h => ?_) (fun h => ?_) <;> try first | contradiction | (exfalso; omega))
  refine CallG.use (contains_ex s 198 (fun e => !mayB e.f e.n) (fun j _ => iv_all1 s.xs[j].f s.xs[j].n)) ?_
  rintro r M ⟨rfl, rfl⟩
  dsimp only [lcA, lnA]
  repeat' first | refine adv ?_ | refine Side.go ?_ | refine Giv.mk fun _ => ?_ | refine All.mk fun q => ?_ | refine Fork.mk ?_ ?_ | (refine Two.mk (fun h => ?_) (fun h => ?_) <;> try first | contradiction | (exfalso; omega))
  exact endQ.one Tryz.results186 ⟨rfl, rfl⟩
end Go.SL
namespace Go.SL
open Go.Proofs
set_option synthInstance.maxSize 4000
set_option synthInstance.maxHeartbeats 400000
set_option maxRecDepth 4000
set_option maxHeartbeats 2000000

instance zrep_ex : ZRep Tryz.prog 236 ExR rep_ex ⟨0, 0⟩ := ZRep.mk' rfl rfl (fun _ => trivial)
theorem grow_nil_ex (n : Nat) (hn : n ≤ 1000000) : Spec Tryz.prog 203 #[.slice none 0 0, .int .i64 n] [] (freshS ([] : List ExR)) := by
  refine enter2 Tryz.func203 rfl (by decide) (by decide) ?_
  intro B F
  dsimp only [lcA, lnA]
  refine Sy_conv (fun w h => sat_true (own_nil (α := ExR)) h) ?_
  repeat' first | refine adv ?_ | refine Side.go ?_ | refine Giv.mk fun _ => ?_ | refine All.mk fun q => ?_ | refine Fork.mk ?_ ?_ | (refine Two.mk (fun h => ?_) (fun h => ?_) <;> try first | contradiction | (exfalso; omega))
  · refine AppZ_conv (L' := ownS (⟨none, 0, []⟩ : Sl ExR) :: F) (fun _ _ h => h) ?_
    refine AppZ.use (⟨none, 0, []⟩ : Sl ExR) n (by omega) (by simp; omega) (fun a c => ?_)
    repeat' first | refine adv ?_ | refine Side.go ?_ | refine Giv.mk fun _ => ?_ | refine All.mk fun q => ?_ | refine Fork.mk ?_ ?_ | (refine Two.mk (fun h => ?_) (fun h => ?_) <;> try first | contradiction | (exfalso; omega))
    refine endQ_conv (L' := ownS (⟨a, c, []⟩ : Sl ExR) :: F) (fun _ h => h) ?_
    exact endQ.one Tryz.results203 (freshS.mk a c)
  · exact endQ.one Tryz.results203 (freshS.mk none 0)

theorem concat_ex (ps : Sl (Sl ExR)) (hl : (ps.xs.flatMap (·.xs)).length ≤ 1000000) : Spec Tryz.prog 188 #[ps.val] [roS ps] (freshS (ps.xs.flatMap (·.xs))) := by
  refine enter1 Tryz.func188 rfl (by decide) (by decide) ?_
  intro B F
  dsimp only [lcA, lnA]
  refine Sy_know (ro_ok ps) (fun hs => ?_)
  have hsl := hs.len
  repeat' first | refine adv ?_ | refine Side.go ?_ | refine Giv.mk fun _ => ?_ | refine All.mk fun q => ?_ | refine Fork.mk ?_ ?_ | (refine Two.mk (fun h => ?_) (fun h => ?_) <;> try first | contradiction | (exfalso; omega))
  refine Sy_loop (ι := {k : Nat // k ≤ ps.xs.length}) (fun k => [(11, .int .i64 k.1), (10, .int .i64 ps.xs.length), (9, ps.val), (3, .int .i64 (((ps.xs.take k.1).flatMap (·.xs)).length : Nat)), (0, ps.val)]) (fun _ => roS ps :: F)
      (fun k => ps.xs.length - k.1) ⟨0, Nat.zero_le _⟩ (evs rfl (evs rfl (evs rfl (evs rfl (evs rfl .nil))))) (fun _ h => h) ?_
  rintro ⟨k, hk⟩ env
  dsimp only [upds]
  have hcl := cat_len ps.xs (·.xs) k
  repeat' first | refine adv ?_ | refine Side.go ?_ | refine Giv.mk fun _ => ?_ | refine All.mk fun q => ?_ | refine Fork.mk ?_ ?_ | (refine Two.mk (fun h => ?_) (fun h => ?_) <;> try first | contradiction | (exfalso; omega))
  · have hk2 : k < ps.xs.length := by omega
    have hcl2 := hcl hk2
    repeat' first | refine adv ?_ | refine Side.go ?_ | refine Giv.mk fun _ => ?_ | refine All.mk fun q => ?_ | refine Fork.mk ?_ ?_ | (refine Two.mk (fun h => ?_) (fun h => ?_) <;> try first | contradiction | (exfalso; omega))
    refine loopQ.next ⟨k + 1, by omega⟩ (by simp only []; omega) (evs rfl (evs rfl (evs rfl (evs ?_ (evs rfl .nil))))) (fun _ h => h)
    rw [cat_take _ _ _ hk2, List.length_append]
    rfl
  · have hk8 : k = ps.xs.length := by omega
    subst hk8
    rw [List.take_length] at *
    refine CallG.use (grow_nil_ex _ hl) ?_
    rintro r M ⟨a, c, rfl, rfl⟩
    dsimp only [lcA, lnA]
    repeat' first | refine adv ?_ | refine Side.go ?_ | refine Giv.mk fun _ => ?_ | refine All.mk fun q => ?_ | refine Fork.mk ?_ ?_ | (refine Two.mk (fun h => ?_) (fun h => ?_) <;> try first | contradiction | (exfalso; omega))
    refine Sy_loop (ι := {k : Nat // k ≤ ps.xs.length} × Option Addr × Nat) (fun k => [(27, .int .i64 k.1.1), (26, .int .i64 ps.xs.length), (25, ps.val), (6, .slice k.2.1 ((ps.xs.take k.1.1).flatMap (·.xs)).length k.2.2)])
      (fun k => ownS (⟨k.2.1, k.2.2, (ps.xs.take k.1.1).flatMap (·.xs)⟩ : Sl ExR) :: roS ps :: F)
      (fun k => ps.xs.length - k.1.1) ⟨⟨0, Nat.zero_le _⟩, a, c⟩ (evs rfl (evs rfl (evs rfl (evs rfl .nil)))) (fun _ h => h) ?_
    rintro ⟨⟨k, hk⟩, a, c⟩ env
    dsimp only [upds]
    have hcl := cat_len ps.xs (·.xs) k
    repeat' first | refine adv ?_ | refine Side.go ?_ | refine Giv.mk fun _ => ?_ | refine All.mk fun q => ?_ | refine Fork.mk ?_ ?_ | (refine Two.mk (fun h => ?_) (fun h => ?_) <;> try first | contradiction | (exfalso; omega))
    · have hk2 : k < ps.xs.length := by omega
      have hcl2 := hcl hk2
      refine AppG_conv (L' := roS ps.xs[k] :: roS ps :: ownS (⟨a, c, (ps.xs.take k).flatMap (·.xs)⟩ : Sl ExR) :: F) (fun B w h => ro_pull_sl hk2 (h.perm (.swap _ _ _))) ?_
      have hb : ((ps.xs.take k).flatMap (·.xs)).length + ps.xs[k].xs.length ≤ 140737488355328 := by omega
      refine AppG.many (⟨a, c, (ps.xs.take k).flatMap (·.xs)⟩ : Sl ExR) (ps.xs[k]'hk2) ?_ (fun a c => ?_)
      · dsimp only; exact ⟨by omega, hb⟩
      repeat' first | refine adv ?_ | refine Side.go ?_ | refine Giv.mk fun _ => ?_ | refine All.mk fun q => ?_ | refine Fork.mk ?_ ?_ | (refine Two.mk (fun h => ?_) (fun h => ?_) <;> try first | contradiction | (exfalso; omega))
      refine loopQ.next ⟨⟨k + 1, by omega⟩, a, c⟩ (by simp only []; omega) (evs rfl (evs rfl (evs rfl (evs ?_ .nil)))) (fun w h => ?_)
      · rw [cat_take _ _ _ hk2]
      · rw [cat_take _ _ _ hk2]; exact goes w h
    · have hk8 : k = ps.xs.length := by omega
      subst hk8
      rw [List.take_length] at *
      repeat' first | refine adv ?_ | refine Side.go ?_ | refine Giv.mk fun _ => ?_ | refine All.mk fun q => ?_ | refine Fork.mk ?_ ?_ | (refine Two.mk (fun h => ?_) (fun h => ?_) <;> try first | contradiction | (exfalso; omega))
      exact endQ.one Tryz.results188 (freshS.mk a c)
end Go.SL
namespace Go.Proofs
open Go.Shelf Go.RowKit Go.Lib Go.Sort
def Tryz.encEx (x : Int × Int) : List Value := [.int .i64 x.1, .int .i64 x.2]
set_option maxHeartbeats 1000000 in
theorem Tryz.closure201 (x y : Int × Int) (W : World) : Calls Tryz.prog 201 #[.agg #[.int .i64 x.1, .int .i64 x.2], .agg #[.int .i64 y.1, .int .i64 y.2]] W fun e w' => e = .returned (.int .i64 (Lib.compareInt x.1 y.1)) ∧ ∃ q os', w' = grow (W.drewN q) os' := by
  have hcon := fun W' => AnyG.cmp_Compare_int Tryz.cmpInt x.1 y.1 W'
  change ∀ W', Calls Tryz.prog 202 _ _ _ at hcon
  generalize Lib.compareInt x.1 y.1 = r at hcon ⊢
  go_enter Tryz.func201, Tryz.ntmps201
  go_wp2_with (go_at_call 202; refine (hcon _).mono ?_; rintro e w' ⟨rfl, rfl⟩)
  go_ret
  exact ⟨rfl, 0, _, by rw [alloc_eq_grow, alloc_eq_grow, grow_grow]; rfl⟩
theorem Tryz.cmpLays201 (blk off size : Nat) (w : World) : CmpLays Tryz.prog 201 #[] Tryz.encEx 2 (fun x y => Lib.compareInt x.1 y.1) blk off size w := fun _ _ _ _ x y => Tryz.closure201 x y _
theorem Tryz.ltEx (x y : Int × Int) : ltOf (fun x y : Int × Int => Lib.compareInt x.1 y.1) x y = decide (x.1 < y.1) := by
  unfold ltOf Lib.compareInt
  by_cases h1 : x.1 < y.1
  · simp [h1]
  · by_cases h2 : y.1 < x.1 <;> simp [h1, h2]
theorem Tryz.swoEx : SWO (ltOf fun x y : Int × Int => Lib.compareInt x.1 y.1) where
  irrefl x := by rw [Tryz.ltEx]; simp
  trans x y z h1 h2 := by rw [Tryz.ltEx] at *; simp at *; omega
  ntrans x y z h1 h2 := by rw [Tryz.ltEx] at *; simp at *; omega
end Go.Proofs
namespace Go.SL
open Go.Proofs
set_option synthInstance.maxSize 4000
set_option synthInstance.maxHeartbeats 400000
set_option maxRecDepth 4000
set_option maxHeartbeats 2000000
open Go.Shelf Go.RowKit Go.Lib Go.Sort

theorem sat.sets {B : World} {L : List HProp} {r o : Nat} {post : List Value} : ∀ (new old pre : List Value) {w : World}, new.length = old.length → sat B (cells true r o (pre ++ (old ++ post)) :: L) w →
    sat B (cells true r o (pre ++ (new ++ post)) :: L) (w.setCells r (o + pre.length) new)
  | [], [], _, _, _, h => h
  | v :: vs, x :: xs, pre, w, hl, h => by
    have h1 := h.set (i := pre.length) (v := v) (by simp)
    have e : (pre ++ (x :: xs ++ post)).set pre.length v = (pre ++ [v]) ++ (xs ++ post) := by
      rw [List.set_append_right _ _ (Nat.le_refl _)]
      simp
    rw [e] at h1
    have h2 := sat.sets vs xs (pre ++ [v]) (by simpa using hl) h1
    have e2 : (pre ++ [v]) ++ (vs ++ post) = pre ++ (v :: vs ++ post) := by simp
    rw [e2] at h2
    have e3 : o + (pre ++ [v]).length = o + pre.length + 1 := by simp; omega
    rw [e3] at h2
    exact h2
  | [], _ :: _, _, _, hl, _ => by simp at hl
  | _ :: _, [], _, _, hl, _ => by simp at hl

def pairs (l : List ExR) : Array (Int × Int) := (l.map fun x => (x.f, x.n)).toArray
def unpair (d : Array (Int × Int)) : List ExR := d.toList.map fun p => ⟨p.1, p.2⟩
theorem unpair_get (d : Array (Int × Int)) (i : Nat) (h : i < (unpair d).length) (hz : i < d.size) : (unpair d)[i] = ⟨(d[i]'hz).1, (d[i]'hz).2⟩ := by
  have h2 : i < (d.toList.map fun p : Int × Int => (⟨p.1, p.2⟩ : ExR)).length := h
  exact (List.getElem_map (h := h2) (fun p : Int × Int => (⟨p.1, p.2⟩ : ExR))).trans rfl
theorem unpair_pairs (l : List ExR) : unpair (pairs l) = l := by
  show ((l.map fun x => (x.f, x.n)).toArray.toList.map fun p : Int × Int => (⟨p.1, p.2⟩ : ExR)) = l
  rw [List.toList_toArray, List.map_map]
  exact (List.map_congr_left (fun x _ => rfl)).trans (List.map_id l)
theorem flatK_unpair (d : Array (Int × Int)) : (flatK Tryz.encEx 2 d).toList = flat (unpair d) := by
  apply List.ext_getElem
  · rw [flat_length, Array.length_toList, size_flatK]; simp [unpair]; rfl
  · intro t h1 h2
    have ht : t < d.size * 2 := by simpa using h1
    have hq : t / 2 < (unpair d).length := by unfold unpair; simp; omega
    have hg := flat_get (unpair d) (t / 2) hq (t % 2) (Nat.mod_lt _ (by decide))
    have e0 : t / 2 * Rep.k ExR + t % 2 = t := by show t / 2 * 2 + t % 2 = t; omega
    rw [e0] at hg
    have h3 : (flat (unpair d))[t]? = some (flat (unpair d))[t] := List.getElem?_eq_getElem h2
    rw [h3] at hg
    have h4 := get_flatK Tryz.encEx 2 d t ht
    rw [getElem!_pos _ t (by simpa using h1)] at h4
    have h5 : (flatK Tryz.encEx 2 d).toList[t] = (flatK Tryz.encEx 2 d)[t]'(by simpa using h1) := rfl
    rw [h5, h4]
    have hd : d[t / 2]! = d[t / 2]'(by omega) := getElem!_pos _ _ (by omega)
    have hx : (unpair d)[t / 2] = ⟨(d[t / 2]'(by omega)).1, (d[t / 2]'(by omega)).2⟩ := unpair_get d _ hq (by omega)
    rw [hx] at hg
    rw [hd]
    have hm : t % 2 = 0 ∨ t % 2 = 1 := by omega
    rcases hm with hm | hm <;> rw [hm] at hg ⊢ <;> exact (Option.some.inj hg).symm

theorem below_grow (W : World) (os : Array Obj) : RowKit.Below W.heap.size W (grow W os) :=
  ⟨rfl, rfl, rfl, by show W.heap.size ≤ (W.heap ++ os).size; simp, fun k hk => by show (W.heap ++ os)[k]? = W.heap[k]?; rw [Array.getElem?_append_left hk]⟩
theorem sortfunc_ex (s : Sl ExR) : Spec Tryz.prog 200 #[s.val, .func (.func 201) #[] #[]] [ownS s]
    (fun v L => ∃ ys, ys.Perm s.xs ∧ (∀ i j (hi : i < ys.length) (hj : j < ys.length), i < j → ys[i].f ≤ ys[j].f) ∧ v = .tuple #[] ∧ L = [ownS (⟨s.a, s.c, ys⟩ : Sl ExR)]) := by
  intro B F w hs
  have hs0 : sat B (ownS s :: F) w := hs
  obtain ⟨ok, room, hrl, hc⟩ := ownS_cells hs0
  by_cases h0 : s.xs = []
  · have hcon := AnyF.slices_SortFunc_none { Tryz.sortEx with } s.a s.c (.func (.func 201) #[] #[]) w
    change Calls Tryz.prog 200 _ _ _ at hcon
    have e : s.val = .slice s.a 0 s.c := by unfold Sl.val; rw [h0]; rfl
    rw [e]
    refine hcon.mono ?_
    rintro e w' ⟨rfl, rfl⟩
    refine ⟨_, _, rfl, ⟨s.xs, .refl _, fun i j hi => by rw [h0] at hi; simp at hi, rfl, rfl⟩, hs0⟩
  · have hlen : 0 < s.xs.length := List.length_pos_iff.2 h0
    have ha := ok.some hlen
    obtain ⟨d, hd⟩ : ∃ d, d = pairs s.xs := ⟨_, rfl⟩
    have hds : d.size = s.xs.length := by rw [hd]; simp [pairs]
    have hF0 : (flatK Tryz.encEx 2 d).toList = flat s.xs := by rw [flatK_unpair, hd, unpair_pairs]
    have hcell : ∀ j v, (flat s.xs)[j]? = some v → w.cell? ⟨blk s.a, offs s.a + j, none⟩ = some v ∧ w.frozen? ⟨blk s.a, offs s.a + j, none⟩ = false := by
      intro j v hj
      have hj2 : (flat s.xs ++ room)[j]? = some v := by
        rw [List.getElem?_append_left]
        · exact hj
        · rcases Nat.lt_or_ge j (flat s.xs).length with h | h
          · exact h
          · rw [List.getElem?_eq_none h] at hj; cases hj
      exact ⟨hc.cell hj2, hc.notFrozen hj2⟩
    have hH : HoldsK Tryz.encEx 2 w (blk s.a) (offs s.a) d := by
      intro j hj
      have hj2 : j < (flatK Tryz.encEx 2 d).toList.length := by simpa using hj
      have h3 : (flat s.xs)[j]? = some (flatK Tryz.encEx 2 d)[j]! := by
        rw [← hF0, List.getElem?_eq_getElem hj2, getElem!_pos _ j hj]; rfl
      exact hcell j _ h3
    have hlt : blk s.a < w.heap.size := by
      have h3 : (flat s.xs)[0]? = some ((flat s.xs)[0]'(by rw [flat_length]; show 0 < s.xs.length * 2; omega)) := List.getElem?_eq_getElem _
      have h4 := (hcell 0 _ h3).1
      rcases Nat.lt_or_ge (blk s.a) w.heap.size with h | h
      · exact h
      · unfold World.cell? at h4
        rw [Array.getElem?_eq_none h] at h4; cases h4
    have eg : ∀ args w, (callFunc 201 args).run Tryz.prog w = .ok (.enter 201 args) w := enters_of Tryz.func201 (by kernel_rfl) rfl
    have hcon := AnyQ.slices_SortFunc Tryz.sortEx 2 Tryz.isAgg236 Tryz.sizeOf236 Tryz.encEx (fun _ => rfl) (fun x v hv => by simp [Tryz.encEx] at hv; rcases hv with rfl | rfl <;> rfl) (fun x y => Lib.compareInt x.1 y.1) Tryz.swoEx 201 #[] (blk s.a) (offs s.a) s.c d w eg
      (Tryz.cmpLays201 (blk s.a) (offs s.a) d.size w) hH hlt (by have := ok.len; omega)
    change Calls Tryz.prog 200 _ _ _ at hcon
    have e : s.val = .slice (some ⟨blk s.a, offs s.a, none⟩) d.size s.c := by unfold Sl.val; rw [← ha, hds]
    rw [e]
    refine hcon.mono ?_
    rintro ee w' ⟨rfl, d', n, os, hp, hsrt, rfl⟩
    have hsz : d'.size = d.size := hp.1
    have hperm : (unpair d').Perm s.xs := by
      have h3 := hp.2.2
      rw [Array.extract_eq_self_of_le (by omega), Array.extract_eq_self_of_le (Nat.le_refl _)] at h3
      have h4 := h3.map (fun p : Int × Int => (⟨p.1, p.2⟩ : ExR))
      have h5 : unpair d = s.xs := by rw [hd, unpair_pairs]
      exact h5 ▸ h4
    refine ⟨_, _, rfl, ⟨unpair d', hperm, ?_, rfl, rfl⟩, ?_⟩
    · intro i j hi hj hij
      have hi2 : i < d'.size := by simpa [unpair] using hi
      have hj2 : j < d'.size := by simpa [unpair] using hj
      have h3 := hsrt i j (Nat.zero_le _) hij (by omega)
      rw [Tryz.ltEx, decide_eq_false_iff_not, getElem!_pos _ i hi2, getElem!_pos _ j hj2] at h3
      have e1 : (unpair d')[i] = ⟨(d'[i]'hi2).1, (d'[i]'hi2).2⟩ := unpair_get d' _ hi hi2
      have e2 : (unpair d')[j] = ⟨(d'[j]'hj2).1, (d'[j]'hj2).2⟩ := unpair_get d' _ hj hj2
      rw [e1, e2]; dsimp only; omega
    · have h1 : sat B (cells true (blk s.a) (offs s.a) ([] ++ (flat s.xs ++ room)) :: (fun h => ∀ x ∈ s.xs, Rep.own x h) :: F) (Sort.ahead w n) := hc.same rfl rfl rfl
      have hl : (flatK Tryz.encEx 2 d').toList.length = (flat s.xs).length := by rw [← hF0]; simp [hsz]
      have h2 := sat.sets (flatK Tryz.encEx 2 d').toList (flat s.xs) [] hl h1
      have hself : putRow id (Sort.ahead w n) (blk s.a) (offs s.a) (flatK Tryz.encEx 2 d) = Sort.ahead w n := putRow_self id _ _ _ _ (holdsK_ahead Tryz.encEx 2 w n _ _ d hH)
      have hset := setCells_putRow (Sort.ahead w n) (blk s.a) (offs s.a) (flatK Tryz.encEx 2 d').toList 0 (flatK Tryz.encEx 2 d) (by simp [hsz])
      rw [hself] at hset
      have hF1 : setMany (flatK Tryz.encEx 2 d) 0 (flatK Tryz.encEx 2 d').toList = flatK Tryz.encEx 2 d' := by
        refine ext_get! (by simp [hsz]) (fun t ht => ?_)
        have ht2 : t < (flatK Tryz.encEx 2 d).size := by simpa using ht
        rw [get_setMany _ _ _ _ ht2, if_pos ⟨Nat.zero_le _, by rw [hl, ← hF0]; simpa using ht2⟩, Nat.sub_zero]
        have ht3 : t < (flatK Tryz.encEx 2 d').size := by simp only [size_flatK] at ht2 ⊢; omega
        rw [getElem!_pos _ t (by simpa using ht3), getElem!_pos _ t ht3]; rfl
      rw [hF1] at hset
      rw [List.length_nil, hset] at h2
      have hb : RowKit.Below (putRow id (Sort.ahead w n) (blk s.a) (offs s.a) (flatK Tryz.encEx 2 d')).heap.size (putRow id (Sort.ahead w n) (blk s.a) (offs s.a) (flatK Tryz.encEx 2 d')) (sortWorldK Tryz.encEx 2 w (blk s.a) (offs s.a) n d' os) := by
        exact below_grow _ os
      have h3 := h2.behind hb
      rw [flatK_unpair, List.nil_append] at h3
      have hul : (unpair d').length = s.xs.length := hperm.length_eq
      refine ownS_of_cells (s := ⟨s.a, s.c, unpair d'⟩) (room := room) ⟨ok.spot, by dsimp only; rw [hul]; exact ok.cap, ok.null, by dsimp only; rw [hul]; exact ok.len⟩ (by dsimp only; rw [hul]; exact hrl) ?_
      exact (h3.perm (.swap _ _ _)).tail.perm (.refl _) |> fun h4 => (ownAll_true (xs := unpair d') (fun _ _ => trivial) h4).perm (.swap _ _ _)
end Go.SL
namespace Go.SL
open Go.Proofs
set_option synthInstance.maxSize 4000
set_option synthInstance.maxHeartbeats 400000
set_option maxRecDepth 4000
set_option maxHeartbeats 2000000

/-- joined, of no extent or one. -/
theorem iv_joined1 (s : Sl ExR) (h1 : s.xs.length ≤ 1) : Spec Tryz.prog 187 #[s.val] [roS s] (freshS s.xs) := by
  refine enter1 Tryz.func187 rfl (by decide) (by decide) ?_
  intro B F
  dsimp only [lcA, lnA]
  repeat' first | refine adv ?_ | refine Side.go ?_ | refine Giv.mk fun _ => ?_ | refine All.mk fun q => ?_ | refine Fork.mk ?_ ?_ | (refine Two.mk (fun h => ?_) (fun h => ?_) <;> try first | contradiction | (exfalso; omega))
  refine CallG.use (clone_ex s (by omega)) ?_
  rintro r M ⟨a, c, rfl, rfl⟩
  dsimp only [lcA, lnA]
  repeat' first | refine adv ?_ | refine Side.go ?_ | refine Giv.mk fun _ => ?_ | refine All.mk fun q => ?_ | refine Fork.mk ?_ ?_ | (refine Two.mk (fun h => ?_) (fun h => ?_) <;> try first | contradiction | (exfalso; omega))
  refine CallG.use (sortfunc_ex ⟨a, c, s.xs⟩) ?_
  rintro r M ⟨ys, hp, hso, rfl, rfl⟩
  dsimp only [lcA, lnA]
  have hys : ys = s.xs := by
    dsimp only at hp
    rcases hx : s.xs with _ | ⟨x, _ | ⟨y, l⟩⟩
    · rw [hx] at hp; exact hp.eq_nil
    · rw [hx] at hp; exact List.perm_singleton.1 hp
    · rw [hx] at h1; simp at h1
  subst hys
  repeat' first | refine adv ?_ | refine Side.go ?_ | refine Giv.mk fun _ => ?_ | refine All.mk fun q => ?_ | refine Fork.mk ?_ ?_ | (refine Two.mk (fun h => ?_) (fun h => ?_) <;> try first | contradiction | (exfalso; omega))
  refine Sy_loop (ι := {st : Nat × Sl ExR // st.1 ≤ s.xs.length ∧ st.2.xs = s.xs.take st.1})
    (fun st => [(12, .int .i64 st.1.1), (11, .int .i64 s.xs.length), (10, .slice a s.xs.length c), (2, st.1.2.val)])
    (fun st => ownS st.1.2 :: ownS (⟨a, c, s.xs⟩ : Sl ExR) :: F) (fun st => s.xs.length - st.1.1) ⟨(0, ⟨none, 0, []⟩), Nat.zero_le _, rfl⟩ (evs rfl (evs rfl (evs rfl (evs rfl .nil)))) (fun w h => goes w (sat_true (own_nil (α := ExR)) h)) ?_
  rintro ⟨⟨k, out⟩, hk, hout⟩ env
  dsimp only [upds] at hk hout ⊢
  by_cases hk2 : k < s.xs.length
  · have hk0 : k = 0 := by omega
    have hol : out.xs.length = 0 := by rw [hout, hk0]; rfl
    repeat' first | refine adv ?_ | refine Side.go ?_ | refine Giv.mk fun _ => ?_ | refine All.mk fun q => ?_ | refine Fork.mk ?_ ?_ | (refine Two.mk (fun h => ?_) (fun h => ?_) <;> try first | contradiction | (exfalso; omega))
    refine AppG.one' out s.xs[k] (fun _ => trivial) (by omega) (fun a2 c2 => ?_)
    repeat' first | refine adv ?_ | refine Side.go ?_ | refine Giv.mk fun _ => ?_ | refine All.mk fun q => ?_ | refine Fork.mk ?_ ?_ | (refine Two.mk (fun h => ?_) (fun h => ?_) <;> try first | contradiction | (exfalso; omega))
    refine loopQ.next ⟨(k + 1, ⟨a2, c2, out.xs ++ [s.xs[k]]⟩), by dsimp only; omega, ?_⟩ (by simp only []; omega) (evs rfl (evs rfl (evs rfl (evs rfl .nil)))) (fun w h => goes w h)
    dsimp only
    rw [List.take_succ_eq_append_getElem hk2, hout]
  · have hk3 : k = s.xs.length := by omega
    subst hk3
    rw [List.take_length] at hout
    repeat' first | refine adv ?_ | refine Side.go ?_ | refine Giv.mk fun _ => ?_ | refine All.mk fun q => ?_ | refine Fork.mk ?_ ?_ | (refine Two.mk (fun h => ?_) (fun h => ?_) <;> try first | contradiction | (exfalso; omega))
    rw [← hout]
    exact endQ.one Tryz.results187 (freshS.mk out.a out.c)

/-- A set of extents. -/
structure Iv where
  most : Nat
  l : List ExR
def ivO (p : Nat) (S : Iv) : HProp := ex fun q : Option Addr × Nat => star [cells true p 0 [.int .i64 S.most, .slice q.1 S.l.length q.2], roS (⟨q.1, q.2, S.l⟩ : Sl ExR)]
theorem ivO_open {B : World} {L : List HProp} {p : Nat} {S : Iv} {w : World} (h : sat B (ivO p S :: L) w) : ∃ q : Option Addr × Nat, sat B (cells true p 0 [.int .i64 S.most, .slice q.1 S.l.length q.2] :: roS (⟨q.1, q.2, S.l⟩ : Sl ExR) :: L) w := by
  obtain ⟨q, hq⟩ := sat_ex.1 h
  exact ⟨q, sat_star.1 hq⟩
theorem ivO_close {B : World} {L : List HProp} {p : Nat} {w : World} (S : Iv) (a : Option Addr) (c : Nat) (h : sat B (cells true p 0 [.int .i64 S.most, .slice a S.l.length c] :: roS (⟨a, c, S.l⟩ : Sl ExR) :: L) w) : sat B (ivO p S :: L) w :=
  sat_ex.2 ⟨(a, c), sat_star.2 h⟩

theorem iv_new (n : Nat) : Spec Tryz.prog 133 #[.int .i64 n] [] (fun v L => ∃ p, v = .pointer (some ⟨p, 0, none⟩) ∧ L = [ivO p ⟨n, []⟩]) := by
  refine enter1 Tryz.func133 rfl (by decide) (by decide) ?_
  intro B F
  dsimp only [lcA, lnA]
  repeat' first | refine adv ?_ | refine Side.go ?_ | refine Giv.mk fun _ => ?_ | refine All.mk fun q => ?_ | refine Fork.mk ?_ ?_ | (refine Two.mk (fun h => ?_) (fun h => ?_) <;> try first | contradiction | (exfalso; omega))
  refine endQ.oneW Tryz.results133 ⟨q, rfl, rfl⟩ (fun w h => ivO_close ⟨n, []⟩ none 0 ?_)
  have h2 : sat B (roS (⟨none, 0, []⟩ : Sl ExR) :: cells true q 0 [.int .i64 n, .slice none 0 0] :: F) w := sat_true (ro_nil (α := ExR)) h
  exact h2.perm (.swap _ _ _)

theorem iv_extents (p : Nat) (S : Iv) (hl : S.l.length ≤ 1000000) : Spec Tryz.prog 157 #[.pointer (some ⟨p, 0, none⟩)] [ivO p S] (fun v L => ∃ a c, v = .slice a S.l.length c ∧ L = [ivO p S, ownS (⟨a, c, S.l⟩ : Sl ExR)]) := by
  refine enter1 Tryz.func157 rfl (by decide) (by decide) ?_
  intro B F
  dsimp only [lcA, lnA]
  refine Sy_all (fun w h => ivO_open h) (fun q => ?_)
  obtain ⟨a0, c0⟩ := q
  dsimp only
  repeat' first | refine adv ?_ | refine Side.go ?_ | refine Giv.mk fun _ => ?_ | refine All.mk fun q => ?_ | refine Fork.mk ?_ ?_ | (refine Two.mk (fun h => ?_) (fun h => ?_) <;> try first | contradiction | (exfalso; omega))
  refine CallG.use (clone_ex ⟨a0, c0, S.l⟩ (by dsimp only; omega)) ?_
  rintro r M ⟨a, c, rfl, rfl⟩
  dsimp only [lcA, lnA]
  repeat' first | refine adv ?_ | refine Side.go ?_ | refine Giv.mk fun _ => ?_ | refine All.mk fun q => ?_ | refine Fork.mk ?_ ?_ | (refine Two.mk (fun h => ?_) (fun h => ?_) <;> try first | contradiction | (exfalso; omega))
  refine endQ.oneW Tryz.results157 ⟨a, c, rfl, rfl⟩ (fun w h => ivO_close S a0 c0 ?_)
  exact goes w h

def sumN (l : List ExR) : Int := (l.map (·.n)).sum
theorem iv_count (p : Nat) (S : Iv) (hl : S.l.length ≤ 1000000) (hn : ∀ e ∈ S.l, 0 ≤ e.n ∧ e.n ≤ 1048577) : Spec Tryz.prog 156 #[.pointer (some ⟨p, 0, none⟩)] [ivO p S] (fun v L => v = .int .i64 (sumN S.l) ∧ L = [ivO p S]) := by
  refine enter1 Tryz.func156 rfl (by decide) (by decide) ?_
  intro B F
  dsimp only [lcA, lnA]
  repeat' first | refine adv ?_ | refine Side.go ?_ | refine Giv.mk fun _ => ?_ | refine All.mk fun q => ?_ | refine Fork.mk ?_ ?_ | (refine Two.mk (fun h => ?_) (fun h => ?_) <;> try first | contradiction | (exfalso; omega))
  refine CallG.use (iv_extents p S hl) ?_
  rintro r M ⟨a, c, rfl, rfl⟩
  dsimp only [lcA, lnA]
  repeat' first | refine adv ?_ | refine Side.go ?_ | refine Giv.mk fun _ => ?_ | refine All.mk fun q => ?_ | refine Fork.mk ?_ ?_ | (refine Two.mk (fun h => ?_) (fun h => ?_) <;> try first | contradiction | (exfalso; omega))
  refine Sy_loop (ι := {st : Nat × Int // (st.1 ≤ S.l.length ∧ 0 ≤ st.2 ∧ st.2 ≤ 1048577 * st.1) ∧ st.2 = sumN (S.l.take st.1)})
    (fun st => [(8, .int .i64 st.1.1), (7, .int .i64 S.l.length), (6, .slice a S.l.length c), (2, .int .i64 st.1.2)])
    (fun st => ivO p S :: ownS (⟨a, c, S.l⟩ : Sl ExR) :: F) (fun st => S.l.length - st.1.1) ⟨(0, 0), ⟨Nat.zero_le _, by decide, by decide⟩, rfl⟩ (evs rfl (evs rfl (evs rfl (evs rfl .nil)))) (fun w h => h) ?_
  rintro ⟨⟨k, n⟩, ⟨hk, hn0, hn1⟩, hsum⟩ env
  dsimp only [upds] at hk hn0 hn1 hsum ⊢
  by_cases hk2 : k < S.l.length
  · have hnk := hn S.l[k] (List.getElem_mem hk2)
    repeat' first | refine adv ?_ | refine Side.go ?_ | refine Giv.mk fun _ => ?_ | refine All.mk fun q => ?_ | refine Fork.mk ?_ ?_ | (refine Two.mk (fun h => ?_) (fun h => ?_) <;> try first | contradiction | (exfalso; omega))
    refine loopQ.next ⟨(k + 1, n + S.l[k].n), ⟨by dsimp only; omega, by dsimp only; omega, by dsimp only; omega⟩, ?_⟩ (by simp only []; omega) (evs rfl (evs rfl (evs rfl (evs rfl .nil)))) (fun w h => goes w h)
    dsimp only
    rw [List.take_succ_eq_append_getElem hk2, hsum, sumN, sumN, List.map_append, List.sum_append]
    simp
  · have hk3 : k = S.l.length := by omega
    subst hk3
    rw [List.take_length] at hsum
    repeat' first | refine adv ?_ | refine Side.go ?_ | refine Giv.mk fun _ => ?_ | refine All.mk fun q => ?_ | refine Fork.mk ?_ ?_ | (refine Two.mk (fun h => ?_) (fun h => ?_) <;> try first | contradiction | (exfalso; omega))
    exact endQ.oneW Tryz.results156 ⟨by rw [hsum], rfl⟩ (fun w h => goes w h)

/-- Add, where one extent comes into an empty set. -/
theorem iv_add1 (p : Nat) (S : Iv) (hS : S.l = []) (hm : 1 ≤ S.most) (e : ExR) (he : mayB e.f e.n = true) (a : Option Addr) (c : Nat) :
    Spec Tryz.prog 160 #[.pointer (some ⟨p, 0, none⟩), .slice a 1 c] [ivO p S, roS (⟨a, c, [e]⟩ : Sl ExR)] (fun v L => v = .int .i64 0 ∧ L = [ivO p { S with l := [e] }]) := by
  refine enter2 Tryz.func160 rfl (by decide) (by decide) ?_
  intro B F
  dsimp only [lcA, lnA]
  refine Sy_all (fun w h => ivO_open h) (fun q => ?_)
  obtain ⟨a0, c0⟩ := q
  dsimp only
  rw [hS]
  repeat' first | refine adv ?_ | refine Side.go ?_ | refine Giv.mk fun _ => ?_ | refine All.mk fun q => ?_ | refine Fork.mk ?_ ?_ | (refine Two.mk (fun h => ?_) (fun h => ?_) <;> try first | contradiction | (exfalso; omega))
  have hall : allMay [e] = true := by simp [allMay, he]
  refine CallG.use (iv_all (⟨a, c, [e]⟩ : Sl ExR)) ?_
  rintro r M ⟨rfl, rfl⟩
  dsimp only [lcA, lnA]
  rw [hall]
  repeat' first | refine adv ?_ | refine Side.go ?_ | refine Giv.mk fun _ => ?_ | refine All.mk fun q => ?_ | refine Fork.mk ?_ ?_ | (refine Two.mk (fun h => ?_) (fun h => ?_) <;> try first | contradiction | (exfalso; omega))
  refine CallG_conv (L' := roS (⟨some ⟨q, 0, none⟩, 2, [⟨a0, c0, []⟩, ⟨a, c, [e]⟩]⟩ : Sl (Sl ExR)) :: cells true p 0 [.int .i64 S.most, .slice a0 0 c0] :: F) (fun B w h => ?_) ?_
  · have h2 : sat B (cells true q 0 ([(⟨a0, c0, []⟩ : Sl ExR), ⟨a, c, [e]⟩].map Sl.val) :: ([(⟨a0, c0, []⟩ : Sl ExR), ⟨a, c, [e]⟩].map roS ++ (cells true p 0 [.int .i64 S.most, .slice a0 0 c0] :: F))) w :=
      (show sat B (cells true q 0 [.slice a0 0 c0, .slice a 1 c] :: cells true p 0 [.int .i64 S.most, .slice a0 0 c0] :: roS (⟨a0, c0, []⟩ : Sl ExR) :: roS (⟨a, c, [e]⟩ : Sl ExR) :: F) w from h).perm (.cons _ (.trans (.swap _ _ _) (.cons _ (.swap _ _ _))))
    exact roS_pack _ (by simp) (by simp) h2
  refine CallG.use (concat_ex ⟨some ⟨q, 0, none⟩, 2, [⟨a0, c0, []⟩, ⟨a, c, [e]⟩]⟩ (by simp)) ?_
  rintro r M ⟨a1, c1, rfl, rfl⟩
  simp only [List.cons_append, List.nil_append, List.flatMap_cons, List.flatMap_nil, List.append_nil]
  repeat' first | refine adv ?_ | refine Side.go ?_ | refine Giv.mk fun _ => ?_ | refine All.mk fun q => ?_ | refine Fork.mk ?_ ?_ | (refine Two.mk (fun h => ?_) (fun h => ?_) <;> try first | contradiction | (exfalso; omega))
  refine CallG.use (iv_joined1 (⟨a1, c1, [e]⟩ : Sl ExR) (by simp)) ?_
  rintro r M ⟨a2, c2, rfl, rfl⟩
  dsimp only [lcA, lnA]
  repeat' first | refine adv ?_ | refine Side.go ?_ | refine Giv.mk fun _ => ?_ | refine All.mk fun q => ?_ | refine Fork.mk ?_ ?_ | (refine Two.mk (fun h => ?_) (fun h => ?_) <;> try first | contradiction | (exfalso; omega))
  · exfalso
    simp only [List.length_cons, List.length_nil] at h
    omega
  · refine endQ.oneW Tryz.results160 ⟨rfl, rfl⟩ (fun w h => ivO_close { S with l := [e] } a2 c2 ?_)
    exact goes w h

/-- Add of nothing. -/
theorem iv_add0 (p : Nat) (S : Iv) (a : Option Addr) (c : Nat) :
    Spec Tryz.prog 160 #[.pointer (some ⟨p, 0, none⟩), .slice a 0 c] [ivO p S, roS (⟨a, c, []⟩ : Sl ExR)] (fun v L => v = .int .i64 0 ∧ L = [ivO p S]) := by
  refine enter2 Tryz.func160 rfl (by decide) (by decide) ?_
  intro B F
  dsimp only [lcA, lnA]
  repeat' first | refine adv ?_ | refine Side.go ?_ | refine Giv.mk fun _ => ?_ | refine All.mk fun q => ?_ | refine Fork.mk ?_ ?_ | (refine Two.mk (fun h => ?_) (fun h => ?_) <;> try first | contradiction | (exfalso; omega))
  refine CallG.use (iv_all (⟨a, c, []⟩ : Sl ExR)) ?_
  rintro r M ⟨rfl, rfl⟩
  dsimp only [lcA, lnA]
  rw [show allMay [] = true from rfl]
  repeat' first | refine adv ?_ | refine Side.go ?_ | refine Giv.mk fun _ => ?_ | refine All.mk fun q => ?_ | refine Fork.mk ?_ ?_ | (refine Two.mk (fun h => ?_) (fun h => ?_) <;> try first | contradiction | (exfalso; omega))
  exact endQ.oneW Tryz.results160 ⟨rfl, rfl⟩ (fun w h => goes w h)
end Go.SL
namespace Go.SL
open Go.Proofs
set_option synthInstance.maxSize 4000
set_option synthInstance.maxHeartbeats 400000
set_option maxRecDepth 4000
set_option maxHeartbeats 2000000

/-- What a transaction reads: nothing was read yet. -/
def viewO (v m b : Nat) (at_ : Int) (S : Iv) : HProp := ex fun q : Nat => star [cells true v 0 [.pointer (some ⟨m, 0, none⟩), .pointer (some ⟨b, 0, none⟩), .int .i64 at_, .pointer (some ⟨q, 0, none⟩), .slice none 0 0], ivO q S]
theorem viewO_open {B : World} {L : List HProp} {v m b : Nat} {at_ : Int} {S : Iv} {w : World} (h : sat B (viewO v m b at_ S :: L) w) :
    ∃ q : Nat, sat B (cells true v 0 [.pointer (some ⟨m, 0, none⟩), .pointer (some ⟨b, 0, none⟩), .int .i64 at_, .pointer (some ⟨q, 0, none⟩), .slice none 0 0] :: ivO q S :: L) w := by
  obtain ⟨q, hq⟩ := sat_ex.1 h
  exact ⟨q, sat_star.1 hq⟩
theorem viewO_close {B : World} {L : List HProp} {v m b q : Nat} {at_ : Int} {S : Iv} {w : World}
    (h : sat B (cells true v 0 [.pointer (some ⟨m, 0, none⟩), .pointer (some ⟨b, 0, none⟩), .int .i64 at_, .pointer (some ⟨q, 0, none⟩), .slice none 0 0] :: ivO q S :: L) w) : sat B (viewO v m b at_ S :: L) w :=
  sat_ex.2 ⟨q, sat_star.2 h⟩

theorem rs_new (m b : Nat) (at_ : Int) : Spec Tryz.prog 94 #[.pointer (some ⟨m, 0, none⟩), .pointer (some ⟨b, 0, none⟩), .int .i64 at_] []
    (fun v L => ∃ q, v = .pointer (some ⟨q, 0, none⟩) ∧ L = [viewO q m b at_ ⟨64, []⟩]) := by
  refine enter3 Tryz.func94 rfl (by decide) (by decide) ?_
  intro B F
  dsimp only [lcA, lnA]
  repeat' first | refine adv ?_ | refine Side.go ?_ | refine Giv.mk fun _ => ?_ | refine All.mk fun q => ?_ | refine Fork.mk ?_ ?_ | (refine Two.mk (fun h => ?_) (fun h => ?_) <;> try first | contradiction | (exfalso; omega))
  refine CallG.use (iv_new 64) ?_
  rintro r M ⟨s, rfl, rfl⟩
  dsimp only [lcA, lnA]
  repeat' first | refine adv ?_ | refine Side.go ?_ | refine Giv.mk fun _ => ?_ | refine All.mk fun q => ?_ | refine Fork.mk ?_ ?_ | (refine Two.mk (fun h => ?_) (fun h => ?_) <;> try first | contradiction | (exfalso; omega))
  refine endQ.oneW Tryz.results94 ⟨q, rfl, rfl⟩ (fun w h => viewO_close (q := s) ?_)
  exact goes w h

theorem rs_set (v m b : Nat) (at_ : Int) (S : Iv) (hS : S.l = []) : Spec Tryz.prog 140 #[.pointer (some ⟨v, 0, none⟩)] [viewO v m b at_ S]
    (fun r L => ∃ q, r = .pointer (some ⟨q, 0, none⟩) ∧ L = [viewO v m b at_ S, ivO q ⟨64, []⟩]) := by
  refine enter1 Tryz.func140 rfl (by decide) (by decide) ?_
  intro B F
  dsimp only [lcA, lnA]
  refine Sy_all (fun w h => viewO_open h) (fun s => ?_)
  repeat' first | refine adv ?_ | refine Side.go ?_ | refine Giv.mk fun _ => ?_ | refine All.mk fun q => ?_ | refine Fork.mk ?_ ?_ | (refine Two.mk (fun h => ?_) (fun h => ?_) <;> try first | contradiction | (exfalso; omega))
  refine CallG.use (iv_new 64) ?_
  rintro r M ⟨q, rfl, rfl⟩
  dsimp only [lcA, lnA]
  repeat' first | refine adv ?_ | refine Side.go ?_ | refine Giv.mk fun _ => ?_ | refine All.mk fun q => ?_ | refine Fork.mk ?_ ?_ | (refine Two.mk (fun h => ?_) (fun h => ?_) <;> try first | contradiction | (exfalso; omega))
  refine CallG.use (iv_extents s S (by rw [hS]; simp)) ?_
  rintro r M ⟨a, c, rfl, rfl⟩
  dsimp only [lcA, lnA]
  rw [hS]
  repeat' first | refine adv ?_ | refine Side.go ?_ | refine Giv.mk fun _ => ?_ | refine All.mk fun q => ?_ | refine Fork.mk ?_ ?_ | (refine Two.mk (fun h => ?_) (fun h => ?_) <;> try first | contradiction | (exfalso; omega))
  refine CallG.freeze (⟨a, c, []⟩ : Sl ExR) ?_
  refine CallG.use (iv_add0 q ⟨64, []⟩ a c) ?_
  rintro r M ⟨rfl, rfl⟩
  dsimp only [lcA, lnA]
  repeat' first | refine adv ?_ | refine Side.go ?_ | refine Giv.mk fun _ => ?_ | refine All.mk fun q => ?_ | refine Fork.mk ?_ ?_ | (refine Two.mk (fun h => ?_) (fun h => ?_) <;> try first | contradiction | (exfalso; omega))
  refine endQ.oneW Tryz.results140 ⟨q, rfl, rfl⟩ (fun w h => viewO_close (q := s) ?_)
  exact goes w h

/-- The blocks that were written: one, or none. -/
theorem wb_set1 (b : Nat) (W : Wb) (k : Int) (d : List UInt8) (hW : W.vs = [(k, d)]) (hk : 0 ≤ k ∧ k ≤ 1048575) :
    Spec Tryz.prog 141 #[.pointer (some ⟨b, 0, none⟩)] [wbO b W] (fun r L => ∃ q, r = .pointer (some ⟨q, 0, none⟩) ∧ L = [wbO b W, ivO q ⟨1, [⟨k, 1⟩]⟩]) := by
  refine enter1 Tryz.func141 rfl (by decide) (by decide) ?_
  intro B F
  dsimp only [lcA, lnA]
  repeat' first | refine adv ?_ | refine Side.go ?_ | refine Giv.mk fun _ => ?_ | refine All.mk fun q => ?_ | refine Fork.mk ?_ ?_ | (refine Two.mk (fun h => ?_) (fun h => ?_) <;> try first | contradiction | (exfalso; omega))
  refine CallG.use (wb_puts b W (by rw [hW]; intro e he; rw [List.mem_singleton.1 he]; constructor <;> dsimp only <;> omega) (by rw [hW]; simp)) ?_
  rintro r M ⟨t, ht, rfl, rfl⟩
  dsimp only [lcA, lnA]
  obtain ⟨a, c, xs⟩ := t
  dsimp only at ht
  obtain ⟨x, rfl, hxk⟩ : ∃ x : PutR, xs = [x] ∧ x.lba = k := by
    rw [show W.puts = [(k, d)] from by unfold Wb.puts; rw [hW]; simp [sortI, vget]] at ht
    rcases xs with _ | ⟨x, _ | ⟨y, l⟩⟩
    · cases ht
    · exact ⟨x, rfl, congrArg Prod.fst (List.singleton_inj.1 ht)⟩
    · cases ht
  repeat' first | refine adv ?_ | refine Side.go ?_ | refine Giv.mk fun _ => ?_ | refine All.mk fun q => ?_ | refine Fork.mk ?_ ?_ | (refine Two.mk (fun h => ?_) (fun h => ?_) <;> try first | contradiction | (exfalso; omega))
  refine CallG.use (iv_new 1) ?_
  rintro r M ⟨q', rfl, rfl⟩
  dsimp only [lcA, lnA]
  repeat' first | refine adv ?_ | refine Side.go ?_ | refine Giv.mk fun _ => ?_ | refine All.mk fun q => ?_ | refine Fork.mk ?_ ?_ | (refine Two.mk (fun h => ?_) (fun h => ?_) <;> try first | contradiction | (exfalso; omega))
  refine Sy_loop (ι := {st : Nat × List ExR // st.1 ≤ 1 ∧ st.2 = if st.1 = 0 then [] else [⟨k, 1⟩]})
    (fun st => [(14, .int .i64 st.1.1), (13, .int .i64 1), (12, .slice a 1 c), (4, .pointer (some ⟨q', 0, none⟩))])
    (fun st => wbO b W :: ownS (⟨a, c, [x]⟩ : Sl PutR) :: ivO q' ⟨1, st.1.2⟩ :: F) (fun st => 1 - st.1.1) ⟨(0, []), by decide, rfl⟩ (evs rfl (evs rfl (evs rfl (evs rfl .nil)))) (fun w h => goes w h) ?_
  rintro ⟨⟨j, l⟩, hj, hl⟩ env
  dsimp only [upds] at hj hl ⊢
  by_cases hj2 : j < 1
  · have hj0 : j = 0 := by omega
    rw [if_pos hj0] at hl
    subst hl
    repeat' first | refine adv ?_ | refine Side.go ?_ | refine Giv.mk fun _ => ?_ | refine All.mk fun q => ?_ | refine Fork.mk ?_ ?_ | (refine Two.mk (fun h => ?_) (fun h => ?_) <;> try first | contradiction | (exfalso; omega))
    have hx0 : (⟨a, c, [x]⟩ : Sl PutR).xs[j].lba = k := by subst hj0; exact hxk
    rw [hx0]
    refine CallG_conv (L' := roS (⟨some ⟨q, 0, none⟩, 1, [⟨k, 1⟩]⟩ : Sl ExR) :: wbO b W :: ownS (⟨a, c, [x]⟩ : Sl PutR) :: ivO q' ⟨1, []⟩ :: F) (fun B w h => ?_) ?_
    · exact roS_lit [(⟨k, 1⟩ : ExR)] [.int .i64 k, .int .i64 1] rfl (fun _ _ => trivial) (by simp) (by simp) (goes w h)
    refine CallG.use (iv_add1 q' ⟨1, []⟩ rfl (by decide) ⟨k, 1⟩ (by simp [mayB]; omega) (some ⟨q, 0, none⟩) 1) ?_
    rintro r M ⟨rfl, rfl⟩
    dsimp only [lcA, lnA]
    repeat' first | refine adv ?_ | refine Side.go ?_ | refine Giv.mk fun _ => ?_ | refine All.mk fun q => ?_ | refine Fork.mk ?_ ?_ | (refine Two.mk (fun h => ?_) (fun h => ?_) <;> try first | contradiction | (exfalso; omega))
    refine loopQ.next ⟨(j + 1, [⟨k, 1⟩]), by dsimp only; omega, rfl⟩ (by simp only []; omega) (evs rfl (evs rfl (evs rfl (evs rfl .nil)))) (fun w h => by dsimp only; exact goes w h)
  · have hj1 : j = 1 := by omega
    rw [if_neg (by omega)] at hl
    subst hl
    repeat' first | refine adv ?_ | refine Side.go ?_ | refine Giv.mk fun _ => ?_ | refine All.mk fun q => ?_ | refine Fork.mk ?_ ?_ | (refine Two.mk (fun h => ?_) (fun h => ?_) <;> try first | contradiction | (exfalso; omega))
    refine endQ.oneW Tryz.results141 ⟨q', rfl, rfl⟩ (fun w h => goes w h)
end Go.SL
namespace Go.SL
open Go.Proofs
set_option synthInstance.maxSize 4000
set_option synthInstance.maxHeartbeats 400000
set_option maxRecDepth 4000
set_option maxHeartbeats 2000000

/-- An array's part. -/
class AtA (cs : Array Value) (j : Nat) (y : outParam Value) : Prop where h : cs[j]? = some y
section
variable {P : Program} {env : Env} {ty : TypeId}
instance cexec_indexVal (t el : TypeId) (x i : Operand) (cs : Array Value) (n j : Nat) (k : IntKind) (idx : Int) (y : Value) [ex : EvO env x (.agg cs)] [ei : EvO env i (.int k idx)] [u : TUnd P t (.array n el)] [ta : TAgg P el false] [z : TSize P el 1] [nj : ToNat idx j] [at_ : AtA cs j y] :
    CExec P (.index t x i) ty env (0 ≤ idx ∧ idx < n) y := ⟨fun dst pos after guard w h => by
  have hn : idx.toNat = j := nj.h
  simp only [execOp, ex.h, ei.h, Instr.index, asIntOf, Sem.run_bind, Sem.run_pure, Result.andThen_ok, u.run]
  simp only [h, hn, z.h, part, Nat.mul_one, Sem.run_bind, Result.andThen_ok, and_self, if_true, ta.h, at_.h, Sem.run_pure]
  simp⟩
end

def hitE (E : Em) (at_ : Int) (x : ExR) : Bool := E.written x.f (min x.n 1048576) at_ || E.written (x.f + x.n - 1) 1 at_
def checkE (E : Em) (at_ : Int) (R W : Iv) : Int := if sumN W.l = 0 then 0 else if (R.l ++ W.l).any (hitE E at_) then 8 else 0

theorem valid_check (m r w : Nat) (E : Em) (R W : Iv) (at_ : Int) (qa : Option Addr) (qc : Nat) (hk : ∀ e ∈ E.vs, I64 e.1 ∧ 0 < e.2.length ∧ e.2.length ≤ 2000000)
    (hR : R.l.length ≤ 1000000) (hW : W.l.length ≤ 1000000) (hR2 : ∀ e ∈ R.l, (0 ≤ e.f ∧ e.f ≤ 1048576) ∧ 0 ≤ e.n ∧ e.n ≤ 1048576) (hW2 : ∀ e ∈ W.l, (0 ≤ e.f ∧ e.f ≤ 1048576) ∧ 0 ≤ e.n ∧ e.n ≤ 1048576) :
    Spec Tryz.prog 139 #[.pointer (some ⟨m, 0, none⟩), .slice qa 0 qc, .int .i64 at_, .pointer (some ⟨r, 0, none⟩), .pointer (some ⟨w, 0, none⟩)] [emO m E, ivO r R, ivO w W]
      (fun v L => v = .int .i64 (checkE E at_ R W) ∧ L = [emO m E, ivO r R, ivO w W]) := by
  refine enter5 Tryz.func139 rfl (by decide) (by decide) ?_
  intro B F
  dsimp only [lcA, lnA]
  repeat' first | refine adv ?_ | refine Side.go ?_ | refine Giv.mk fun _ => ?_ | refine All.mk fun q => ?_ | refine Fork.mk ?_ ?_ | (refine Two.mk (fun h => ?_) (fun h => ?_) <;> try first | contradiction | (exfalso; omega))
  refine CallG.use (iv_count w W hW (fun e he => ⟨(hW2 e he).2.1, by have := (hW2 e he).2.2; omega⟩)) ?_
  rintro r M ⟨rfl, rfl⟩
  dsimp only [lcA, lnA]
  repeat' first | refine adv ?_ | refine Side.go ?_ | refine Giv.mk fun _ => ?_ | refine All.mk fun q => ?_ | refine Fork.mk ?_ ?_ | (refine Two.mk (fun h => ?_) (fun h => ?_) <;> try first | contradiction | (exfalso; omega))
  · have hz := h
    exact endQ.oneW Tryz.results139 ⟨by rw [checkE, if_pos hz], rfl⟩ (fun w h => goes w h)
  have hz := h
  refine Sy_loop (ι := {j : Nat // j ≤ 2 ∧ (if j = 0 then [] else if j = 1 then R.l else R.l ++ W.l).any (hitE E at_) = false})
    (fun j => [(25, .int .i64 j.1), (24, .agg #[.pointer (some ⟨r, 0, none⟩), .pointer (some ⟨w, 0, none⟩)]), (11, .int .i64 0), (0, .pointer (some ⟨m, 0, none⟩)), (1, .slice qa 0 qc), (2, .int .i64 at_)])
    (fun _ => emO m E :: ivO r R :: ivO w W :: F) (fun j => 2 - j.1) ⟨0, by decide, rfl⟩ (evs rfl (evs rfl (evs rfl (evs rfl (evs rfl (evs rfl .nil)))))) (fun w h => goes w h) ?_
  rintro ⟨j, hj, hno⟩ env
  dsimp only [upds] at hj hno ⊢
  by_cases hj2 : j < 2
  · obtain ⟨s, S, s', S', hat, hp1, hp2, hSl, hS2, hS3⟩ : ∃ s S s' S', AtA #[.pointer (some ⟨r, 0, none⟩), .pointer (some ⟨w, 0, none⟩)] j (.pointer (some ⟨s, 0, none⟩)) ∧
        (∀ B w' L, sat B (ivO r R :: ivO w W :: L) w' → sat B (ivO s S :: ivO s' S' :: L) w') ∧ (∀ B w' L, sat B (ivO s S :: ivO s' S' :: L) w' → sat B (ivO r R :: ivO w W :: L) w') ∧ S.l = (if j = 0 then R.l else W.l) ∧ S.l.length ≤ 1000000 ∧ (∀ e ∈ S.l, (0 ≤ e.f ∧ e.f ≤ 1048576) ∧ 0 ≤ e.n ∧ e.n ≤ 1048576) := by
      rcases j with _ | _ | j
      · exact ⟨r, R, w, W, ⟨rfl⟩, fun _ _ _ h => h, fun _ _ _ h => h, rfl, hR, hR2⟩
      · exact ⟨w, W, r, R, ⟨rfl⟩, fun _ _ _ h => h.perm (.swap _ _ _), fun _ _ _ h => h.perm (.swap _ _ _), rfl, hW, hW2⟩
      · omega
    haveI := hat
    have fin : ∀ w', sat B (ivO s S :: ivO s' S' :: emO m E :: F) w' → sat B (emO m E :: ivO r R :: ivO w W :: F) w' := fun w' h => (hp2 B w' _ h).perm (.trans (.cons _ (.swap _ _ _)) (.swap _ _ _))
    refine Sy_conv (L' := ivO s S :: ivO s' S' :: emO m E :: F) (fun w' h => hp1 B w' _ (goes w' h)) ?_
    repeat' first | refine adv ?_ | refine Side.go ?_ | refine Giv.mk fun _ => ?_ | refine All.mk fun q => ?_ | refine Fork.mk ?_ ?_ | (refine Two.mk (fun h => ?_) (fun h => ?_) <;> try first | contradiction | (exfalso; omega))
    refine CallG.use (iv_extents s S hS2) ?_
    rintro r M ⟨a, c, rfl, rfl⟩
    dsimp only [lcA, lnA]
    repeat' first | refine adv ?_ | refine Side.go ?_ | refine Giv.mk fun _ => ?_ | refine All.mk fun q => ?_ | refine Fork.mk ?_ ?_ | (refine Two.mk (fun h => ?_) (fun h => ?_) <;> try first | contradiction | (exfalso; omega))
    refine Sy_loop (ι := {k : Nat // k ≤ S.l.length ∧ (S.l.take k).any (hitE E at_) = false})
      (fun k => [(31, .int .i64 k.1), (30, .int .i64 S.l.length), (29, .slice a S.l.length c), (25, .int .i64 j), (24, .agg #[.pointer (some ⟨r, 0, none⟩), .pointer (some ⟨w, 0, none⟩)]), (13, .pointer (some ⟨s, 0, none⟩)), (11, .int .i64 0), (0, .pointer (some ⟨m, 0, none⟩)), (1, .slice qa 0 qc), (2, .int .i64 at_)])
      (fun _ => ownS (⟨a, c, S.l⟩ : Sl ExR) :: ivO s S :: ivO s' S' :: emO m E :: F) (fun k => S.l.length - k.1) ⟨0, Nat.zero_le _, rfl⟩ (evs rfl (evs rfl (evs rfl (evs rfl (evs rfl (evs rfl (evs rfl (evs rfl (evs rfl (evs rfl .nil)))))))))) (fun w h => goes w h) ?_
    rintro ⟨k, hk1, hk2⟩ env
    dsimp only [upds] at hk1 hk2 ⊢
    by_cases hk3 : k < S.l.length
    · have hb := hS3 S.l[k] (List.getElem_mem hk3)
      have hta : (S.l.take (k + 1)).any (hitE E at_) = hitE E at_ S.l[k] := by rw [List.take_succ_eq_append_getElem hk3, List.any_append, hk2]; simp
      have hall : hitE E at_ S.l[k] = true → (R.l ++ W.l).any (hitE E at_) = true := fun h => by
        rw [List.any_append, Bool.or_eq_true]
        have : S.l.any (hitE E at_) = true := List.any_eq_true.2 ⟨_, List.getElem_mem hk3, h⟩
        rw [hSl] at this
        split at this
        · exact .inl this
        · exact .inr this
      repeat' first | refine adv ?_ | refine Side.go ?_ | refine Giv.mk fun _ => ?_ | refine All.mk fun q => ?_ | refine Fork.mk ?_ ?_ | (refine Two.mk (fun h => ?_) (fun h => ?_) <;> try first | contradiction | (exfalso; omega))
      refine CallG.use (ext_written m E S.l[k].f (min S.l[k].n 1048576) at_ hk) ?_
      rintro r M ⟨rfl, rfl⟩
      dsimp only [lcA, lnA]
      cases h1 : E.written S.l[k].f (min S.l[k].n 1048576) at_ with
      | true =>
        have hh : hitE E at_ S.l[k] = true := by rw [hitE, h1, Bool.true_or]
        repeat' first | refine adv ?_ | refine Side.go ?_ | refine Giv.mk fun _ => ?_ | refine All.mk fun q => ?_ | refine Fork.mk ?_ ?_ | (refine Two.mk (fun h => ?_) (fun h => ?_) <;> try first | contradiction | (exfalso; omega))
        exact endQ.oneW Tryz.results139 ⟨by rw [checkE, if_neg hz, if_pos (hall hh)], rfl⟩ (fun w h => fin w (goes w h))
      | false =>
        repeat' first | refine adv ?_ | refine Side.go ?_ | refine Giv.mk fun _ => ?_ | refine All.mk fun q => ?_ | refine Fork.mk ?_ ?_ | (refine Two.mk (fun h => ?_) (fun h => ?_) <;> try first | contradiction | (exfalso; omega))
        refine CallG.use (ext_written m E (S.l[k].f + S.l[k].n - 1) 1 at_ hk) ?_
        rintro r M ⟨rfl, rfl⟩
        dsimp only [lcA, lnA]
        cases h2 : E.written (S.l[k].f + S.l[k].n - 1) 1 at_ with
        | true =>
          have hh : hitE E at_ S.l[k] = true := by rw [hitE, h2, Bool.or_true]
          repeat' first | refine adv ?_ | refine Side.go ?_ | refine Giv.mk fun _ => ?_ | refine All.mk fun q => ?_ | refine Fork.mk ?_ ?_ | (refine Two.mk (fun h => ?_) (fun h => ?_) <;> try first | contradiction | (exfalso; omega))
          exact endQ.oneW Tryz.results139 ⟨by rw [checkE, if_neg hz, if_pos (hall hh)], rfl⟩ (fun w h => fin w (goes w h))
        | false =>
          have hh : hitE E at_ S.l[k] = false := by rw [hitE, h1, h2, Bool.or_false]
          repeat' first | refine adv ?_ | refine Side.go ?_ | refine Giv.mk fun _ => ?_ | refine All.mk fun q => ?_ | refine Fork.mk ?_ ?_ | (refine Two.mk (fun h => ?_) (fun h => ?_) <;> try first | contradiction | (exfalso; omega))
          refine loopQ.next ⟨k + 1, by omega, by rw [hta, hh]⟩ (by simp only []; omega) (evs rfl (evs rfl (evs rfl (evs rfl (evs rfl (evs rfl (evs rfl (evs rfl (evs rfl (evs rfl .nil)))))))))) (fun w h => goes w h)
    · have hk4 : k = S.l.length := by omega
      subst hk4
      rw [List.take_length] at hk2
      repeat' first | refine adv ?_ | refine Side.go ?_ | refine Giv.mk fun _ => ?_ | refine All.mk fun q => ?_ | refine Fork.mk ?_ ?_ | (refine Two.mk (fun h => ?_) (fun h => ?_) <;> try first | contradiction | (exfalso; omega))
      refine Sy_loop (ι := Unit)
        (fun _ => [(59, .int .i64 0), (58, .int .i64 0), (25, .int .i64 j), (24, .agg #[.pointer (some ⟨r, 0, none⟩), .pointer (some ⟨w, 0, none⟩)]), (11, .int .i64 0), (0, .pointer (some ⟨m, 0, none⟩)), (1, .slice qa 0 qc), (2, .int .i64 at_)])
        (fun _ => ownS (⟨a, c, S.l⟩ : Sl ExR) :: ivO s S :: ivO s' S' :: emO m E :: F) (fun _ => 0) () (evs rfl (evs rfl (evs rfl (evs rfl (evs rfl (evs rfl (evs rfl (evs rfl .nil)))))))) (fun w h => goes w h) ?_
      rintro ⟨⟩ env
      dsimp only [upds]
      repeat' first | refine adv ?_ | refine Side.go ?_ | refine Giv.mk fun _ => ?_ | refine All.mk fun q => ?_ | refine Fork.mk ?_ ?_ | (refine Two.mk (fun h => ?_) (fun h => ?_) <;> try first | contradiction | (exfalso; omega))
      refine loopQ.next ⟨j + 1, by omega, ?_⟩ (by simp only []; omega) (evs rfl (evs rfl (evs rfl (evs rfl (evs rfl (evs rfl .nil)))))) (fun w' h => ?_)
      · rcases j with _ | _ | j
        · rw [if_neg (by omega), if_pos rfl]; rw [hSl, if_pos rfl] at hk2; exact hk2
        · rw [if_neg (by omega), if_neg (by omega), List.any_append]
          rw [hSl, if_neg (by omega)] at hk2
          rw [if_neg (by omega), if_pos rfl] at hno
          rw [hk2, hno]; rfl
        · omega
      · exact fin w' (goes w' h)
  · have hj3 : j = 2 := by omega
    subst hj3
    repeat' first | refine adv ?_ | refine Side.go ?_ | refine Giv.mk fun _ => ?_ | refine All.mk fun q => ?_ | refine Fork.mk ?_ ?_ | (refine Two.mk (fun h => ?_) (fun h => ?_) <;> try first | contradiction | (exfalso; omega))
    refine endQ.oneW Tryz.results139 ⟨?_, rfl⟩ (fun w h => goes w h)
    rw [checkE, if_neg hz, if_neg (by rw [← Bool.not_eq_true] at hno; exact hno)]
end Go.SL
namespace Go.SL
open Go.Proofs
set_option synthInstance.maxSize 4000
set_option synthInstance.maxHeartbeats 400000
set_option maxRecDepth 4000
set_option maxHeartbeats 2000000

def stepsGo : Int → List TV → Bool
  | _, [] => true
  | q, t :: ts => if 65535 < t.1 - q ∨ 16 < t.2.length ∨ t.2.any (fun p => !putOk p) = true then false else stepsGo t.1 ts
def checkB (num : Int) (l : List TV) : Bool :=
  if num < 1 ∨ 1099511627776 < num ∨ l.length = 0 ∨ 8 < l.length ∨ orderOk 0 l = false ∨ 33 < blocksN l then false else stepsGo (l.head?.getD (0, [])).1 l
theorem orderOk_mem : ∀ {l : List TV} {last : Int}, 0 ≤ last → orderOk last l = true → ∀ t ∈ l, 0 < t.1 ∧ t.1 ≤ 1099511627776
  | [], _, _, _, _, h => by cases h
  | t :: ts, last, h0, h, x, hx => by
    rw [orderOk] at h
    split at h
    · cases h
    · rename_i hn
      rw [Bool.and_eq_true] at h
      rcases List.mem_cons.1 hx with rfl | hx
      · omega
      · exact orderOk_mem (by omega) h.2 x hx

theorem checkB_no {num : Int} {l : List TV} (h : num < 1 ∨ 1099511627776 < num ∨ l.length = 0 ∨ 8 < l.length ∨ orderOk 0 l = false ∨ 33 < blocksN l) : (if checkB num l then (0 : Int) else 1) = 1 := by
  rw [checkB, if_pos h]; rfl
theorem checkB_yes {num : Int} {l : List TV} (h : ¬ (num < 1 ∨ 1099511627776 < num ∨ l.length = 0 ∨ 8 < l.length ∨ orderOk 0 l = false ∨ 33 < blocksN l)) : checkB num l = stepsGo (l.head?.getD (0, [])).1 l := by
  rw [checkB, if_neg h]

theorem batch_check (num : Int) (s : Sl TxR) : Spec Tryz.prog 142 #[.agg #[.int .i64 num, s.val]] [roS s] (fun v L => v = .int .i64 (if checkB num (s.xs.map TxR.v) then 0 else 1) ∧ L = []) := by
  refine enter1 Tryz.func142 rfl (by decide) (by decide) ?_
  intro B F
  dsimp only [lcA, lnA]
  refine Sy_know (fun B w h => ro_ok s B w h) (fun hs => ?_)
  have hsl := hs.len
  repeat' first | refine adv ?_ | refine Side.go ?_ | refine Giv.mk fun _ => ?_ | refine All.mk fun q => ?_ | refine Fork.mk ?_ ?_ | (refine Two.mk (fun h => ?_) (fun h => ?_) <;> try first | contradiction | (exfalso; omega))
  · exact endQ.one Tryz.results142 ⟨by rw [checkB_no (by omega)], rfl⟩
  · exact endQ.one Tryz.results142 ⟨by rw [checkB_no (by omega)], rfl⟩
  · exact endQ.one Tryz.results142 ⟨by rw [checkB_no (by rw [List.length_map]; omega)], rfl⟩
  · exact endQ.one Tryz.results142 ⟨by rw [checkB_no (by rw [List.length_map]; omega)], rfl⟩
  refine CallG.use (valid_order s) ?_
  rintro r M ⟨rfl, rfl⟩
  dsimp only [lcA, lnA]
  cases hord : orderOk 0 (s.xs.map TxR.v) with
  | false =>
    repeat' first | refine adv ?_ | refine Side.go ?_ | refine Giv.mk fun _ => ?_ | refine All.mk fun q => ?_ | refine Fork.mk ?_ ?_ | (refine Two.mk (fun h => ?_) (fun h => ?_) <;> try first | contradiction | (exfalso; omega))
    exact endQ.one Tryz.results142 ⟨by rw [checkB_no (.inr (.inr (.inr (.inr (.inl hord)))))], rfl⟩
  | true =>
    repeat' first | refine adv ?_ | refine Side.go ?_ | refine Giv.mk fun _ => ?_ | refine All.mk fun q => ?_ | refine Fork.mk ?_ ?_ | (refine Two.mk (fun h => ?_) (fun h => ?_) <;> try first | contradiction | (exfalso; omega))
    refine CallG.use (batch_blocks num s (by omega)) ?_
    rintro r M ⟨rfl, rfl⟩
    dsimp only [lcA, lnA]
    repeat' first | refine adv ?_ | refine Side.go ?_ | refine Giv.mk fun _ => ?_ | refine All.mk fun q => ?_ | refine Fork.mk ?_ ?_ | (refine Two.mk (fun h => ?_) (fun h => ?_) <;> try first | contradiction | (exfalso; omega))
    · exact endQ.one Tryz.results142 ⟨by rw [checkB_no (by omega)], rfl⟩
    have hyes : checkB num (s.xs.map TxR.v) = stepsGo ((s.xs.map TxR.v).head?.getD (0, [])).1 (s.xs.map TxR.v) := checkB_yes (by rw [List.length_map, hord]; simp only [Bool.true_eq_false, false_or, or_false]; omega)
    have hmem := orderOk_mem (l := s.xs.map TxR.v) (Int.le_refl 0) hord
    have htm : ∀ j (hj : j < s.xs.length), 0 < s.xs[j].time ∧ s.xs[j].time ≤ 1099511627776 := fun j hj => hmem s.xs[j].v (List.mem_map.2 ⟨_, List.getElem_mem hj, rfl⟩)
    refine Sy_loop (ι := {k : Nat // k ≤ s.xs.length ∧ checkB num (s.xs.map TxR.v) = stepsGo (s.xs[k - 1]?.map TxR.time |>.getD 0) ((s.xs.map TxR.v).drop k)})
      (fun k => [(39, .int .i64 k.1), (38, .int .i64 s.xs.length), (37, s.val), (1, .pointer (some ⟨q, 0, none⟩))]) (fun _ => cells true q 0 [.int .i64 num, s.val] :: roS s :: F) (fun k => s.xs.length - k.1) ⟨0, Nat.zero_le _, ?_⟩ (evs rfl (evs rfl (evs rfl (evs rfl .nil)))) (fun w h => goes w h) ?_
    · rw [hyes, List.drop_zero, List.head?_map, List.head?_eq_getElem?]
      cases s.xs[0]? <;> rfl
    rintro ⟨k, hk, hgo⟩ env
    dsimp only [upds] at hk hgo ⊢
    by_cases hk2 : k < s.xs.length
    · refine Sy_conv (L' := roS s.xs[k].ps :: cells true q 0 [.int .i64 num, s.val] :: roS s :: F) (fun w h => goes w (ro_pull_tx hk2 (h.perm (.swap _ _ _)))) ?_
      refine Sy_know (fun B w h => ro_ok s.xs[k].ps B w h) (fun hp => ?_)
      have hpl := hp.len
      have hst := hgo
      have hk1 := htm k hk2
      have hk0 : k - 1 < s.xs.length := by omega
      have hkm := htm (k - 1) hk0
      rw [List.drop_eq_getElem_cons (by simpa using hk2), List.getElem_map, stepsGo, List.getElem?_eq_getElem hk0] at hst
      dsimp only [TxR.v, Option.map_some, Option.getD_some] at hst
      simp only [List.length_map] at hst
      have hix : ((k : Int) - 1).toNat = k - 1 := by omega
      by_cases hk00 : k = 0
      · have hq0 : s.xs[k].time - s.xs[k - 1].time = 0 := by subst hk00; simp
        repeat' first | refine adv ?_ | refine Side.go ?_ | refine Giv.mk fun _ => ?_ | refine All.mk fun q => ?_ | refine Fork.mk ?_ ?_ | (refine Two.mk (fun h => ?_) (fun h => ?_) <;> try first | contradiction | (exfalso; omega))
        · rw [if_pos (by omega)] at hst
          exact endQ.one Tryz.results142 ⟨by rw [hst]; rfl, rfl⟩
        refine CallG.use (contains_put s.xs[k].ps 163 [] [] (fun p => !putOk p) (fun j hj => batch_check1 s.xs[k].ps.xs[j].lba s.xs[k].ps.xs[j].d)) ?_
        rintro r M ⟨rfl, rfl⟩
        dsimp only [lcA, lnA]
        cases hany : (s.xs[k].ps.xs.map PutR.v).any (fun p => !putOk p) with
        | true =>
          repeat' first | refine adv ?_ | refine Side.go ?_ | refine Giv.mk fun _ => ?_ | refine All.mk fun q => ?_ | refine Fork.mk ?_ ?_ | (refine Two.mk (fun h => ?_) (fun h => ?_) <;> try first | contradiction | (exfalso; omega))
          rw [if_pos (.inr (.inr hany))] at hst
          exact endQ.one Tryz.results142 ⟨by rw [hst]; rfl, rfl⟩
        | false =>
          repeat' first | refine adv ?_ | refine Side.go ?_ | refine Giv.mk fun _ => ?_ | refine All.mk fun q => ?_ | refine Fork.mk ?_ ?_ | (refine Two.mk (fun h => ?_) (fun h => ?_) <;> try first | contradiction | (exfalso; omega))
          rw [if_neg (by rw [hany]; simp only [Bool.false_eq_true, or_false]; omega)] at hst
          refine loopQ.next ⟨k + 1, by omega, ?_⟩ (by simp only []; omega) (evs rfl (evs rfl (evs rfl (evs rfl .nil)))) (fun w h => goes w h)
          rw [hst, show k + 1 - 1 = k from by omega, List.getElem?_eq_getElem hk2]
          rfl
      · repeat' first | refine adv ?_ | refine Side.go ?_ | refine Giv.mk fun _ => ?_ | refine All.mk fun q => ?_ | refine Fork.mk ?_ ?_ | (refine Two.mk (fun h => ?_) (fun h => ?_) <;> try first | contradiction | (exfalso; omega))
        simp only [hix]
        repeat' first | refine adv ?_ | refine Side.go ?_ | refine Giv.mk fun _ => ?_ | refine All.mk fun q => ?_ | refine Fork.mk ?_ ?_ | (refine Two.mk (fun h => ?_) (fun h => ?_) <;> try first | contradiction | (exfalso; omega))
        · rw [if_pos (by omega)] at hst
          exact endQ.one Tryz.results142 ⟨by rw [hst]; rfl, rfl⟩
        · rw [if_pos (by omega)] at hst
          exact endQ.one Tryz.results142 ⟨by rw [hst]; rfl, rfl⟩
        refine CallG.use (contains_put s.xs[k].ps 163 [] [] (fun p => !putOk p) (fun j hj => batch_check1 s.xs[k].ps.xs[j].lba s.xs[k].ps.xs[j].d)) ?_
        rintro r M ⟨rfl, rfl⟩
        dsimp only [lcA, lnA]
        cases hany : (s.xs[k].ps.xs.map PutR.v).any (fun p => !putOk p) with
        | true =>
          repeat' first | refine adv ?_ | refine Side.go ?_ | refine Giv.mk fun _ => ?_ | refine All.mk fun q => ?_ | refine Fork.mk ?_ ?_ | (refine Two.mk (fun h => ?_) (fun h => ?_) <;> try first | contradiction | (exfalso; omega))
          rw [if_pos (.inr (.inr hany))] at hst
          exact endQ.one Tryz.results142 ⟨by rw [hst]; rfl, rfl⟩
        | false =>
          repeat' first | refine adv ?_ | refine Side.go ?_ | refine Giv.mk fun _ => ?_ | refine All.mk fun q => ?_ | refine Fork.mk ?_ ?_ | (refine Two.mk (fun h => ?_) (fun h => ?_) <;> try first | contradiction | (exfalso; omega))
          rw [if_neg (by rw [hany]; simp only [Bool.false_eq_true, or_false]; omega)] at hst
          refine loopQ.next ⟨k + 1, by omega, ?_⟩ (by simp only []; omega) (evs rfl (evs rfl (evs rfl (evs rfl .nil)))) (fun w h => goes w h)
          rw [hst, show k + 1 - 1 = k from by omega, List.getElem?_eq_getElem hk2]
          rfl
    · have hk3 : k = s.xs.length := by omega
      subst hk3
      repeat' first | refine adv ?_ | refine Side.go ?_ | refine Giv.mk fun _ => ?_ | refine All.mk fun q => ?_ | refine Fork.mk ?_ ?_ | (refine Two.mk (fun h => ?_) (fun h => ?_) <;> try first | contradiction | (exfalso; omega))
      refine endQ.one Tryz.results142 ⟨?_, rfl⟩
      rw [hgo, List.drop_of_length_le (by simp)]
      rfl
end Go.SL
namespace Go.SL
open Go.Proofs
set_option synthInstance.maxSize 4000
set_option synthInstance.maxHeartbeats 400000
set_option maxRecDepth 4000
set_option maxHeartbeats 2000000

def encPuts (ep num : Nat) (l : List TV) : List (List UInt8) := l.flatMap fun t => t.2.map fun p => encB 1 ep num p.1.toNat p.2
def stepB : Int → List TV → List UInt8
  | _, [] => []
  | q, t :: ts => UInt8.ofNat (t.1 - q).toNat :: UInt8.ofNat ((t.1 - q).toNat / 256) :: stepB t.1 ts
def firstOf (l : List TV) : Int := (l.head?.getD (0, [])).1
def bodyOf (l : List TV) : List UInt8 := leB (firstOf l).toNat 8 ++ [UInt8.ofNat l.length] ++ stepB (firstOf l) l ++ l.map fun t => UInt8.ofNat t.2.length
def encBatch (ep num : Nat) (l : List TV) : List (List UInt8) := encPuts ep num l ++ [encB 2 ep num (encPuts ep num l).length (bodyOf l)]
theorem stepsGo_mem : ∀ {l : List TV} {q : Int}, stepsGo q l = true → ∀ t ∈ l, t.2.length ≤ 16 ∧ ∀ p ∈ t.2, (0 ≤ p.1 ∧ p.1 ≤ 1048576) ∧ p.2.length = 40
  | [], _, _, _, h => by cases h
  | t :: ts, q, h, x, hx => by
    rw [stepsGo] at h
    split at h
    · cases h
    · rename_i hn
      rcases List.mem_cons.1 hx with rfl | hx
      · refine ⟨by omega, fun p hp => ?_⟩
        have h2 : ¬ (x.2.any (fun p => !putOk p) = true) := fun h => hn (.inr (.inr h))
        rw [List.any_eq_true] at h2
        have h3 : putOk p = true := by
          cases hc : putOk p with
          | true => rfl
          | false => exact absurd ⟨p, hp, by rw [hc]; rfl⟩ h2
        simpa [putOk] using h3
      · exact stepsGo_mem h x hx
theorem stepsGo_step : ∀ {l : List TV} {q : Int}, stepsGo q l = true → ∀ i (h : i + 1 < l.length), l[i + 1].1 - l[i].1 ≤ 65535
  | [], _, _, _, h => by cases h
  | [_], _, _, _, h => by simp at h
  | t :: u :: ts, q, h, i, hi => by
    rw [stepsGo] at h
    split at h
    · cases h
    · rename_i hn
      cases i with
      | zero =>
        rw [stepsGo] at h
        split at h
        · cases h
        · simp only [List.getElem_cons_succ, List.getElem_cons_zero]; omega
      | succ i =>
        simp only [List.getElem_cons_succ]
        exact stepsGo_step h i (by simpa using hi)
theorem orderOk_step : ∀ {l : List TV} {q : Int}, orderOk q l = true → ∀ i (h : i + 1 < l.length), l[i].1 < l[i + 1].1
  | [], _, _, _, h => by cases h
  | [_], _, _, _, h => by simp at h
  | t :: u :: ts, q, h, i, hi => by
    rw [orderOk] at h
    split at h
    · cases h
    · rw [Bool.and_eq_true] at h
      cases i with
      | zero =>
        have h2 := h.2
        rw [orderOk] at h2
        split at h2
        · cases h2
        · simp only [List.getElem_cons_succ, List.getElem_cons_zero]; omega
      | succ i =>
        simp only [List.getElem_cons_succ]
        exact orderOk_step h.2 i (by simpa using hi)

/-- What a batch that may be written is. -/
structure GoodB (num : Int) (l : List TV) : Prop where
  num0 : 1 ≤ num
  num1 : num ≤ 1099511627776
  len0 : 1 ≤ l.length
  len1 : l.length ≤ 8
  blocks : blocksN l ≤ 33
  time : ∀ t ∈ l, 0 < t.1 ∧ t.1 ≤ 1099511627776
  step : ∀ i (h : i + 1 < l.length), l[i].1 < l[i + 1].1 ∧ l[i + 1].1 - l[i].1 ≤ 65535
  puts : ∀ t ∈ l, t.2.length ≤ 16 ∧ ∀ p ∈ t.2, (0 ≤ p.1 ∧ p.1 ≤ 1048576) ∧ p.2.length = 40
theorem checkB_good {num : Int} {l : List TV} (h : checkB num l = true) : GoodB num l := by
  have h1 : ¬ (num < 1 ∨ 1099511627776 < num ∨ l.length = 0 ∨ 8 < l.length ∨ orderOk 0 l = false ∨ 33 < blocksN l) := by
    intro hc; rw [checkB, if_pos hc] at h; cases h
  rw [checkB, if_neg h1] at h
  have ho : orderOk 0 l = true := by
    cases hc : orderOk 0 l with
    | true => rfl
    | false => exact absurd (.inr (.inr (.inr (.inr (.inl hc))))) h1
  exact ⟨by omega, by omega, by omega, by omega, by omega, orderOk_mem (Int.le_refl 0) ho, fun i hi => ⟨orderOk_step ho i hi, stepsGo_step h i hi⟩, stepsGo_mem h⟩

theorem byte_of (n : Nat) : ((n : Int) % 256) = (((UInt8.ofNat n).toNat : Nat) : Int) := by rw [UInt8.toNat_ofNat']; omega
theorem encPuts_cons (ep num : Nat) (t : TV) (l : List TV) : encPuts ep num (t :: l) = (t.2.map fun p => encB 1 ep num p.1.toNat p.2) ++ encPuts ep num l := rfl

theorem byte_sh (d : Nat) : ((d : Int) / 2 ^ 8 % 256) = (((UInt8.ofNat (d / 256)).toNat : Nat) : Int) := by
  rw [← byte_of (d / 256), show (2 : Int) ^ 8 = 256 from rfl]; omega

theorem batch_encode (num ep : Int) (s : Sl TxR) : Spec Tryz.prog 103 #[.agg #[.int .i64 num, s.val], .int .i64 ep] [roS s] (fun v L =>
    (¬ (checkB num (s.xs.map TxR.v) = true ∧ 0 ≤ ep ∧ ep ≤ 4294967295) ∧ v = .tuple #[.slice none 0 0, .int .i64 1] ∧ L = []) ∨
    ((checkB num (s.xs.map TxR.v) = true ∧ 0 ≤ ep ∧ ep ≤ 4294967295) ∧ ∃ o : Sl (Sl UInt8), raws o.xs = encBatch ep.toNat num.toNat (s.xs.map TxR.v) ∧ v = .tuple #[o.val, .int .i64 0] ∧ L = [ownS o])) := by
  refine enter2 Tryz.func103 rfl (by decide) (by decide) ?_
  intro B F
  dsimp only [lcA, lnA]
  refine Sy_know (fun B w h => ro_ok s B w h) (fun hs => ?_)
  have hsl := hs.len
  repeat' first | refine adv ?_ | refine Side.go ?_ | refine Giv.mk fun _ => ?_ | refine All.mk fun q => ?_ | refine Fork.mk ?_ ?_ | (refine Two.mk (fun h => ?_) (fun h => ?_) <;> try first | contradiction | (exfalso; omega))
  refine CallG.use (batch_check num s) ?_
  rintro r M ⟨rfl, rfl⟩
  dsimp only [lcA, lnA]
  obtain ⟨b0, hb0⟩ : ∃ p, p = q := ⟨q, rfl⟩
  subst hb0
  by_cases hck : checkB num (s.xs.map TxR.v) = true
  case neg =>
    rw [if_neg hck]
    repeat' first | refine adv ?_ | refine Side.go ?_ | refine Giv.mk fun _ => ?_ | refine All.mk fun q => ?_ | refine Fork.mk ?_ ?_ | (refine Two.mk (fun h => ?_) (fun h => ?_) <;> try first | contradiction | (exfalso; omega))
    exact endQ.two Tryz.results103 (.inl ⟨fun h => hck h.1, rfl, rfl⟩)
  · rw [if_pos hck]
    repeat' first | refine adv ?_ | refine Side.go ?_ | refine Giv.mk fun _ => ?_ | refine All.mk fun q => ?_ | refine Fork.mk ?_ ?_ | (refine Two.mk (fun h => ?_) (fun h => ?_) <;> try first | contradiction | (exfalso; omega))
    · exact endQ.two Tryz.results103 (.inl ⟨by omega, rfl, rfl⟩)
    · exact endQ.two Tryz.results103 (.inl ⟨by omega, rfl, rfl⟩)
    have hgd := checkB_good hck
    have hne : checkB num (s.xs.map TxR.v) = true ∧ 0 ≤ ep ∧ ep ≤ 4294967295 := ⟨hck, by omega, by omega⟩
    have hl0 := hgd.len0
    have hl1 := hgd.len1
    have hn0 := hgd.num0
    have hn1 := hgd.num1
    rw [List.length_map] at hl0 hl1
    obtain ⟨N, rfl⟩ := Int.eq_ofNat_of_zero_le (a := num) (by omega)
    obtain ⟨E, rfl⟩ := Int.eq_ofNat_of_zero_le (a := ep) (by omega)
    have htm : ∀ j (hj : j < s.xs.length), 0 < s.xs[j].time ∧ s.xs[j].time ≤ 1099511627776 := fun j hj => hgd.time s.xs[j].v (List.mem_map.2 ⟨_, List.getElem_mem hj, rfl⟩)
    have h0 := htm 0 (by omega)
    have hT : s.xs[0].time = ((s.xs[0].time.toNat : Nat) : Int) := by omega
    have hF : firstOf (s.xs.map TxR.v) = s.xs[0].time := by
      unfold firstOf
      rw [List.head?_eq_getElem?, List.getElem?_eq_getElem (by simp; omega), List.getElem_map]; rfl
    have hp64 := put64_spec s.xs[0].time.toNat
    rw [← hT] at hp64
    repeat' first | refine adv ?_ | refine Side.go ?_ | refine Giv.mk fun _ => ?_ | refine All.mk fun q => ?_ | refine Fork.mk ?_ ?_ | (refine Two.mk (fun h => ?_) (fun h => ?_) <;> try first | contradiction | (exfalso; omega))
    all_goals
      refine CallG.use hp64 ?_
      rintro r M ⟨a, c, rfl, rfl⟩
      dsimp only [lcA, lnA]
      have hlb : (leB s.xs[0].time.toNat 8).length = 8 := leB_length _ _
      repeat' first | refine adv ?_ | refine Side.go ?_ | refine Giv.mk fun _ => ?_ | refine All.mk fun q => ?_ | refine Fork.mk ?_ ?_ | (refine Two.mk (fun h => ?_) (fun h => ?_) <;> try first | contradiction | (exfalso; omega))
      rw [byte_of]
      refine AppG.one' (⟨a, c, leB s.xs[0].time.toNat 8⟩ : Sl UInt8) (UInt8.ofNat s.xs.length) (fun _ => trivial) (by dsimp only; omega) (fun a2 c2 => ?_)
      repeat' first | refine adv ?_ | refine Side.go ?_ | refine Giv.mk fun _ => ?_ | refine All.mk fun q => ?_ | refine Fork.mk ?_ ?_ | (refine Two.mk (fun h => ?_) (fun h => ?_) <;> try first | contradiction | (exfalso; omega))
      refine Sy_loop (ι := {st : Nat × Int × Sl (Sl UInt8) × Sl UInt8 // (st.1 ≤ s.xs.length ∧ st.2.2.1.xs.length ≤ 16 * st.1 ∧ st.2.2.2.xs.length = 9 + 2 * st.1) ∧
            raws st.2.2.1.xs ++ encPuts E N ((s.xs.map TxR.v).drop st.1) = encPuts E N (s.xs.map TxR.v) ∧
            st.2.2.2.xs ++ stepB st.2.1 ((s.xs.map TxR.v).drop st.1) = leB s.xs[0].time.toNat 8 ++ [UInt8.ofNat s.xs.length] ++ stepB s.xs[0].time (s.xs.map TxR.v) ∧
            st.2.1 = (s.xs[st.1 - 1]?.map TxR.time |>.getD 0)})
        (fun st => [(49, .int .i64 st.1.1), (48, .int .i64 s.xs.length), (47, s.val), (4, st.1.2.2.1.val), (7, st.1.2.2.2.val), (8, .int .i64 st.1.2.1), (1, .int .i64 E), (2, .pointer (some ⟨b0, 0, none⟩))])
        (fun st => ownS st.1.2.2.1 :: ownS st.1.2.2.2 :: cells true b0 0 [.int .i64 N, s.val] :: roS s :: F) (fun st => s.xs.length - st.1.1)
        ⟨(0, s.xs[0].time, ⟨none, 0, []⟩, ⟨a2, c2, leB s.xs[0].time.toNat 8 ++ [UInt8.ofNat s.xs.length]⟩), ⟨Nat.zero_le _, Nat.zero_le _, by simp [hlb]⟩, rfl, rfl, ?_⟩ (evs rfl (evs rfl (evs rfl (evs rfl (evs rfl (evs rfl (evs rfl (evs rfl .nil)))))))) (fun w h => ?_) ?_
      · dsimp only
        rw [List.getElem?_eq_getElem (show 0 - 1 < s.xs.length by omega)]
        rfl
      · dsimp only at h ⊢
        exact goes w (sat_true (own_nil (α := Sl UInt8)) h)
      rintro ⟨⟨k, last, out, body⟩, ⟨hk, hol, hbl⟩, hout, hbody, hlast⟩ env
      dsimp only [upds] at hk hol hbl hout hbody hlast ⊢
      by_cases hk2 : k < s.xs.length
      · refine Sy_conv (pull_tx s hk2) ?_
        refine Sy_know (fun B w h => ro_ok s.xs[k].ps B w h) (fun hps => ?_)
        have hpsl := hps.len
        have hkt := htm k hk2
        have hput := hgd.puts s.xs[k].v (List.mem_map.2 ⟨_, List.getElem_mem hk2, rfl⟩)
        dsimp only [TxR.v] at hput
        rw [List.length_map] at hput
        rw [List.drop_eq_getElem_cons (by simpa using hk2), List.getElem_map] at hout hbody
        rw [encPuts_cons] at hout
        rw [stepB] at hbody
        dsimp only [TxR.v] at hout hbody
        repeat' first | refine adv ?_ | refine Side.go ?_ | refine Giv.mk fun _ => ?_ | refine All.mk fun q => ?_ | refine Fork.mk ?_ ?_ | (refine Two.mk (fun h => ?_) (fun h => ?_) <;> try first | contradiction | (exfalso; omega))
        refine Sy_loop (ι := {st : Nat × Sl (Sl UInt8) // (st.1 ≤ s.xs[k].ps.xs.length ∧ st.2.xs.length = out.xs.length + st.1) ∧
              raws st.2.xs = raws out.xs ++ ((s.xs[k].ps.xs.take st.1).map PutR.v).map fun p => encB 1 E N p.1.toNat p.2})
          (fun st => [(56, .int .i64 st.1.1), (55, .int .i64 s.xs[k].ps.xs.length), (54, s.xs[k].ps.val), (4, st.1.2.val), (10, .pointer (some ⟨q, 0, none⟩)), (49, .int .i64 k), (48, .int .i64 s.xs.length), (47, s.val), (7, body.val), (8, .int .i64 last), (1, .int .i64 E), (2, .pointer (some ⟨b0, 0, none⟩))])
          (fun st => ownS st.1.2 :: cells true q 0 [.int .i64 s.xs[k].time, s.xs[k].ps.val] :: roS s.xs[k].ps :: ownS body :: cells true b0 0 [.int .i64 N, s.val] :: roS s :: F) (fun st => s.xs[k].ps.xs.length - st.1.1)
          ⟨(0, out), ⟨Nat.zero_le _, rfl⟩, by simp⟩ (evs rfl (evs rfl (evs rfl (evs rfl (evs rfl (evs rfl (evs rfl (evs rfl (evs rfl (evs rfl (evs rfl (evs rfl .nil)))))))))))) (fun w h => goes w h) ?_
        rintro ⟨⟨i, o2⟩, ⟨hi, ho2l⟩, ho2⟩ env
        dsimp only [upds] at hi ho2l ho2 ⊢
        by_cases hi2 : i < s.xs[k].ps.xs.length
        · refine Sy_conv (pull_put s.xs[k].ps hi2) ?_
          have hpi := hput.2 s.xs[k].ps.xs[i].v (List.mem_map.2 ⟨_, List.getElem_mem hi2, rfl⟩)
          dsimp only [PutR.v] at hpi
          have hlba : s.xs[k].ps.xs[i].lba = ((s.xs[k].ps.xs[i].lba.toNat : Nat) : Int) := by omega
          have henc := frame_encode 1 E N s.xs[k].ps.xs[i].lba.toNat s.xs[k].ps.xs[i].d
          rw [← hlba] at henc
          repeat' first | refine adv ?_ | refine Side.go ?_ | refine Giv.mk fun _ => ?_ | refine All.mk fun q => ?_ | refine Fork.mk ?_ ?_ | (refine Two.mk (fun h => ?_) (fun h => ?_) <;> try first | contradiction | (exfalso; omega))
          refine CallG.use henc ?_
          rintro v M (⟨-, a3, c3, rfl, rfl⟩ | ⟨hno, -⟩)
          · dsimp only [lcA, lnA]
            repeat' first | refine adv ?_ | refine Side.go ?_ | refine Giv.mk fun _ => ?_ | refine All.mk fun q => ?_ | refine Fork.mk ?_ ?_ | (refine Two.mk (fun h => ?_) (fun h => ?_) <;> try first | contradiction | (exfalso; omega))
            refine AppG.oneS o2 (⟨a3, c3, encB 1 E N s.xs[k].ps.xs[i].lba.toNat s.xs[k].ps.xs[i].d.xs⟩ : Sl UInt8) (by omega) (fun a4 c4 => ?_)
            repeat' first | refine adv ?_ | refine Side.go ?_ | refine Giv.mk fun _ => ?_ | refine All.mk fun q => ?_ | refine Fork.mk ?_ ?_ | (refine Two.mk (fun h => ?_) (fun h => ?_) <;> try first | contradiction | (exfalso; omega))
            refine loopQ.next ⟨(i + 1, ⟨a4, c4, o2.xs ++ [⟨a3, c3, encB 1 E N s.xs[k].ps.xs[i].lba.toNat s.xs[k].ps.xs[i].d.xs⟩]⟩), ⟨by dsimp only; omega, by simp; omega⟩, ?_⟩ (by simp only []; omega) (evs rfl (evs rfl (evs rfl (evs rfl (evs rfl (evs rfl (evs rfl (evs rfl (evs rfl (evs rfl (evs rfl (evs rfl .nil)))))))))))) (fun w h => goes w h)
            dsimp only
            rw [raws_snoc, ho2, List.take_succ_eq_append_getElem hi2, List.map_append, List.map_append, List.append_assoc]
            rfl
          · refine absurd ⟨?_, by omega⟩ hno
            unfold encOk; omega
        · have hi3 : i = s.xs[k].ps.xs.length := by omega
          subst hi3
          rw [List.take_length] at ho2
          have hst : 0 ≤ s.xs[k].time - last ∧ s.xs[k].time - last ≤ 65535 := by
            rw [List.getElem?_eq_getElem (show k - 1 < s.xs.length by omega)] at hlast
            dsimp only [Option.map_some, Option.getD_some] at hlast
            by_cases hk0 : k = 0
            · subst hk0; simp only [hlast, Nat.zero_sub]; omega
            · have h1 := hgd.step (k - 1) (by rw [List.length_map]; omega)
              have e : k - 1 + 1 = k := by omega
              simp only [List.getElem_map, e] at h1
              omega
          obtain ⟨d, hd⟩ := Int.eq_ofNat_of_zero_le hst.1
          rw [hd] at hbody hst
          rw [Int.toNat_natCast] at hbody
          have hlk := htm k hk2
          repeat' first | refine adv ?_ | refine Side.go ?_ | refine Giv.mk fun _ => ?_ | refine All.mk fun q => ?_ | refine Fork.mk ?_ ?_ | (refine Two.mk (fun h => ?_) (fun h => ?_) <;> try first | contradiction | (exfalso; omega))
          rw [hd]
          repeat' first | refine adv ?_ | refine Side.go ?_ | refine Giv.mk fun _ => ?_ | refine All.mk fun q => ?_ | refine Fork.mk ?_ ?_ | (refine Two.mk (fun h => ?_) (fun h => ?_) <;> try first | contradiction | (exfalso; omega))
          rw [byte_of, byte_sh]
          refine AppG_conv (fun B w h => roS_lit (c := 2) [UInt8.ofNat d, UInt8.ofNat (d / 256)] _ rfl (fun _ _ => trivial) (by simp) (by simp) h) ?_
          refine AppG.many body (⟨some ⟨q, 0, none⟩, 2, [UInt8.ofNat d, UInt8.ofNat (d / 256)]⟩ : Sl UInt8) (by simp only [List.length_cons, List.length_nil]; omega) (fun a5 c5 => ?_)
          repeat' first | refine adv ?_ | refine Side.go ?_ | refine Giv.mk fun _ => ?_ | refine All.mk fun q => ?_ | refine Fork.mk ?_ ?_ | (refine Two.mk (fun h => ?_) (fun h => ?_) <;> try first | contradiction | (exfalso; omega))
          refine loopQ.next ⟨(k + 1, s.xs[k].time, o2, ⟨a5, c5, body.xs ++ [UInt8.ofNat d, UInt8.ofNat (d / 256)]⟩), ⟨by dsimp only; omega, by dsimp only; omega, by simp; omega⟩, ?_, ?_, ?_⟩ (by simp only []; omega) (evs rfl (evs rfl (evs rfl (evs rfl (evs rfl (evs rfl (evs rfl (evs rfl .nil)))))))) (fun w h => goes w h)
          · dsimp only
            rw [ho2, List.append_assoc]; exact hout
          · dsimp only
            rw [← hbody, List.append_assoc]; rfl
          · dsimp only
            rw [show k + 1 - 1 = k from by omega, List.getElem?_eq_getElem hk2]; rfl
      · have hk3 : k = s.xs.length := by omega
        subst hk3
        rw [List.drop_of_length_le (by simp)] at hout hbody
        repeat' first | refine adv ?_ | refine Side.go ?_ | refine Giv.mk fun _ => ?_ | refine All.mk fun q => ?_ | refine Fork.mk ?_ ?_ | (refine Two.mk (fun h => ?_) (fun h => ?_) <;> try first | contradiction | (exfalso; omega))
        have hpl : encPuts E N (s.xs.map TxR.v) = raws out.xs := by rw [← hout]; simp [encPuts]
        have hbd : body.xs = leB s.xs[0].time.toNat 8 ++ [UInt8.ofNat s.xs.length] ++ stepB s.xs[0].time (s.xs.map TxR.v) := by rw [← hbody]; simp [stepB]
        refine Sy_loop (ι := {st : Nat × Sl UInt8 // (st.1 ≤ s.xs.length ∧ st.2.xs.length = 9 + 2 * s.xs.length + st.1) ∧ st.2.xs = body.xs ++ ((s.xs.take st.1).map TxR.v).map fun t => UInt8.ofNat t.2.length})
          (fun st => [(95, .int .i64 st.1.1), (94, .int .i64 s.xs.length), (93, s.val), (7, st.1.2.val), (4, out.val), (1, .int .i64 E), (2, .pointer (some ⟨b0, 0, none⟩))])
          (fun st => ownS st.1.2 :: ownS out :: cells true b0 0 [.int .i64 N, s.val] :: roS s :: F) (fun st => s.xs.length - st.1.1)
          ⟨(0, body), ⟨Nat.zero_le _, hbl⟩, by simp⟩ (evs rfl (evs rfl (evs rfl (evs rfl (evs rfl (evs rfl (evs rfl .nil))))))) (fun w h => goes w h) ?_
        rintro ⟨⟨k, b2⟩, ⟨hk, hb2⟩, hb3⟩ env
        dsimp only [upds] at hk hb2 hb3 ⊢
        by_cases hk2 : k < s.xs.length
        · refine Sy_conv (pull_tx s hk2) ?_
          refine Sy_know (fun B w h => ro_ok s.xs[k].ps B w h) (fun hps => ?_)
          have hpsl := hps.len
          repeat' first | refine adv ?_ | refine Side.go ?_ | refine Giv.mk fun _ => ?_ | refine All.mk fun q => ?_ | refine Fork.mk ?_ ?_ | (refine Two.mk (fun h => ?_) (fun h => ?_) <;> try first | contradiction | (exfalso; omega))
          rw [byte_of]
          refine AppG.one' b2 (UInt8.ofNat s.xs[k].ps.xs.length) (fun _ => trivial) (by omega) (fun a6 c6 => ?_)
          repeat' first | refine adv ?_ | refine Side.go ?_ | refine Giv.mk fun _ => ?_ | refine All.mk fun q => ?_ | refine Fork.mk ?_ ?_ | (refine Two.mk (fun h => ?_) (fun h => ?_) <;> try first | contradiction | (exfalso; omega))
          refine loopQ.next ⟨(k + 1, ⟨a6, c6, b2.xs ++ [UInt8.ofNat s.xs[k].ps.xs.length]⟩), ⟨by dsimp only; omega, by simp; omega⟩, ?_⟩ (by simp only []; omega) (evs rfl (evs rfl (evs rfl (evs rfl (evs rfl (evs rfl (evs rfl .nil))))))) (fun w h => goes w h)
          dsimp only
          rw [hb3, List.take_succ_eq_append_getElem hk2, List.map_append, List.map_append, List.append_assoc]
          simp [TxR.v]
        · have hk3 : k = s.xs.length := by omega
          subst hk3
          rw [List.take_length] at hb3
          have hbo : b2.xs = bodyOf (s.xs.map TxR.v) := by
            rw [hb3, hbd, bodyOf, hF, List.length_map]
          repeat' first | refine adv ?_ | refine Side.go ?_ | refine Giv.mk fun _ => ?_ | refine All.mk fun q => ?_ | refine Fork.mk ?_ ?_ | (refine Two.mk (fun h => ?_) (fun h => ?_) <;> try first | contradiction | (exfalso; omega))
          refine CallG.use (frame_encode 2 E N out.xs.length b2) ?_
          rintro v M (⟨-, a7, c7, rfl, rfl⟩ | ⟨hno, -⟩)
          · dsimp only [lcA, lnA]
            repeat' first | refine adv ?_ | refine Side.go ?_ | refine Giv.mk fun _ => ?_ | refine All.mk fun q => ?_ | refine Fork.mk ?_ ?_ | (refine Two.mk (fun h => ?_) (fun h => ?_) <;> try first | contradiction | (exfalso; omega))
            refine AppG.oneS out (⟨a7, c7, encB 2 E N out.xs.length b2.xs⟩ : Sl UInt8) (by omega) (fun a8 c8 => ?_)
            repeat' first | refine adv ?_ | refine Side.go ?_ | refine Giv.mk fun _ => ?_ | refine All.mk fun q => ?_ | refine Fork.mk ?_ ?_ | (refine Two.mk (fun h => ?_) (fun h => ?_) <;> try first | contradiction | (exfalso; omega))
            refine endQ.twoW Tryz.results103 (.inr ⟨hne, ⟨a8, c8, out.xs ++ [⟨a7, c7, encB 2 E N out.xs.length b2.xs⟩]⟩, ?_, rfl, rfl⟩) (fun w h => goes w h)
            rw [raws_snoc, Int.toNat_natCast, Int.toNat_natCast, encBatch, hpl, raws_len, hbo]
          · refine absurd ⟨?_, by omega⟩ hno
            unfold encOk; omega
end Go.SL
namespace Go.SL
open Go.Proofs
set_option synthInstance.maxSize 4000
set_option synthInstance.maxHeartbeats 400000
set_option maxRecDepth 4000
set_option maxHeartbeats 2000000

abbrev Row := List PV × Fr × Bool
def zeroFr : Fr := (0, 0, 0, 0, [])
def rowGo : Nat → Nat × Nat → List PV → List (List UInt8) → Row
  | _, _, acc, [] => (acc, zeroFr, false)
  | i, f, acc, p :: ps =>
    if ¬ decOk p then (acc, zeroFr, true)
    else if i ≠ 0 ∧ ((cutB p).2.1 ≠ f.1 ∨ (cutB p).2.2.1 ≠ f.2) then (acc, zeroFr, true)
    else if (cutB p).1 ≠ 1 then (acc, cutB p, true)
    else rowGo (i + 1) (if i = 0 then ((cutB p).2.1, (cutB p).2.2.1) else f) (acc ++ [((((cutB p).2.2.2.1 : Nat) : Int), (cutB p).2.2.2.2)]) ps

theorem batch_row (l : Sl (Sl UInt8)) (hl : l.xs.length ≤ 100000) : Spec Tryz.prog 122 #[l.val] [roS l] (fun v L => ∃ (R : Row) (ps : Sl PutR) (b : Sl UInt8), R = rowGo 0 (0, 0) [] (raws l.xs) ∧ ps.xs.map PutR.v = R.1 ∧ b.xs = R.2.1.2.2.2.2 ∧
      v = .tuple #[ps.val, .agg #[.int .i64 R.2.1.1, .int .i64 R.2.1.2.1, .int .i64 R.2.1.2.2.1, .int .i64 R.2.1.2.2.2.1, b.val], .bool R.2.2] ∧ L = [ownS ps, roS b]) := by
  refine enter1 Tryz.func122 rfl (by decide) (by decide) ?_
  intro B F
  dsimp only [lcA, lnA]
  repeat' first | refine adv ?_ | refine Side.go ?_ | refine Giv.mk fun _ => ?_ | refine All.mk fun q => ?_ | refine Fork.mk ?_ ?_ | (refine Two.mk (fun h => ?_) (fun h => ?_) <;> try first | contradiction | (exfalso; omega))
  rename_i x1
  obtain ⟨x2, hx2⟩ : ∃ p, p = q := ⟨q, rfl⟩
  subst hx2
  refine Sy_join (J := fun env L => ∃ (R : Row) (ps : Sl PutR) (b : Blk), (R = rowGo 0 (0, 0) [] (raws l.xs) ∧ ps.xs.map PutR.v = R.1 ∧ b.fr = R.2.1) ∧ (env 2 = ps.val ∧ env 3 = .pointer (some ⟨x1, 0, none⟩) ∧ env 4 = .bool R.2.2) ∧
      ∀ w, sat B L w → sat B (cells true x1 0 [.int .i64 b.k, .int .i64 b.e, .int .i64 b.s, .int .i64 b.l, b.b.val] :: ownS ps :: roS b.b :: F) w) ?_ ?_
  · rintro env L ⟨R, ps, b, ⟨hR, hps, hb⟩, ⟨e2, e3, e4⟩, hL⟩
    refine Sy_conv hL ?_
    refine Sy_env [(2, ps.val), (3, .pointer (some ⟨x1, 0, none⟩)), (4, .bool R.2.2)] (by simpa using ⟨e2, e3, e4⟩) (fun env => ?_)
    dsimp only [upds]
    repeat' first | refine adv ?_ | refine Side.go ?_ | refine Giv.mk fun _ => ?_ | refine All.mk fun q => ?_ | refine Fork.mk ?_ ?_ | (refine Two.mk (fun h => ?_) (fun h => ?_) <;> try first | contradiction | (exfalso; omega))
    refine Sy_draw_all Mixed.h ?_
    refine XP.go [0, 1, 2] (by decide +kernel) (by decide) ?_
    refine List.forall_mem_cons.2 ⟨⟨_, rfl, ?_⟩, List.forall_mem_cons.2 ⟨⟨_, rfl, ?_⟩, List.forall_mem_cons.2 ⟨⟨_, rfl, ?_⟩, fun _ h => by cases h⟩⟩⟩
    · repeat' first | refine adv ?_ | refine Side.go ?_ | refine Giv.mk fun _ => ?_ | refine All.mk fun q => ?_ | refine Fork.mk ?_ ?_ | (refine Two.mk (fun h => ?_) (fun h => ?_) <;> try first | contradiction | (exfalso; omega))
      refine XP.go [1, 2, 3] (by decide +kernel) (by decide) ?_
      refine List.forall_mem_cons.2 ⟨⟨_, rfl, ?_⟩, List.forall_mem_cons.2 ⟨⟨_, rfl, ?_⟩, List.forall_mem_cons.2 ⟨⟨_, rfl, ?_⟩, fun _ h => by cases h⟩⟩⟩
      · repeat' first | refine adv ?_ | refine Side.go ?_ | refine Giv.mk fun _ => ?_ | refine All.mk fun q => ?_ | refine Fork.mk ?_ ?_ | (refine Two.mk (fun h => ?_) (fun h => ?_) <;> try first | contradiction | (exfalso; omega))
        refine XP.go [2, 3] (by decide +kernel) (by decide) ?_
        refine List.forall_mem_cons.2 ⟨⟨_, rfl, ?_⟩, List.forall_mem_cons.2 ⟨⟨_, rfl, ?_⟩, fun _ h => by cases h⟩⟩
        · repeat' first | refine adv ?_ | refine Side.go ?_ | refine Giv.mk fun _ => ?_ | refine All.mk fun q => ?_ | refine Fork.mk ?_ ?_ | (refine Two.mk (fun h => ?_) (fun h => ?_) <;> try first | contradiction | (exfalso; omega))
          refine XP.go [3] (by decide +kernel) (by decide) ?_
          refine List.forall_mem_cons.2 ⟨⟨_, rfl, ?_⟩, fun _ h => by cases h⟩
          · repeat' first | refine adv ?_ | refine Side.go ?_ | refine Giv.mk fun _ => ?_ | refine All.mk fun q => ?_ | refine Fork.mk ?_ ?_ | (refine Two.mk (fun h => ?_) (fun h => ?_) <;> try first | contradiction | (exfalso; omega))
            refine XP.go [4] (by decide +kernel) (by decide) ?_
            refine List.forall_mem_cons.2 ⟨⟨_, rfl, ?_⟩, fun _ h => by cases h⟩
            · repeat' first | refine adv ?_ | refine Side.go ?_ | refine Giv.mk fun _ => ?_ | refine All.mk fun q => ?_ | refine Fork.mk ?_ ?_ | (refine Two.mk (fun h => ?_) (fun h => ?_) <;> try first | contradiction | (exfalso; omega))
              refine XP.go [5] (by decide +kernel) (by decide) ?_
              refine List.forall_mem_cons.2 ⟨⟨_, rfl, ?_⟩, fun _ h => by cases h⟩
              · repeat' first | refine adv ?_ | refine Side.go ?_ | refine Giv.mk fun _ => ?_ | refine All.mk fun q => ?_ | refine Fork.mk ?_ ?_ | (refine Two.mk (fun h => ?_) (fun h => ?_) <;> try first | contradiction | (exfalso; omega))
                refine XP.done (by decide +kernel) ?_
                repeat' first | refine adv ?_ | refine Side.go ?_ | refine Giv.mk fun _ => ?_ | refine All.mk fun q => ?_ | refine Fork.mk ?_ ?_ | (refine Two.mk (fun h => ?_) (fun h => ?_) <;> try first | contradiction | (exfalso; omega))
                exact endQ.resW Tryz.results122 ⟨R, ps, b.b, hR, hps, by rw [← hb]; rfl, by rw [← hb]; rfl, rfl⟩ (fun w h => goes w h)
        · repeat' first | refine adv ?_ | refine Side.go ?_ | refine Giv.mk fun _ => ?_ | refine All.mk fun q => ?_ | refine Fork.mk ?_ ?_ | (refine Two.mk (fun h => ?_) (fun h => ?_) <;> try first | contradiction | (exfalso; omega))
          refine XP.go [2, 4] (by decide +kernel) (by decide) ?_
          refine List.forall_mem_cons.2 ⟨⟨_, rfl, ?_⟩, List.forall_mem_cons.2 ⟨⟨_, rfl, ?_⟩, fun _ h => by cases h⟩⟩
          · repeat' first | refine adv ?_ | refine Side.go ?_ | refine Giv.mk fun _ => ?_ | refine All.mk fun q => ?_ | refine Fork.mk ?_ ?_ | (refine Two.mk (fun h => ?_) (fun h => ?_) <;> try first | contradiction | (exfalso; omega))
            refine XP.go [4] (by decide +kernel) (by decide) ?_
            refine List.forall_mem_cons.2 ⟨⟨_, rfl, ?_⟩, fun _ h => by cases h⟩
            · repeat' first | refine adv ?_ | refine Side.go ?_ | refine Giv.mk fun _ => ?_ | refine All.mk fun q => ?_ | refine Fork.mk ?_ ?_ | (refine Two.mk (fun h => ?_) (fun h => ?_) <;> try first | contradiction | (exfalso; omega))
              refine XP.go [5] (by decide +kernel) (by decide) ?_
              refine List.forall_mem_cons.2 ⟨⟨_, rfl, ?_⟩, fun _ h => by cases h⟩
              · repeat' first | refine adv ?_ | refine Side.go ?_ | refine Giv.mk fun _ => ?_ | refine All.mk fun q => ?_ | refine Fork.mk ?_ ?_ | (refine Two.mk (fun h => ?_) (fun h => ?_) <;> try first | contradiction | (exfalso; omega))
                refine XP.done (by decide +kernel) ?_
                repeat' first | refine adv ?_ | refine Side.go ?_ | refine Giv.mk fun _ => ?_ | refine All.mk fun q => ?_ | refine Fork.mk ?_ ?_ | (refine Two.mk (fun h => ?_) (fun h => ?_) <;> try first | contradiction | (exfalso; omega))
                exact endQ.resW Tryz.results122 ⟨R, ps, b.b, hR, hps, by rw [← hb]; rfl, by rw [← hb]; rfl, rfl⟩ (fun w h => goes w h)
          · repeat' first | refine adv ?_ | refine Side.go ?_ | refine Giv.mk fun _ => ?_ | refine All.mk fun q => ?_ | refine Fork.mk ?_ ?_ | (refine Two.mk (fun h => ?_) (fun h => ?_) <;> try first | contradiction | (exfalso; omega))
            refine XP.go [2] (by decide +kernel) (by decide) ?_
            refine List.forall_mem_cons.2 ⟨⟨_, rfl, ?_⟩, fun _ h => by cases h⟩
            · repeat' first | refine adv ?_ | refine Side.go ?_ | refine Giv.mk fun _ => ?_ | refine All.mk fun q => ?_ | refine Fork.mk ?_ ?_ | (refine Two.mk (fun h => ?_) (fun h => ?_) <;> try first | contradiction | (exfalso; omega))
              refine XP.go [5] (by decide +kernel) (by decide) ?_
              refine List.forall_mem_cons.2 ⟨⟨_, rfl, ?_⟩, fun _ h => by cases h⟩
              · repeat' first | refine adv ?_ | refine Side.go ?_ | refine Giv.mk fun _ => ?_ | refine All.mk fun q => ?_ | refine Fork.mk ?_ ?_ | (refine Two.mk (fun h => ?_) (fun h => ?_) <;> try first | contradiction | (exfalso; omega))
                refine XP.done (by decide +kernel) ?_
                repeat' first | refine adv ?_ | refine Side.go ?_ | refine Giv.mk fun _ => ?_ | refine All.mk fun q => ?_ | refine Fork.mk ?_ ?_ | (refine Two.mk (fun h => ?_) (fun h => ?_) <;> try first | contradiction | (exfalso; omega))
                exact endQ.resW Tryz.results122 ⟨R, ps, b.b, hR, hps, by rw [← hb]; rfl, by rw [← hb]; rfl, rfl⟩ (fun w h => goes w h)
      · repeat' first | refine adv ?_ | refine Side.go ?_ | refine Giv.mk fun _ => ?_ | refine All.mk fun q => ?_ | refine Fork.mk ?_ ?_ | (refine Two.mk (fun h => ?_) (fun h => ?_) <;> try first | contradiction | (exfalso; omega))
        refine XP.go [1, 3] (by decide +kernel) (by decide) ?_
        refine List.forall_mem_cons.2 ⟨⟨_, rfl, ?_⟩, List.forall_mem_cons.2 ⟨⟨_, rfl, ?_⟩, fun _ h => by cases h⟩⟩
        · repeat' first | refine adv ?_ | refine Side.go ?_ | refine Giv.mk fun _ => ?_ | refine All.mk fun q => ?_ | refine Fork.mk ?_ ?_ | (refine Two.mk (fun h => ?_) (fun h => ?_) <;> try first | contradiction | (exfalso; omega))
          refine XP.go [3] (by decide +kernel) (by decide) ?_
          refine List.forall_mem_cons.2 ⟨⟨_, rfl, ?_⟩, fun _ h => by cases h⟩
          · repeat' first | refine adv ?_ | refine Side.go ?_ | refine Giv.mk fun _ => ?_ | refine All.mk fun q => ?_ | refine Fork.mk ?_ ?_ | (refine Two.mk (fun h => ?_) (fun h => ?_) <;> try first | contradiction | (exfalso; omega))
            refine XP.go [4] (by decide +kernel) (by decide) ?_
            refine List.forall_mem_cons.2 ⟨⟨_, rfl, ?_⟩, fun _ h => by cases h⟩
            · repeat' first | refine adv ?_ | refine Side.go ?_ | refine Giv.mk fun _ => ?_ | refine All.mk fun q => ?_ | refine Fork.mk ?_ ?_ | (refine Two.mk (fun h => ?_) (fun h => ?_) <;> try first | contradiction | (exfalso; omega))
              refine XP.go [5] (by decide +kernel) (by decide) ?_
              refine List.forall_mem_cons.2 ⟨⟨_, rfl, ?_⟩, fun _ h => by cases h⟩
              · repeat' first | refine adv ?_ | refine Side.go ?_ | refine Giv.mk fun _ => ?_ | refine All.mk fun q => ?_ | refine Fork.mk ?_ ?_ | (refine Two.mk (fun h => ?_) (fun h => ?_) <;> try first | contradiction | (exfalso; omega))
                refine XP.done (by decide +kernel) ?_
                repeat' first | refine adv ?_ | refine Side.go ?_ | refine Giv.mk fun _ => ?_ | refine All.mk fun q => ?_ | refine Fork.mk ?_ ?_ | (refine Two.mk (fun h => ?_) (fun h => ?_) <;> try first | contradiction | (exfalso; omega))
                exact endQ.resW Tryz.results122 ⟨R, ps, b.b, hR, hps, by rw [← hb]; rfl, by rw [← hb]; rfl, rfl⟩ (fun w h => goes w h)
        · repeat' first | refine adv ?_ | refine Side.go ?_ | refine Giv.mk fun _ => ?_ | refine All.mk fun q => ?_ | refine Fork.mk ?_ ?_ | (refine Two.mk (fun h => ?_) (fun h => ?_) <;> try first | contradiction | (exfalso; omega))
          refine XP.go [1] (by decide +kernel) (by decide) ?_
          refine List.forall_mem_cons.2 ⟨⟨_, rfl, ?_⟩, fun _ h => by cases h⟩
          · repeat' first | refine adv ?_ | refine Side.go ?_ | refine Giv.mk fun _ => ?_ | refine All.mk fun q => ?_ | refine Fork.mk ?_ ?_ | (refine Two.mk (fun h => ?_) (fun h => ?_) <;> try first | contradiction | (exfalso; omega))
            refine XP.go [4] (by decide +kernel) (by decide) ?_
            refine List.forall_mem_cons.2 ⟨⟨_, rfl, ?_⟩, fun _ h => by cases h⟩
            · repeat' first | refine adv ?_ | refine Side.go ?_ | refine Giv.mk fun _ => ?_ | refine All.mk fun q => ?_ | refine Fork.mk ?_ ?_ | (refine Two.mk (fun h => ?_) (fun h => ?_) <;> try first | contradiction | (exfalso; omega))
              refine XP.go [5] (by decide +kernel) (by decide) ?_
              refine List.forall_mem_cons.2 ⟨⟨_, rfl, ?_⟩, fun _ h => by cases h⟩
              · repeat' first | refine adv ?_ | refine Side.go ?_ | refine Giv.mk fun _ => ?_ | refine All.mk fun q => ?_ | refine Fork.mk ?_ ?_ | (refine Two.mk (fun h => ?_) (fun h => ?_) <;> try first | contradiction | (exfalso; omega))
                refine XP.done (by decide +kernel) ?_
                repeat' first | refine adv ?_ | refine Side.go ?_ | refine Giv.mk fun _ => ?_ | refine All.mk fun q => ?_ | refine Fork.mk ?_ ?_ | (refine Two.mk (fun h => ?_) (fun h => ?_) <;> try first | contradiction | (exfalso; omega))
                exact endQ.resW Tryz.results122 ⟨R, ps, b.b, hR, hps, by rw [← hb]; rfl, by rw [← hb]; rfl, rfl⟩ (fun w h => goes w h)
      · repeat' first | refine adv ?_ | refine Side.go ?_ | refine Giv.mk fun _ => ?_ | refine All.mk fun q => ?_ | refine Fork.mk ?_ ?_ | (refine Two.mk (fun h => ?_) (fun h => ?_) <;> try first | contradiction | (exfalso; omega))
        refine XP.go [1, 2] (by decide +kernel) (by decide) ?_
        refine List.forall_mem_cons.2 ⟨⟨_, rfl, ?_⟩, List.forall_mem_cons.2 ⟨⟨_, rfl, ?_⟩, fun _ h => by cases h⟩⟩
        · repeat' first | refine adv ?_ | refine Side.go ?_ | refine Giv.mk fun _ => ?_ | refine All.mk fun q => ?_ | refine Fork.mk ?_ ?_ | (refine Two.mk (fun h => ?_) (fun h => ?_) <;> try first | contradiction | (exfalso; omega))
          refine XP.go [2, 4] (by decide +kernel) (by decide) ?_
          refine List.forall_mem_cons.2 ⟨⟨_, rfl, ?_⟩, List.forall_mem_cons.2 ⟨⟨_, rfl, ?_⟩, fun _ h => by cases h⟩⟩
          · repeat' first | refine adv ?_ | refine Side.go ?_ | refine Giv.mk fun _ => ?_ | refine All.mk fun q => ?_ | refine Fork.mk ?_ ?_ | (refine Two.mk (fun h => ?_) (fun h => ?_) <;> try first | contradiction | (exfalso; omega))
            refine XP.go [4] (by decide +kernel) (by decide) ?_
            refine List.forall_mem_cons.2 ⟨⟨_, rfl, ?_⟩, fun _ h => by cases h⟩
            · repeat' first | refine adv ?_ | refine Side.go ?_ | refine Giv.mk fun _ => ?_ | refine All.mk fun q => ?_ | refine Fork.mk ?_ ?_ | (refine Two.mk (fun h => ?_) (fun h => ?_) <;> try first | contradiction | (exfalso; omega))
              refine XP.go [5] (by decide +kernel) (by decide) ?_
              refine List.forall_mem_cons.2 ⟨⟨_, rfl, ?_⟩, fun _ h => by cases h⟩
              · repeat' first | refine adv ?_ | refine Side.go ?_ | refine Giv.mk fun _ => ?_ | refine All.mk fun q => ?_ | refine Fork.mk ?_ ?_ | (refine Two.mk (fun h => ?_) (fun h => ?_) <;> try first | contradiction | (exfalso; omega))
                refine XP.done (by decide +kernel) ?_
                repeat' first | refine adv ?_ | refine Side.go ?_ | refine Giv.mk fun _ => ?_ | refine All.mk fun q => ?_ | refine Fork.mk ?_ ?_ | (refine Two.mk (fun h => ?_) (fun h => ?_) <;> try first | contradiction | (exfalso; omega))
                exact endQ.resW Tryz.results122 ⟨R, ps, b.b, hR, hps, by rw [← hb]; rfl, by rw [← hb]; rfl, rfl⟩ (fun w h => goes w h)
          · repeat' first | refine adv ?_ | refine Side.go ?_ | refine Giv.mk fun _ => ?_ | refine All.mk fun q => ?_ | refine Fork.mk ?_ ?_ | (refine Two.mk (fun h => ?_) (fun h => ?_) <;> try first | contradiction | (exfalso; omega))
            refine XP.go [2] (by decide +kernel) (by decide) ?_
            refine List.forall_mem_cons.2 ⟨⟨_, rfl, ?_⟩, fun _ h => by cases h⟩
            · repeat' first | refine adv ?_ | refine Side.go ?_ | refine Giv.mk fun _ => ?_ | refine All.mk fun q => ?_ | refine Fork.mk ?_ ?_ | (refine Two.mk (fun h => ?_) (fun h => ?_) <;> try first | contradiction | (exfalso; omega))
              refine XP.go [5] (by decide +kernel) (by decide) ?_
              refine List.forall_mem_cons.2 ⟨⟨_, rfl, ?_⟩, fun _ h => by cases h⟩
              · repeat' first | refine adv ?_ | refine Side.go ?_ | refine Giv.mk fun _ => ?_ | refine All.mk fun q => ?_ | refine Fork.mk ?_ ?_ | (refine Two.mk (fun h => ?_) (fun h => ?_) <;> try first | contradiction | (exfalso; omega))
                refine XP.done (by decide +kernel) ?_
                repeat' first | refine adv ?_ | refine Side.go ?_ | refine Giv.mk fun _ => ?_ | refine All.mk fun q => ?_ | refine Fork.mk ?_ ?_ | (refine Two.mk (fun h => ?_) (fun h => ?_) <;> try first | contradiction | (exfalso; omega))
                exact endQ.resW Tryz.results122 ⟨R, ps, b.b, hR, hps, by rw [← hb]; rfl, by rw [← hb]; rfl, rfl⟩ (fun w h => goes w h)
        · repeat' first | refine adv ?_ | refine Side.go ?_ | refine Giv.mk fun _ => ?_ | refine All.mk fun q => ?_ | refine Fork.mk ?_ ?_ | (refine Two.mk (fun h => ?_) (fun h => ?_) <;> try first | contradiction | (exfalso; omega))
          refine XP.go [1] (by decide +kernel) (by decide) ?_
          refine List.forall_mem_cons.2 ⟨⟨_, rfl, ?_⟩, fun _ h => by cases h⟩
          · repeat' first | refine adv ?_ | refine Side.go ?_ | refine Giv.mk fun _ => ?_ | refine All.mk fun q => ?_ | refine Fork.mk ?_ ?_ | (refine Two.mk (fun h => ?_) (fun h => ?_) <;> try first | contradiction | (exfalso; omega))
            refine XP.go [4] (by decide +kernel) (by decide) ?_
            refine List.forall_mem_cons.2 ⟨⟨_, rfl, ?_⟩, fun _ h => by cases h⟩
            · repeat' first | refine adv ?_ | refine Side.go ?_ | refine Giv.mk fun _ => ?_ | refine All.mk fun q => ?_ | refine Fork.mk ?_ ?_ | (refine Two.mk (fun h => ?_) (fun h => ?_) <;> try first | contradiction | (exfalso; omega))
              refine XP.go [5] (by decide +kernel) (by decide) ?_
              refine List.forall_mem_cons.2 ⟨⟨_, rfl, ?_⟩, fun _ h => by cases h⟩
              · repeat' first | refine adv ?_ | refine Side.go ?_ | refine Giv.mk fun _ => ?_ | refine All.mk fun q => ?_ | refine Fork.mk ?_ ?_ | (refine Two.mk (fun h => ?_) (fun h => ?_) <;> try first | contradiction | (exfalso; omega))
                refine XP.done (by decide +kernel) ?_
                repeat' first | refine adv ?_ | refine Side.go ?_ | refine Giv.mk fun _ => ?_ | refine All.mk fun q => ?_ | refine Fork.mk ?_ ?_ | (refine Two.mk (fun h => ?_) (fun h => ?_) <;> try first | contradiction | (exfalso; omega))
                exact endQ.resW Tryz.results122 ⟨R, ps, b.b, hR, hps, by rw [← hb]; rfl, by rw [← hb]; rfl, rfl⟩ (fun w h => goes w h)
    · repeat' first | refine adv ?_ | refine Side.go ?_ | refine Giv.mk fun _ => ?_ | refine All.mk fun q => ?_ | refine Fork.mk ?_ ?_ | (refine Two.mk (fun h => ?_) (fun h => ?_) <;> try first | contradiction | (exfalso; omega))
      refine XP.go [0, 2] (by decide +kernel) (by decide) ?_
      refine List.forall_mem_cons.2 ⟨⟨_, rfl, ?_⟩, List.forall_mem_cons.2 ⟨⟨_, rfl, ?_⟩, fun _ h => by cases h⟩⟩
      · repeat' first | refine adv ?_ | refine Side.go ?_ | refine Giv.mk fun _ => ?_ | refine All.mk fun q => ?_ | refine Fork.mk ?_ ?_ | (refine Two.mk (fun h => ?_) (fun h => ?_) <;> try first | contradiction | (exfalso; omega))
        refine XP.go [2, 3] (by decide +kernel) (by decide) ?_
        refine List.forall_mem_cons.2 ⟨⟨_, rfl, ?_⟩, List.forall_mem_cons.2 ⟨⟨_, rfl, ?_⟩, fun _ h => by cases h⟩⟩
        · repeat' first | refine adv ?_ | refine Side.go ?_ | refine Giv.mk fun _ => ?_ | refine All.mk fun q => ?_ | refine Fork.mk ?_ ?_ | (refine Two.mk (fun h => ?_) (fun h => ?_) <;> try first | contradiction | (exfalso; omega))
          refine XP.go [3] (by decide +kernel) (by decide) ?_
          refine List.forall_mem_cons.2 ⟨⟨_, rfl, ?_⟩, fun _ h => by cases h⟩
          · repeat' first | refine adv ?_ | refine Side.go ?_ | refine Giv.mk fun _ => ?_ | refine All.mk fun q => ?_ | refine Fork.mk ?_ ?_ | (refine Two.mk (fun h => ?_) (fun h => ?_) <;> try first | contradiction | (exfalso; omega))
            refine XP.go [4] (by decide +kernel) (by decide) ?_
            refine List.forall_mem_cons.2 ⟨⟨_, rfl, ?_⟩, fun _ h => by cases h⟩
            · repeat' first | refine adv ?_ | refine Side.go ?_ | refine Giv.mk fun _ => ?_ | refine All.mk fun q => ?_ | refine Fork.mk ?_ ?_ | (refine Two.mk (fun h => ?_) (fun h => ?_) <;> try first | contradiction | (exfalso; omega))
              refine XP.go [5] (by decide +kernel) (by decide) ?_
              refine List.forall_mem_cons.2 ⟨⟨_, rfl, ?_⟩, fun _ h => by cases h⟩
              · repeat' first | refine adv ?_ | refine Side.go ?_ | refine Giv.mk fun _ => ?_ | refine All.mk fun q => ?_ | refine Fork.mk ?_ ?_ | (refine Two.mk (fun h => ?_) (fun h => ?_) <;> try first | contradiction | (exfalso; omega))
                refine XP.done (by decide +kernel) ?_
                repeat' first | refine adv ?_ | refine Side.go ?_ | refine Giv.mk fun _ => ?_ | refine All.mk fun q => ?_ | refine Fork.mk ?_ ?_ | (refine Two.mk (fun h => ?_) (fun h => ?_) <;> try first | contradiction | (exfalso; omega))
                exact endQ.resW Tryz.results122 ⟨R, ps, b.b, hR, hps, by rw [← hb]; rfl, by rw [← hb]; rfl, rfl⟩ (fun w h => goes w h)
        · repeat' first | refine adv ?_ | refine Side.go ?_ | refine Giv.mk fun _ => ?_ | refine All.mk fun q => ?_ | refine Fork.mk ?_ ?_ | (refine Two.mk (fun h => ?_) (fun h => ?_) <;> try first | contradiction | (exfalso; omega))
          refine XP.go [2, 4] (by decide +kernel) (by decide) ?_
          refine List.forall_mem_cons.2 ⟨⟨_, rfl, ?_⟩, List.forall_mem_cons.2 ⟨⟨_, rfl, ?_⟩, fun _ h => by cases h⟩⟩
          · repeat' first | refine adv ?_ | refine Side.go ?_ | refine Giv.mk fun _ => ?_ | refine All.mk fun q => ?_ | refine Fork.mk ?_ ?_ | (refine Two.mk (fun h => ?_) (fun h => ?_) <;> try first | contradiction | (exfalso; omega))
            refine XP.go [4] (by decide +kernel) (by decide) ?_
            refine List.forall_mem_cons.2 ⟨⟨_, rfl, ?_⟩, fun _ h => by cases h⟩
            · repeat' first | refine adv ?_ | refine Side.go ?_ | refine Giv.mk fun _ => ?_ | refine All.mk fun q => ?_ | refine Fork.mk ?_ ?_ | (refine Two.mk (fun h => ?_) (fun h => ?_) <;> try first | contradiction | (exfalso; omega))
              refine XP.go [5] (by decide +kernel) (by decide) ?_
              refine List.forall_mem_cons.2 ⟨⟨_, rfl, ?_⟩, fun _ h => by cases h⟩
              · repeat' first | refine adv ?_ | refine Side.go ?_ | refine Giv.mk fun _ => ?_ | refine All.mk fun q => ?_ | refine Fork.mk ?_ ?_ | (refine Two.mk (fun h => ?_) (fun h => ?_) <;> try first | contradiction | (exfalso; omega))
                refine XP.done (by decide +kernel) ?_
                repeat' first | refine adv ?_ | refine Side.go ?_ | refine Giv.mk fun _ => ?_ | refine All.mk fun q => ?_ | refine Fork.mk ?_ ?_ | (refine Two.mk (fun h => ?_) (fun h => ?_) <;> try first | contradiction | (exfalso; omega))
                exact endQ.resW Tryz.results122 ⟨R, ps, b.b, hR, hps, by rw [← hb]; rfl, by rw [← hb]; rfl, rfl⟩ (fun w h => goes w h)
          · repeat' first | refine adv ?_ | refine Side.go ?_ | refine Giv.mk fun _ => ?_ | refine All.mk fun q => ?_ | refine Fork.mk ?_ ?_ | (refine Two.mk (fun h => ?_) (fun h => ?_) <;> try first | contradiction | (exfalso; omega))
            refine XP.go [2] (by decide +kernel) (by decide) ?_
            refine List.forall_mem_cons.2 ⟨⟨_, rfl, ?_⟩, fun _ h => by cases h⟩
            · repeat' first | refine adv ?_ | refine Side.go ?_ | refine Giv.mk fun _ => ?_ | refine All.mk fun q => ?_ | refine Fork.mk ?_ ?_ | (refine Two.mk (fun h => ?_) (fun h => ?_) <;> try first | contradiction | (exfalso; omega))
              refine XP.go [5] (by decide +kernel) (by decide) ?_
              refine List.forall_mem_cons.2 ⟨⟨_, rfl, ?_⟩, fun _ h => by cases h⟩
              · repeat' first | refine adv ?_ | refine Side.go ?_ | refine Giv.mk fun _ => ?_ | refine All.mk fun q => ?_ | refine Fork.mk ?_ ?_ | (refine Two.mk (fun h => ?_) (fun h => ?_) <;> try first | contradiction | (exfalso; omega))
                refine XP.done (by decide +kernel) ?_
                repeat' first | refine adv ?_ | refine Side.go ?_ | refine Giv.mk fun _ => ?_ | refine All.mk fun q => ?_ | refine Fork.mk ?_ ?_ | (refine Two.mk (fun h => ?_) (fun h => ?_) <;> try first | contradiction | (exfalso; omega))
                exact endQ.resW Tryz.results122 ⟨R, ps, b.b, hR, hps, by rw [← hb]; rfl, by rw [← hb]; rfl, rfl⟩ (fun w h => goes w h)
      · repeat' first | refine adv ?_ | refine Side.go ?_ | refine Giv.mk fun _ => ?_ | refine All.mk fun q => ?_ | refine Fork.mk ?_ ?_ | (refine Two.mk (fun h => ?_) (fun h => ?_) <;> try first | contradiction | (exfalso; omega))
        refine XP.go [0] (by decide +kernel) (by decide) ?_
        refine List.forall_mem_cons.2 ⟨⟨_, rfl, ?_⟩, fun _ h => by cases h⟩
        · repeat' first | refine adv ?_ | refine Side.go ?_ | refine Giv.mk fun _ => ?_ | refine All.mk fun q => ?_ | refine Fork.mk ?_ ?_ | (refine Two.mk (fun h => ?_) (fun h => ?_) <;> try first | contradiction | (exfalso; omega))
          refine XP.go [3] (by decide +kernel) (by decide) ?_
          refine List.forall_mem_cons.2 ⟨⟨_, rfl, ?_⟩, fun _ h => by cases h⟩
          · repeat' first | refine adv ?_ | refine Side.go ?_ | refine Giv.mk fun _ => ?_ | refine All.mk fun q => ?_ | refine Fork.mk ?_ ?_ | (refine Two.mk (fun h => ?_) (fun h => ?_) <;> try first | contradiction | (exfalso; omega))
            refine XP.go [4] (by decide +kernel) (by decide) ?_
            refine List.forall_mem_cons.2 ⟨⟨_, rfl, ?_⟩, fun _ h => by cases h⟩
            · repeat' first | refine adv ?_ | refine Side.go ?_ | refine Giv.mk fun _ => ?_ | refine All.mk fun q => ?_ | refine Fork.mk ?_ ?_ | (refine Two.mk (fun h => ?_) (fun h => ?_) <;> try first | contradiction | (exfalso; omega))
              refine XP.go [5] (by decide +kernel) (by decide) ?_
              refine List.forall_mem_cons.2 ⟨⟨_, rfl, ?_⟩, fun _ h => by cases h⟩
              · repeat' first | refine adv ?_ | refine Side.go ?_ | refine Giv.mk fun _ => ?_ | refine All.mk fun q => ?_ | refine Fork.mk ?_ ?_ | (refine Two.mk (fun h => ?_) (fun h => ?_) <;> try first | contradiction | (exfalso; omega))
                refine XP.done (by decide +kernel) ?_
                repeat' first | refine adv ?_ | refine Side.go ?_ | refine Giv.mk fun _ => ?_ | refine All.mk fun q => ?_ | refine Fork.mk ?_ ?_ | (refine Two.mk (fun h => ?_) (fun h => ?_) <;> try first | contradiction | (exfalso; omega))
                exact endQ.resW Tryz.results122 ⟨R, ps, b.b, hR, hps, by rw [← hb]; rfl, by rw [← hb]; rfl, rfl⟩ (fun w h => goes w h)
    · repeat' first | refine adv ?_ | refine Side.go ?_ | refine Giv.mk fun _ => ?_ | refine All.mk fun q => ?_ | refine Fork.mk ?_ ?_ | (refine Two.mk (fun h => ?_) (fun h => ?_) <;> try first | contradiction | (exfalso; omega))
      refine XP.go [0, 1] (by decide +kernel) (by decide) ?_
      refine List.forall_mem_cons.2 ⟨⟨_, rfl, ?_⟩, List.forall_mem_cons.2 ⟨⟨_, rfl, ?_⟩, fun _ h => by cases h⟩⟩
      · repeat' first | refine adv ?_ | refine Side.go ?_ | refine Giv.mk fun _ => ?_ | refine All.mk fun q => ?_ | refine Fork.mk ?_ ?_ | (refine Two.mk (fun h => ?_) (fun h => ?_) <;> try first | contradiction | (exfalso; omega))
        refine XP.go [1, 3] (by decide +kernel) (by decide) ?_
        refine List.forall_mem_cons.2 ⟨⟨_, rfl, ?_⟩, List.forall_mem_cons.2 ⟨⟨_, rfl, ?_⟩, fun _ h => by cases h⟩⟩
        · repeat' first | refine adv ?_ | refine Side.go ?_ | refine Giv.mk fun _ => ?_ | refine All.mk fun q => ?_ | refine Fork.mk ?_ ?_ | (refine Two.mk (fun h => ?_) (fun h => ?_) <;> try first | contradiction | (exfalso; omega))
          refine XP.go [3] (by decide +kernel) (by decide) ?_
          refine List.forall_mem_cons.2 ⟨⟨_, rfl, ?_⟩, fun _ h => by cases h⟩
          · repeat' first | refine adv ?_ | refine Side.go ?_ | refine Giv.mk fun _ => ?_ | refine All.mk fun q => ?_ | refine Fork.mk ?_ ?_ | (refine Two.mk (fun h => ?_) (fun h => ?_) <;> try first | contradiction | (exfalso; omega))
            refine XP.go [4] (by decide +kernel) (by decide) ?_
            refine List.forall_mem_cons.2 ⟨⟨_, rfl, ?_⟩, fun _ h => by cases h⟩
            · repeat' first | refine adv ?_ | refine Side.go ?_ | refine Giv.mk fun _ => ?_ | refine All.mk fun q => ?_ | refine Fork.mk ?_ ?_ | (refine Two.mk (fun h => ?_) (fun h => ?_) <;> try first | contradiction | (exfalso; omega))
              refine XP.go [5] (by decide +kernel) (by decide) ?_
              refine List.forall_mem_cons.2 ⟨⟨_, rfl, ?_⟩, fun _ h => by cases h⟩
              · repeat' first | refine adv ?_ | refine Side.go ?_ | refine Giv.mk fun _ => ?_ | refine All.mk fun q => ?_ | refine Fork.mk ?_ ?_ | (refine Two.mk (fun h => ?_) (fun h => ?_) <;> try first | contradiction | (exfalso; omega))
                refine XP.done (by decide +kernel) ?_
                repeat' first | refine adv ?_ | refine Side.go ?_ | refine Giv.mk fun _ => ?_ | refine All.mk fun q => ?_ | refine Fork.mk ?_ ?_ | (refine Two.mk (fun h => ?_) (fun h => ?_) <;> try first | contradiction | (exfalso; omega))
                exact endQ.resW Tryz.results122 ⟨R, ps, b.b, hR, hps, by rw [← hb]; rfl, by rw [← hb]; rfl, rfl⟩ (fun w h => goes w h)
        · repeat' first | refine adv ?_ | refine Side.go ?_ | refine Giv.mk fun _ => ?_ | refine All.mk fun q => ?_ | refine Fork.mk ?_ ?_ | (refine Two.mk (fun h => ?_) (fun h => ?_) <;> try first | contradiction | (exfalso; omega))
          refine XP.go [1] (by decide +kernel) (by decide) ?_
          refine List.forall_mem_cons.2 ⟨⟨_, rfl, ?_⟩, fun _ h => by cases h⟩
          · repeat' first | refine adv ?_ | refine Side.go ?_ | refine Giv.mk fun _ => ?_ | refine All.mk fun q => ?_ | refine Fork.mk ?_ ?_ | (refine Two.mk (fun h => ?_) (fun h => ?_) <;> try first | contradiction | (exfalso; omega))
            refine XP.go [4] (by decide +kernel) (by decide) ?_
            refine List.forall_mem_cons.2 ⟨⟨_, rfl, ?_⟩, fun _ h => by cases h⟩
            · repeat' first | refine adv ?_ | refine Side.go ?_ | refine Giv.mk fun _ => ?_ | refine All.mk fun q => ?_ | refine Fork.mk ?_ ?_ | (refine Two.mk (fun h => ?_) (fun h => ?_) <;> try first | contradiction | (exfalso; omega))
              refine XP.go [5] (by decide +kernel) (by decide) ?_
              refine List.forall_mem_cons.2 ⟨⟨_, rfl, ?_⟩, fun _ h => by cases h⟩
              · repeat' first | refine adv ?_ | refine Side.go ?_ | refine Giv.mk fun _ => ?_ | refine All.mk fun q => ?_ | refine Fork.mk ?_ ?_ | (refine Two.mk (fun h => ?_) (fun h => ?_) <;> try first | contradiction | (exfalso; omega))
                refine XP.done (by decide +kernel) ?_
                repeat' first | refine adv ?_ | refine Side.go ?_ | refine Giv.mk fun _ => ?_ | refine All.mk fun q => ?_ | refine Fork.mk ?_ ?_ | (refine Two.mk (fun h => ?_) (fun h => ?_) <;> try first | contradiction | (exfalso; omega))
                exact endQ.resW Tryz.results122 ⟨R, ps, b.b, hR, hps, by rw [← hb]; rfl, by rw [← hb]; rfl, rfl⟩ (fun w h => goes w h)
      · repeat' first | refine adv ?_ | refine Side.go ?_ | refine Giv.mk fun _ => ?_ | refine All.mk fun q => ?_ | refine Fork.mk ?_ ?_ | (refine Two.mk (fun h => ?_) (fun h => ?_) <;> try first | contradiction | (exfalso; omega))
        refine XP.go [0] (by decide +kernel) (by decide) ?_
        refine List.forall_mem_cons.2 ⟨⟨_, rfl, ?_⟩, fun _ h => by cases h⟩
        · repeat' first | refine adv ?_ | refine Side.go ?_ | refine Giv.mk fun _ => ?_ | refine All.mk fun q => ?_ | refine Fork.mk ?_ ?_ | (refine Two.mk (fun h => ?_) (fun h => ?_) <;> try first | contradiction | (exfalso; omega))
          refine XP.go [3] (by decide +kernel) (by decide) ?_
          refine List.forall_mem_cons.2 ⟨⟨_, rfl, ?_⟩, fun _ h => by cases h⟩
          · repeat' first | refine adv ?_ | refine Side.go ?_ | refine Giv.mk fun _ => ?_ | refine All.mk fun q => ?_ | refine Fork.mk ?_ ?_ | (refine Two.mk (fun h => ?_) (fun h => ?_) <;> try first | contradiction | (exfalso; omega))
            refine XP.go [4] (by decide +kernel) (by decide) ?_
            refine List.forall_mem_cons.2 ⟨⟨_, rfl, ?_⟩, fun _ h => by cases h⟩
            · repeat' first | refine adv ?_ | refine Side.go ?_ | refine Giv.mk fun _ => ?_ | refine All.mk fun q => ?_ | refine Fork.mk ?_ ?_ | (refine Two.mk (fun h => ?_) (fun h => ?_) <;> try first | contradiction | (exfalso; omega))
              refine XP.go [5] (by decide +kernel) (by decide) ?_
              refine List.forall_mem_cons.2 ⟨⟨_, rfl, ?_⟩, fun _ h => by cases h⟩
              · repeat' first | refine adv ?_ | refine Side.go ?_ | refine Giv.mk fun _ => ?_ | refine All.mk fun q => ?_ | refine Fork.mk ?_ ?_ | (refine Two.mk (fun h => ?_) (fun h => ?_) <;> try first | contradiction | (exfalso; omega))
                refine XP.done (by decide +kernel) ?_
                repeat' first | refine adv ?_ | refine Side.go ?_ | refine Giv.mk fun _ => ?_ | refine All.mk fun q => ?_ | refine Fork.mk ?_ ?_ | (refine Two.mk (fun h => ?_) (fun h => ?_) <;> try first | contradiction | (exfalso; omega))
                exact endQ.resW Tryz.results122 ⟨R, ps, b.b, hR, hps, by rw [← hb]; rfl, by rw [← hb]; rfl, rfl⟩ (fun w h => goes w h)
  refine Sy_loop (ι := {st : Nat × Sl PutR × Blk // (st.1 ≤ l.xs.length ∧ st.2.1.xs.length ≤ st.1) ∧ rowGo 0 (0, 0) [] (raws l.xs) = rowGo st.1 (st.2.2.e, st.2.2.s) (st.2.1.xs.map PutR.v) (raws (l.xs.drop st.1))})
    (fun st => [(13, .int .i64 st.1.1), (12, .int .i64 l.xs.length), (11, l.val), (2, st.1.2.1.val), (3, .pointer (some ⟨x1, 0, none⟩)), (4, .bool false), (5, .pointer (some ⟨x2, 0, none⟩))])
    (fun st => cells true x2 0 [.int .i64 st.1.2.2.k, .int .i64 st.1.2.2.e, .int .i64 st.1.2.2.s, .int .i64 st.1.2.2.l, st.1.2.2.b.val] :: cells true x1 0 [.int .i64 0, .int .i64 0, .int .i64 0, .int .i64 0, .slice none 0 0] :: ownS st.1.2.1 :: roS l :: F)
    (fun st => l.xs.length - st.1.1) ⟨(0, ⟨none, 0, []⟩, ⟨0, 0, 0, 0, ⟨none, 0, []⟩⟩), ⟨Nat.zero_le _, Nat.zero_le _⟩, rfl⟩ (evs rfl (evs rfl (evs rfl (evs rfl (evs rfl (evs rfl (evs rfl .nil))))))) (fun w h => goes w (sat_true (own_nil (α := PutR)) h)) ?_
  rintro ⟨⟨k, ps, fb⟩, ⟨hk, hpl⟩, hgo⟩ env
  dsimp only [upds] at hk hpl hgo ⊢
  by_cases hk2 : k < l.xs.length
  · refine Sy_conv (pull_sl l hk2) ?_
    have hdrop : raws (l.xs.drop k) = l.xs[k].xs :: raws (l.xs.drop (k + 1)) := by rw [List.drop_eq_getElem_cons hk2]; rfl
    rw [hdrop, rowGo] at hgo
    repeat' first | refine adv ?_ | refine Side.go ?_ | refine Giv.mk fun _ => ?_ | refine All.mk fun q => ?_ | refine Fork.mk ?_ ?_ | (refine Two.mk (fun h => ?_) (fun h => ?_) <;> try first | contradiction | (exfalso; omega))
    refine CallG.use (frame_decode l.xs[k]) ?_
    rintro v M (⟨hd, a, c, rfl, rfl⟩ | ⟨hno, err, herr, rfl, rfl⟩)
    · rw [if_neg (fun h => h hd)] at hgo
      rcases hcut : cutB l.xs[k].xs with ⟨kd, ep, sq, lb, bd⟩
      rw [hcut] at hgo
      dsimp only [lcA, lnA] at hgo ⊢
      by_cases hk0 : k = 0
      · repeat' first | refine adv ?_ | refine Side.go ?_ | refine Giv.mk fun _ => ?_ | refine All.mk fun q => ?_ | refine Fork.mk ?_ ?_ | (refine Two.mk (fun h => ?_) (fun h => ?_) <;> try first | contradiction | (exfalso; omega))
        · rw [if_neg (by omega), if_pos (by omega)] at hgo
          exact ⟨_, ps, ⟨kd, ep, sq, lb, ⟨a, c, bd⟩⟩, ⟨hgo.symm, rfl, rfl⟩, ⟨rfl, rfl, rfl⟩, fun w h => goes w h⟩
        · refine AppG.oneP ps ⟨(lb : Int), ⟨a, c, bd⟩⟩ (by omega) (fun a2 c2 => ?_)
          repeat' first | refine adv ?_ | refine Side.go ?_ | refine Giv.mk fun _ => ?_ | refine All.mk fun q => ?_ | refine Fork.mk ?_ ?_ | (refine Two.mk (fun h => ?_) (fun h => ?_) <;> try first | contradiction | (exfalso; omega))
          rw [if_neg (by omega), if_neg (by omega), if_pos hk0] at hgo
          refine loopQ.next ⟨(k + 1, ⟨a2, c2, ps.xs ++ [⟨(lb : Int), ⟨a, c, bd⟩⟩]⟩, ⟨kd, ep, sq, lb, ⟨a, c, bd⟩⟩), ⟨by dsimp only; omega, by simp; omega⟩, ?_⟩ (by simp only []; omega) (evs rfl (evs rfl (evs rfl (evs rfl (evs rfl (evs rfl (evs rfl .nil))))))) (fun w h => goes w h)
          dsimp only
          rw [hgo, List.map_append]; rfl
      · repeat' first | refine adv ?_ | refine Side.go ?_ | refine Giv.mk fun _ => ?_ | refine All.mk fun q => ?_ | refine Fork.mk ?_ ?_ | (refine Two.mk (fun h => ?_) (fun h => ?_) <;> try first | contradiction | (exfalso; omega))
        · rw [if_pos (by omega)] at hgo
          exact ⟨_, ps, ⟨0, 0, 0, 0, ⟨none, 0, []⟩⟩, ⟨hgo.symm, rfl, rfl⟩, ⟨rfl, rfl, rfl⟩, fun w h => goes w h⟩
        · rw [if_pos (by omega)] at hgo
          exact ⟨_, ps, ⟨0, 0, 0, 0, ⟨none, 0, []⟩⟩, ⟨hgo.symm, rfl, rfl⟩, ⟨rfl, rfl, rfl⟩, fun w h => goes w h⟩
        · rw [if_neg (by omega), if_pos (by omega)] at hgo
          exact ⟨_, ps, ⟨kd, ep, sq, lb, ⟨a, c, bd⟩⟩, ⟨hgo.symm, rfl, rfl⟩, ⟨rfl, rfl, rfl⟩, fun w h => goes w h⟩
        · refine AppG.oneP ps ⟨(lb : Int), ⟨a, c, bd⟩⟩ (by omega) (fun a2 c2 => ?_)
          repeat' first | refine adv ?_ | refine Side.go ?_ | refine Giv.mk fun _ => ?_ | refine All.mk fun q => ?_ | refine Fork.mk ?_ ?_ | (refine Two.mk (fun h => ?_) (fun h => ?_) <;> try first | contradiction | (exfalso; omega))
          rw [if_neg (by omega), if_neg (by omega), if_neg hk0] at hgo
          refine loopQ.next ⟨(k + 1, ⟨a2, c2, ps.xs ++ [⟨(lb : Int), ⟨a, c, bd⟩⟩]⟩, fb), ⟨by dsimp only; omega, by simp; omega⟩, ?_⟩ (by simp only []; omega) (evs rfl (evs rfl (evs rfl (evs rfl (evs rfl (evs rfl (evs rfl .nil))))))) (fun w h => goes w h)
          dsimp only
          rw [hgo, List.map_append]; rfl
    · rw [if_pos hno] at hgo
      dsimp only [lcA, lnA]
      repeat' first | refine adv ?_ | refine Side.go ?_ | refine Giv.mk fun _ => ?_ | refine All.mk fun q => ?_ | refine Fork.mk ?_ ?_ | (refine Two.mk (fun h => ?_) (fun h => ?_) <;> try first | contradiction | (exfalso; omega))
      all_goals exact ⟨_, ps, ⟨0, 0, 0, 0, ⟨none, 0, []⟩⟩, ⟨hgo.symm, rfl, rfl⟩, ⟨rfl, rfl, rfl⟩, fun w h => goes w h⟩
  · have hk3 : k = l.xs.length := by omega
    subst hk3
    rw [List.drop_of_length_le (Nat.le_refl _)] at hgo
    repeat' first | refine adv ?_ | refine Side.go ?_ | refine Giv.mk fun _ => ?_ | refine All.mk fun q => ?_ | refine Fork.mk ?_ ?_ | (refine Two.mk (fun h => ?_) (fun h => ?_) <;> try first | contradiction | (exfalso; omega))
    exact ⟨_, ps, ⟨0, 0, 0, 0, ⟨none, 0, []⟩⟩, ⟨hgo.symm, rfl, rfl⟩, ⟨rfl, rfl, rfl⟩, fun w h => goes w h⟩
end Go.SL
namespace Go.SL
open Go.Proofs
set_option synthInstance.maxSize 4000
set_option synthInstance.maxHeartbeats 400000
set_option maxRecDepth 4000
set_option maxHeartbeats 2000000

def cutTxs : Nat → Nat → Nat → List UInt8 → List UInt8 → List PV → List TV → Option (List TV × List PV)
  | 0, _, _, _, _, puts, acc => some (acc, puts)
  | r + 1, i, time, st, cn, puts, acc =>
    if puts.length < (cn[i]?.getD 0).toNat ∨ (i = 0 ∧ ((st[0]?.getD 0) ||| (st[1]?.getD 0)) ≠ 0) then none
    else cutTxs r (i + 1) (time + (st[2 * i]?.getD 0).toNat + 256 * (st[2 * i + 1]?.getD 0).toNat) st cn (puts.drop (cn[i]?.getD 0).toNat)
      (acc ++ [(((time + (st[2 * i]?.getD 0).toNat + 256 * (st[2 * i + 1]?.getD 0).toNat : Nat) : Int), puts.take (cn[i]?.getD 0).toNat)])
def batchOf (fr : Fr) (puts : List PV) : Option (List TV) :=
  if fr.1 ≠ 2 ∨ fr.2.2.2.1 ≠ puts.length ∨ fr.2.2.2.2.length < 9 then none
  else if fr.2.2.2.2.length ≠ 9 + 3 * (fr.2.2.2.2[8]?.getD 0).toNat then none
  else match cutTxs (fr.2.2.2.2[8]?.getD 0).toNat 0 (min (leN fr.2.2.2.2 8) 4611686018427387904) ((fr.2.2.2.2.take (9 + 2 * (fr.2.2.2.2[8]?.getD 0).toNat)).drop 9) (fr.2.2.2.2.drop (9 + 2 * (fr.2.2.2.2[8]?.getD 0).toNat)) puts [] with
    | some (l, rest) => if rest.length = 0 ∧ checkB fr.2.2.1 l = true then some l else none
    | none => none

theorem sh8 (n : Nat) : (n : Int) * 2 ^ 8 = ((n * 256 : Nat) : Int) := by rw [show (2 : Int) ^ 8 = 256 from rfl]; omega
theorem or8 {a : Nat} (h : a < 2 ^ 8) (b : Nat) : a ||| b * 256 = a + 256 * b := by
  have := Nat.two_pow_add_eq_or_of_lt h b
  rw [Nat.or_comm, Nat.mul_comm b, Nat.add_comm a]
  exact this.symm
theorem min_cast (a b : Nat) : min (a : Int) (OfNat.ofNat b : Int) = ((min a b : Nat) : Int) := by
  show min (a : Int) (b : Int) = _
  omega
theorem batch_batch (k e s l : Nat) (hs : s < 9223372036854775808) (body : Sl UInt8) (hb : body.xs.length ≤ 64) (puts : Sl PutR) :
    Spec Tryz.prog 123 #[.agg #[.int .i64 k, .int .i64 e, .int .i64 s, .int .i64 l, body.val], puts.val] [roS body, roS puts] (fun v L =>
      (batchOf (k, e, s, l, body.xs) (puts.xs.map PutR.v) = none ∧ ∃ (z : Int) (a : Option Addr) (n c : Nat), v = .tuple #[.agg #[.int .i64 z, .slice a n c], .bool false] ∧ L = []) ∨
      (∃ t : Sl TxR, batchOf (k, e, s, l, body.xs) (puts.xs.map PutR.v) = some (t.xs.map TxR.v) ∧ v = .tuple #[.agg #[.int .i64 s, t.val], .bool true] ∧ L = [roS t])) := by
  refine enter2 Tryz.func123 rfl (by decide) (by decide) ?_
  intro B F
  dsimp only [lcA, lnA]
  refine Sy_know (fun B w h => ro_ok puts B w h) (fun hp => ?_)
  have hpl := hp.len
  repeat' first | refine adv ?_ | refine Side.go ?_ | refine Giv.mk fun _ => ?_ | refine All.mk fun q => ?_ | refine Fork.mk ?_ ?_ | (refine Two.mk (fun h => ?_) (fun h => ?_) <;> try first | contradiction | (exfalso; omega))
  · exact endQ.res Tryz.results123 (.inl ⟨by rw [batchOf, if_pos (by dsimp only; omega)], _, _, _, _, rfl, rfl⟩)
  · exact endQ.res Tryz.results123 (.inl ⟨by rw [batchOf, if_pos (by dsimp only; rw [List.length_map]; omega)], _, _, _, _, rfl, rfl⟩)
  · exact endQ.res Tryz.results123 (.inl ⟨by rw [batchOf, if_pos (by dsimp only; omega)], _, _, _, _, rfl, rfl⟩)
  · have h8 : (body.xs[8]?.getD 0) = body.xs[8] := by rw [List.getElem?_eq_getElem (by omega)]; rfl
    exact endQ.res Tryz.results123 (.inl ⟨by rw [batchOf, if_neg (by dsimp only; rw [List.length_map]; omega), if_pos (by dsimp only; rw [h8]; omega)], _, _, _, _, rfl, rfl⟩)
  have h8 : (body.xs[8]?.getD 0) = body.xs[8] := by rw [List.getElem?_eq_getElem (by omega)]; rfl
  have h8b : body.xs[8].toNat < 256 := body.xs[8].toNat_lt
  have hn : body.xs.length = 9 + 3 * body.xs[8].toNat := by omega
  have hB : batchOf (k, e, s, l, body.xs) (puts.xs.map PutR.v) = match cutTxs body.xs[8].toNat 0 (min (leN body.xs 8) 4611686018427387904) ((body.xs.take (9 + 2 * body.xs[8].toNat)).drop 9) (body.xs.drop (9 + 2 * body.xs[8].toNat)) (puts.xs.map PutR.v) [] with
      | some (l, rest) => if rest.length = 0 ∧ checkB s l = true then some l else none
      | none => none := by
    rw [batchOf, if_neg (by dsimp only; rw [List.length_map]; omega), if_neg (by dsimp only; rw [h8]; omega)]
    dsimp only
    rw [h8]
  refine CallG.use (get64_spec body) ?_
  rintro r M ⟨rfl, rfl⟩
  dsimp only [lcA, lnA]
  have hgr : getR body.xs 8 = leN body.xs 8 := by unfold getR; rw [if_neg (by omega)]
  have hlt : leN body.xs 8 < 2 ^ 64 := leN_lt body.xs 8
  rw [hgr]
  repeat' first | refine adv ?_ | refine Side.go ?_ | refine Giv.mk fun _ => ?_ | refine All.mk fun q => ?_ | refine Fork.mk ?_ ?_ | (refine Two.mk (fun h => ?_) (fun h => ?_) <;> try first | contradiction | (exfalso; omega))
  all_goals have hto : ((9 : Int) + (2 : Int) * (body.xs[8].toNat : Int)).toNat = 9 + 2 * body.xs[8].toNat := by omega
  all_goals simp only [hto]
  all_goals have hst : ((body.xs.take (9 + 2 * body.xs[8].toNat)).drop 9).length = 2 * body.xs[8].toNat := by rw [List.length_drop, List.length_take]; omega
  all_goals have hcn : (body.xs.drop (9 + 2 * body.xs[8].toNat)).length = body.xs[8].toNat := by rw [List.length_drop]; omega
  all_goals rw [show (body.xs.take body.xs.length).drop (9 + 2 * body.xs[8].toNat) = body.xs.drop (9 + 2 * body.xs[8].toNat) from by rw [List.take_length]]
  all_goals have hmin : (min (leN body.xs 8 : Int) (4611686018427387904 : Int)) = ((min (leN body.xs 8) 4611686018427387904 : Nat) : Int) := min_cast _ _
  all_goals simp only [hmin]
  all_goals have hT0 : min (leN body.xs 8) 4611686018427387904 ≤ 4611686018427387904 := Nat.min_le_right _ _
  all_goals generalize min (leN body.xs 8) 4611686018427387904 = T0 at hB hT0 ⊢
  · rename_i x2 x4 _ _ _ _ _ a1
    obtain ⟨st, est⟩ : ∃ st, st = (body.xs.take (9 + 2 * body.xs[8].toNat)).drop 9 := ⟨_, rfl⟩
    obtain ⟨cn, ecn⟩ : ∃ cn, cn = body.xs.drop (9 + 2 * body.xs[8].toNat) := ⟨_, rfl⟩
    obtain ⟨n, en⟩ : ∃ n, n = body.xs[8].toNat := ⟨_, rfl⟩
    obtain ⟨c1, ec1⟩ : ∃ c1, c1 = body.c - 9 := ⟨_, rfl⟩
    obtain ⟨c2, ec2⟩ : ∃ c2, c2 = body.c - (9 + 2 * body.xs[8].toNat) := ⟨_, rfl⟩
    rw [← est] at hst hB
    rw [← ecn] at hcn hB
    rw [← en] at hst hcn hB h8b hn
    refine Sy_loop (ι := {t : Nat × Nat × Sl PutR × Sl TxR // (t.1 ≤ n ∧ t.2.1 ≤ T0 + 65535 * t.1 ∧ t.2.2.2.xs.length = t.1) ∧
          cutTxs n 0 T0 st cn (puts.xs.map PutR.v) [] = cutTxs (n - t.1) t.1 t.2.1 st cn (t.2.2.1.xs.map PutR.v) (t.2.2.2.xs.map TxR.v)})
      (fun t => [(69, .int .i64 t.1.1), (68, .int .i64 n), (9, .slice a1 st.length c1), (10, .slice q cn.length c2), (11, .int .i64 t.1.2.1), (1, t.1.2.2.1.val), (4, .pointer (some ⟨x4, 0, none⟩)), (5, .bool false)])
      (fun t => cells true x4 0 [.int .i64 s, t.1.2.2.2.val] :: ownS t.1.2.2.2 :: roS t.1.2.2.1 :: roS (⟨a1, c1, st⟩ : Sl UInt8) :: roS (⟨q, c2, cn⟩ : Sl UInt8) :: F) (fun t => n - t.1.1)
      ⟨(0, T0, puts, ⟨none, 0, []⟩), ⟨Nat.zero_le _, by dsimp only; omega, rfl⟩, by dsimp only; rw [Nat.sub_zero]; rfl⟩ (evs rfl (evs (by rw [en]) (evs (by rw [est, ec1]) (evs (by rw [ecn, ec2]) (evs rfl (evs rfl (evs rfl (evs rfl .nil)))))))) (fun w h => ?_) ?_
    · dsimp only
      rw [est, ecn, ec1, ec2]
      exact goes w (sat_true (own_nil (α := TxR)) h)
    rintro ⟨⟨i, tm, ps, ts⟩, ⟨hi, htm, htl⟩, hgo⟩ env
    dsimp only [upds] at hi htm htl hgo ⊢
    rw [hgo] at hB
    clear est ecn en ec1 ec2
    refine Sy_know (fun B w h => ro_ok ps B w h) (fun hps => ?_)
    have hpsl := hps.len
    by_cases hi2 : i < n
    · have en2 : n - i = (n - (i + 1)) + 1 := by omega
      rw [en2, cutTxs] at hB
      have e1 : st[2 * i]?.getD 0 = st[2 * i]'(by omega) := by rw [List.getElem?_eq_getElem (by omega)]; rfl
      have e2 : st[2 * i + 1]?.getD 0 = st[2 * i + 1]'(by omega) := by rw [List.getElem?_eq_getElem (by omega)]; rfl
      have e3 : cn[i]?.getD 0 = cn[i]'(by omega) := by rw [List.getElem?_eq_getElem (by omega)]; rfl
      rw [e1, e2, e3] at hB
      have b1 := (st[2 * i]'(by omega)).toNat_lt
      have b2 := (st[2 * i + 1]'(by omega)).toNat_lt
      have b3 := (cn[i]'(by omega)).toNat_lt
      have hix1 : ((2 : Int) * (i : Int)).toNat = 2 * i := by omega
      have hix2 : ((2 : Int) * (i : Int) + (1 : Int)).toNat = 2 * i + 1 := by omega
      repeat' first | refine adv ?_ | refine Side.go ?_ | refine Giv.mk fun _ => ?_ | refine All.mk fun q => ?_ | refine Fork.mk ?_ ?_ | (refine Two.mk (fun h => ?_) (fun h => ?_) <;> try first | contradiction | (exfalso; omega))
      simp only [hix1, hix2]
      repeat' first | refine adv ?_ | refine Side.go ?_ | refine Giv.mk fun _ => ?_ | refine All.mk fun q => ?_ | refine Fork.mk ?_ ?_ | (refine Two.mk (fun h => ?_) (fun h => ?_) <;> try first | contradiction | (exfalso; omega))
      simp only [sh8]
      repeat' first | refine adv ?_ | refine Side.go ?_ | refine Giv.mk fun _ => ?_ | refine All.mk fun q => ?_ | refine Fork.mk ?_ ?_ | (refine Two.mk (fun h => ?_) (fun h => ?_) <;> try first | contradiction | (exfalso; omega))
      simp only [Int.toNat_natCast, or8 b1]
      repeat' first | refine adv ?_ | refine Side.go ?_ | refine Giv.mk fun _ => ?_ | refine All.mk fun q => ?_ | refine Fork.mk ?_ ?_ | (refine Two.mk (fun h => ?_) (fun h => ?_) <;> try first | contradiction | (exfalso; omega))
      · rw [if_pos (.inl (by rw [List.length_map]; dsimp only at h; omega))] at hB
        exact endQ.res Tryz.results123 (.inl ⟨hB, _, _, _, _, rfl, rfl⟩)
      · have l0 : 0 < st.length := by omega
        have l1 : 1 < st.length := by omega
        have f0 : st[0]?.getD 0 = st[0] := by rw [List.getElem?_eq_getElem l0]; rfl
        have f1 : st[1]?.getD 0 = st[1] := by rw [List.getElem?_eq_getElem l1]; rfl
        have g0 := st[0].toNat_lt
        have g1 := st[1].toNat_lt
        have hor : (st[0].toNat ||| st[1].toNat) = (st[0] ||| st[1]).toNat := (UInt8.toNat_or _ _).symm
        dsimp only
        repeat' first | refine adv ?_ | refine Side.go ?_ | refine Giv.mk fun _ => ?_ | refine All.mk fun q => ?_ | refine Fork.mk ?_ ?_ | (refine Two.mk (fun h => ?_) (fun h => ?_) <;> try first | contradiction | (exfalso; omega))
        · rw [f0, f1] at hB
          rw [if_pos (.inr ⟨by dsimp only at *; omega, fun e => h (by rw [hor, e]; rfl)⟩)] at hB
          exact endQ.res Tryz.results123 (.inl ⟨hB, _, _, _, _, rfl, rfl⟩)
        · have hle : (cn[i]'(by omega)).toNat ≤ ps.xs.length := by dsimp only at *; omega
          have hz : ¬ (st[0] ||| st[1]) ≠ 0 := fun e => e (by
            apply UInt8.toNat.inj
            rw [← hor]; show _ = 0; omega)
          have hcc : ¬ ((ps.xs.map PutR.v).length < (cn[i]'(by omega)).toNat ∨ (i = 0 ∧ ((st[0]?.getD 0) ||| (st[1]?.getD 0)) ≠ 0)) := fun hc => hc.elim (fun h1 => by rw [List.length_map] at h1; omega) (fun h2 => hz (by rw [f0, f1] at h2; exact h2.2))
          rw [if_neg hcc] at hB
          repeat' first | refine adv ?_ | refine Side.go ?_ | refine Giv.mk fun _ => ?_ | refine All.mk fun q => ?_ | refine Fork.mk ?_ ?_ | (refine Two.mk (fun h => ?_) (fun h => ?_) <;> try first | contradiction | (exfalso; omega))
          have htc : ((tm : Int) + ((st[2 * i].toNat + 256 * st[2 * i + 1].toNat : Nat) : Int)) = ((tm + st[2 * i].toNat + 256 * st[2 * i + 1].toNat : Nat) : Int) := by omega
          rw [htc]
          rename_i a9
          refine AppG.oneT ts ⟨((tm + st[2 * i].toNat + 256 * st[2 * i + 1].toNat : Nat) : Int), ⟨a9, cn[i].toNat, ps.xs.take cn[i].toNat⟩⟩ (by omega) (fun a5 c5 => ?_)
          repeat' first | refine adv ?_ | refine Side.go ?_ | refine Giv.mk fun _ => ?_ | refine All.mk fun q => ?_ | refine Fork.mk ?_ ?_ | (refine Two.mk (fun h => ?_) (fun h => ?_) <;> try first | contradiction | (exfalso; omega))
          refine loopQ.next ⟨(i + 1, tm + st[2 * i].toNat + 256 * st[2 * i + 1].toNat, ⟨q, ps.c - cn[i].toNat, (ps.xs.take ps.xs.length).drop cn[i].toNat⟩, ⟨a5, c5, ts.xs ++ [⟨((tm + st[2 * i].toNat + 256 * st[2 * i + 1].toNat : Nat) : Int), ⟨a9, cn[i].toNat, ps.xs.take cn[i].toNat⟩⟩]⟩), ⟨by dsimp only; omega, by dsimp only; omega, by simp; omega⟩, ?_⟩ (by simp only []; omega) (evs rfl (evs rfl (evs rfl (evs rfl (evs rfl (evs rfl (evs rfl (evs rfl .nil)))))))) (fun w h => goes w h)
          dsimp only
          rw [hgo, en2, cutTxs, e1, e2, e3, if_neg hcc, List.take_length, List.map_drop, List.map_append, List.map_cons, List.map_nil, TxR.v, List.map_take]
      · have hle : (cn[i]'(by omega)).toNat ≤ ps.xs.length := by dsimp only at *; omega
        have hi0 : i ≠ 0 := by omega
        have hcc : ¬ ((ps.xs.map PutR.v).length < (cn[i]'(by omega)).toNat ∨ (i = 0 ∧ ((st[0]?.getD 0) ||| (st[1]?.getD 0)) ≠ 0)) := fun hc => hc.elim (fun h1 => by rw [List.length_map] at h1; omega) (fun h2 => hi0 h2.1)
        rw [if_neg hcc] at hB
        repeat' first | refine adv ?_ | refine Side.go ?_ | refine Giv.mk fun _ => ?_ | refine All.mk fun q => ?_ | refine Fork.mk ?_ ?_ | (refine Two.mk (fun h => ?_) (fun h => ?_) <;> try first | contradiction | (exfalso; omega))
        have htc : ((tm : Int) + ((st[2 * i].toNat + 256 * st[2 * i + 1].toNat : Nat) : Int)) = ((tm + st[2 * i].toNat + 256 * st[2 * i + 1].toNat : Nat) : Int) := by omega
        rw [htc]
        rename_i a9
        refine AppG.oneT ts ⟨((tm + st[2 * i].toNat + 256 * st[2 * i + 1].toNat : Nat) : Int), ⟨a9, cn[i].toNat, ps.xs.take cn[i].toNat⟩⟩ (by omega) (fun a5 c5 => ?_)
        repeat' first | refine adv ?_ | refine Side.go ?_ | refine Giv.mk fun _ => ?_ | refine All.mk fun q => ?_ | refine Fork.mk ?_ ?_ | (refine Two.mk (fun h => ?_) (fun h => ?_) <;> try first | contradiction | (exfalso; omega))
        refine loopQ.next ⟨(i + 1, tm + st[2 * i].toNat + 256 * st[2 * i + 1].toNat, ⟨q, ps.c - cn[i].toNat, (ps.xs.take ps.xs.length).drop cn[i].toNat⟩, ⟨a5, c5, ts.xs ++ [⟨((tm + st[2 * i].toNat + 256 * st[2 * i + 1].toNat : Nat) : Int), ⟨a9, cn[i].toNat, ps.xs.take cn[i].toNat⟩⟩]⟩), ⟨by dsimp only; omega, by dsimp only; omega, by simp; omega⟩, ?_⟩ (by simp only []; omega) (evs rfl (evs rfl (evs rfl (evs rfl (evs rfl (evs rfl (evs rfl (evs rfl .nil)))))))) (fun w h => goes w h)
        dsimp only
        rw [hgo, en2, cutTxs, e1, e2, e3, if_neg hcc, List.take_length, List.map_drop, List.map_append, List.map_cons, List.map_nil, TxR.v, List.map_take]
    · have hi3 : i = n := by omega
      subst hi3
      rw [Nat.sub_self, cutTxs] at hB
      dsimp only at hB
      have hps0 : (ps.xs.map PutR.v).length = ps.xs.length := List.length_map _
      repeat' first | refine adv ?_ | refine Side.go ?_ | refine Giv.mk fun _ => ?_ | refine All.mk fun q => ?_ | refine Fork.mk ?_ ?_ | (refine Two.mk (fun h => ?_) (fun h => ?_) <;> try first | contradiction | (exfalso; omega))
      · refine CallG.freeze ts ?_
        refine CallG.use (batch_check s ts) ?_
        rintro r M ⟨rfl, rfl⟩
        dsimp only [lcA, lnA]
        by_cases hck : checkB s (ts.xs.map TxR.v) = true
        · rw [if_pos hck]
          rw [if_pos ⟨by omega, hck⟩] at hB
          repeat' first | refine adv ?_ | refine Side.go ?_ | refine Giv.mk fun _ => ?_ | refine All.mk fun q => ?_ | refine Fork.mk ?_ ?_ | (refine Two.mk (fun h => ?_) (fun h => ?_) <;> try first | contradiction | (exfalso; omega))
          exact endQ.resW Tryz.results123 (.inr ⟨ts, hB, rfl, rfl⟩) (fun w h => goes w h)
        · rw [if_neg hck]
          rw [if_neg (fun hc => hck hc.2)] at hB
          repeat' first | refine adv ?_ | refine Side.go ?_ | refine Giv.mk fun _ => ?_ | refine All.mk fun q => ?_ | refine Fork.mk ?_ ?_ | (refine Two.mk (fun h => ?_) (fun h => ?_) <;> try first | contradiction | (exfalso; omega))
          exact endQ.res Tryz.results123 (.inl ⟨hB, _, _, _, _, rfl, rfl⟩)
      · rw [if_neg (fun hc => h (by omega))] at hB
        exact endQ.res Tryz.results123 (.inl ⟨hB, _, _, _, _, rfl, rfl⟩)
  · rename_i x2 x4 _ _ _ _ _ a1
    obtain ⟨st, est⟩ : ∃ st, st = (body.xs.take (9 + 2 * body.xs[8].toNat)).drop 9 := ⟨_, rfl⟩
    obtain ⟨cn, ecn⟩ : ∃ cn, cn = body.xs.drop (9 + 2 * body.xs[8].toNat) := ⟨_, rfl⟩
    obtain ⟨n, en⟩ : ∃ n, n = body.xs[8].toNat := ⟨_, rfl⟩
    obtain ⟨c1, ec1⟩ : ∃ c1, c1 = body.c - 9 := ⟨_, rfl⟩
    obtain ⟨c2, ec2⟩ : ∃ c2, c2 = body.c - (9 + 2 * body.xs[8].toNat) := ⟨_, rfl⟩
    rw [← est] at hst hB
    rw [← ecn] at hcn hB
    rw [← en] at hst hcn hB h8b hn
    refine Sy_loop (ι := {t : Nat × Nat × Sl PutR × Sl TxR // (t.1 ≤ n ∧ t.2.1 ≤ T0 + 65535 * t.1 ∧ t.2.2.2.xs.length = t.1) ∧
          cutTxs n 0 T0 st cn (puts.xs.map PutR.v) [] = cutTxs (n - t.1) t.1 t.2.1 st cn (t.2.2.1.xs.map PutR.v) (t.2.2.2.xs.map TxR.v)})
      (fun t => [(69, .int .i64 t.1.1), (68, .int .i64 n), (9, .slice q st.length c1), (10, .slice a1 cn.length c2), (11, .int .i64 t.1.2.1), (1, t.1.2.2.1.val), (4, .pointer (some ⟨x4, 0, none⟩)), (5, .bool false)])
      (fun t => cells true x4 0 [.int .i64 s, t.1.2.2.2.val] :: ownS t.1.2.2.2 :: roS t.1.2.2.1 :: roS (⟨q, c1, st⟩ : Sl UInt8) :: roS (⟨a1, c2, cn⟩ : Sl UInt8) :: F) (fun t => n - t.1.1)
      ⟨(0, T0, puts, ⟨none, 0, []⟩), ⟨Nat.zero_le _, by dsimp only; omega, rfl⟩, by dsimp only; rw [Nat.sub_zero]; rfl⟩ (evs rfl (evs (by rw [en]) (evs (by rw [est, ec1]) (evs (by rw [ecn, ec2]) (evs rfl (evs rfl (evs rfl (evs rfl .nil)))))))) (fun w h => ?_) ?_
    · dsimp only
      rw [est, ecn, ec1, ec2]
      exact goes w (sat_true (own_nil (α := TxR)) h)
    rintro ⟨⟨i, tm, ps, ts⟩, ⟨hi, htm, htl⟩, hgo⟩ env
    dsimp only [upds] at hi htm htl hgo ⊢
    rw [hgo] at hB
    clear est ecn en ec1 ec2
    refine Sy_know (fun B w h => ro_ok ps B w h) (fun hps => ?_)
    have hpsl := hps.len
    by_cases hi2 : i < n
    · have en2 : n - i = (n - (i + 1)) + 1 := by omega
      rw [en2, cutTxs] at hB
      have e1 : st[2 * i]?.getD 0 = st[2 * i]'(by omega) := by rw [List.getElem?_eq_getElem (by omega)]; rfl
      have e2 : st[2 * i + 1]?.getD 0 = st[2 * i + 1]'(by omega) := by rw [List.getElem?_eq_getElem (by omega)]; rfl
      have e3 : cn[i]?.getD 0 = cn[i]'(by omega) := by rw [List.getElem?_eq_getElem (by omega)]; rfl
      rw [e1, e2, e3] at hB
      have b1 := (st[2 * i]'(by omega)).toNat_lt
      have b2 := (st[2 * i + 1]'(by omega)).toNat_lt
      have b3 := (cn[i]'(by omega)).toNat_lt
      have hix1 : ((2 : Int) * (i : Int)).toNat = 2 * i := by omega
      have hix2 : ((2 : Int) * (i : Int) + (1 : Int)).toNat = 2 * i + 1 := by omega
      repeat' first | refine adv ?_ | refine Side.go ?_ | refine Giv.mk fun _ => ?_ | refine All.mk fun q => ?_ | refine Fork.mk ?_ ?_ | (refine Two.mk (fun h => ?_) (fun h => ?_) <;> try first | contradiction | (exfalso; omega))
      simp only [hix1, hix2]
      repeat' first | refine adv ?_ | refine Side.go ?_ | refine Giv.mk fun _ => ?_ | refine All.mk fun q => ?_ | refine Fork.mk ?_ ?_ | (refine Two.mk (fun h => ?_) (fun h => ?_) <;> try first | contradiction | (exfalso; omega))
      simp only [sh8]
      repeat' first | refine adv ?_ | refine Side.go ?_ | refine Giv.mk fun _ => ?_ | refine All.mk fun q => ?_ | refine Fork.mk ?_ ?_ | (refine Two.mk (fun h => ?_) (fun h => ?_) <;> try first | contradiction | (exfalso; omega))
      simp only [Int.toNat_natCast, or8 b1]
      repeat' first | refine adv ?_ | refine Side.go ?_ | refine Giv.mk fun _ => ?_ | refine All.mk fun q => ?_ | refine Fork.mk ?_ ?_ | (refine Two.mk (fun h => ?_) (fun h => ?_) <;> try first | contradiction | (exfalso; omega))
      · rw [if_pos (.inl (by rw [List.length_map]; dsimp only at h; omega))] at hB
        exact endQ.res Tryz.results123 (.inl ⟨hB, _, _, _, _, rfl, rfl⟩)
      · have l0 : 0 < st.length := by omega
        have l1 : 1 < st.length := by omega
        have f0 : st[0]?.getD 0 = st[0] := by rw [List.getElem?_eq_getElem l0]; rfl
        have f1 : st[1]?.getD 0 = st[1] := by rw [List.getElem?_eq_getElem l1]; rfl
        have g0 := st[0].toNat_lt
        have g1 := st[1].toNat_lt
        have hor : (st[0].toNat ||| st[1].toNat) = (st[0] ||| st[1]).toNat := (UInt8.toNat_or _ _).symm
        dsimp only
        repeat' first | refine adv ?_ | refine Side.go ?_ | refine Giv.mk fun _ => ?_ | refine All.mk fun q => ?_ | refine Fork.mk ?_ ?_ | (refine Two.mk (fun h => ?_) (fun h => ?_) <;> try first | contradiction | (exfalso; omega))
        · rw [f0, f1] at hB
          rw [if_pos (.inr ⟨by dsimp only at *; omega, fun e => h (by rw [hor, e]; rfl)⟩)] at hB
          exact endQ.res Tryz.results123 (.inl ⟨hB, _, _, _, _, rfl, rfl⟩)
        · have hle : (cn[i]'(by omega)).toNat ≤ ps.xs.length := by dsimp only at *; omega
          have hz : ¬ (st[0] ||| st[1]) ≠ 0 := fun e => e (by
            apply UInt8.toNat.inj
            rw [← hor]; show _ = 0; omega)
          have hcc : ¬ ((ps.xs.map PutR.v).length < (cn[i]'(by omega)).toNat ∨ (i = 0 ∧ ((st[0]?.getD 0) ||| (st[1]?.getD 0)) ≠ 0)) := fun hc => hc.elim (fun h1 => by rw [List.length_map] at h1; omega) (fun h2 => hz (by rw [f0, f1] at h2; exact h2.2))
          rw [if_neg hcc] at hB
          repeat' first | refine adv ?_ | refine Side.go ?_ | refine Giv.mk fun _ => ?_ | refine All.mk fun q => ?_ | refine Fork.mk ?_ ?_ | (refine Two.mk (fun h => ?_) (fun h => ?_) <;> try first | contradiction | (exfalso; omega))
          have htc : ((tm : Int) + ((st[2 * i].toNat + 256 * st[2 * i + 1].toNat : Nat) : Int)) = ((tm + st[2 * i].toNat + 256 * st[2 * i + 1].toNat : Nat) : Int) := by omega
          rw [htc]
          rename_i a9
          refine AppG.oneT ts ⟨((tm + st[2 * i].toNat + 256 * st[2 * i + 1].toNat : Nat) : Int), ⟨a9, cn[i].toNat, ps.xs.take cn[i].toNat⟩⟩ (by omega) (fun a5 c5 => ?_)
          repeat' first | refine adv ?_ | refine Side.go ?_ | refine Giv.mk fun _ => ?_ | refine All.mk fun q => ?_ | refine Fork.mk ?_ ?_ | (refine Two.mk (fun h => ?_) (fun h => ?_) <;> try first | contradiction | (exfalso; omega))
          refine loopQ.next ⟨(i + 1, tm + st[2 * i].toNat + 256 * st[2 * i + 1].toNat, ⟨q, ps.c - cn[i].toNat, (ps.xs.take ps.xs.length).drop cn[i].toNat⟩, ⟨a5, c5, ts.xs ++ [⟨((tm + st[2 * i].toNat + 256 * st[2 * i + 1].toNat : Nat) : Int), ⟨a9, cn[i].toNat, ps.xs.take cn[i].toNat⟩⟩]⟩), ⟨by dsimp only; omega, by dsimp only; omega, by simp; omega⟩, ?_⟩ (by simp only []; omega) (evs rfl (evs rfl (evs rfl (evs rfl (evs rfl (evs rfl (evs rfl (evs rfl .nil)))))))) (fun w h => goes w h)
          dsimp only
          rw [hgo, en2, cutTxs, e1, e2, e3, if_neg hcc, List.take_length, List.map_drop, List.map_append, List.map_cons, List.map_nil, TxR.v, List.map_take]
      · have hle : (cn[i]'(by omega)).toNat ≤ ps.xs.length := by dsimp only at *; omega
        have hi0 : i ≠ 0 := by omega
        have hcc : ¬ ((ps.xs.map PutR.v).length < (cn[i]'(by omega)).toNat ∨ (i = 0 ∧ ((st[0]?.getD 0) ||| (st[1]?.getD 0)) ≠ 0)) := fun hc => hc.elim (fun h1 => by rw [List.length_map] at h1; omega) (fun h2 => hi0 h2.1)
        rw [if_neg hcc] at hB
        repeat' first | refine adv ?_ | refine Side.go ?_ | refine Giv.mk fun _ => ?_ | refine All.mk fun q => ?_ | refine Fork.mk ?_ ?_ | (refine Two.mk (fun h => ?_) (fun h => ?_) <;> try first | contradiction | (exfalso; omega))
        have htc : ((tm : Int) + ((st[2 * i].toNat + 256 * st[2 * i + 1].toNat : Nat) : Int)) = ((tm + st[2 * i].toNat + 256 * st[2 * i + 1].toNat : Nat) : Int) := by omega
        rw [htc]
        rename_i a9
        refine AppG.oneT ts ⟨((tm + st[2 * i].toNat + 256 * st[2 * i + 1].toNat : Nat) : Int), ⟨a9, cn[i].toNat, ps.xs.take cn[i].toNat⟩⟩ (by omega) (fun a5 c5 => ?_)
        repeat' first | refine adv ?_ | refine Side.go ?_ | refine Giv.mk fun _ => ?_ | refine All.mk fun q => ?_ | refine Fork.mk ?_ ?_ | (refine Two.mk (fun h => ?_) (fun h => ?_) <;> try first | contradiction | (exfalso; omega))
        refine loopQ.next ⟨(i + 1, tm + st[2 * i].toNat + 256 * st[2 * i + 1].toNat, ⟨q, ps.c - cn[i].toNat, (ps.xs.take ps.xs.length).drop cn[i].toNat⟩, ⟨a5, c5, ts.xs ++ [⟨((tm + st[2 * i].toNat + 256 * st[2 * i + 1].toNat : Nat) : Int), ⟨a9, cn[i].toNat, ps.xs.take cn[i].toNat⟩⟩]⟩), ⟨by dsimp only; omega, by dsimp only; omega, by simp; omega⟩, ?_⟩ (by simp only []; omega) (evs rfl (evs rfl (evs rfl (evs rfl (evs rfl (evs rfl (evs rfl (evs rfl .nil)))))))) (fun w h => goes w h)
        dsimp only
        rw [hgo, en2, cutTxs, e1, e2, e3, if_neg hcc, List.take_length, List.map_drop, List.map_append, List.map_cons, List.map_nil, TxR.v, List.map_take]
    · have hi3 : i = n := by omega
      subst hi3
      rw [Nat.sub_self, cutTxs] at hB
      dsimp only at hB
      have hps0 : (ps.xs.map PutR.v).length = ps.xs.length := List.length_map _
      repeat' first | refine adv ?_ | refine Side.go ?_ | refine Giv.mk fun _ => ?_ | refine All.mk fun q => ?_ | refine Fork.mk ?_ ?_ | (refine Two.mk (fun h => ?_) (fun h => ?_) <;> try first | contradiction | (exfalso; omega))
      · refine CallG.freeze ts ?_
        refine CallG.use (batch_check s ts) ?_
        rintro r M ⟨rfl, rfl⟩
        dsimp only [lcA, lnA]
        by_cases hck : checkB s (ts.xs.map TxR.v) = true
        · rw [if_pos hck]
          rw [if_pos ⟨by omega, hck⟩] at hB
          repeat' first | refine adv ?_ | refine Side.go ?_ | refine Giv.mk fun _ => ?_ | refine All.mk fun q => ?_ | refine Fork.mk ?_ ?_ | (refine Two.mk (fun h => ?_) (fun h => ?_) <;> try first | contradiction | (exfalso; omega))
          exact endQ.resW Tryz.results123 (.inr ⟨ts, hB, rfl, rfl⟩) (fun w h => goes w h)
        · rw [if_neg hck]
          rw [if_neg (fun hc => hck hc.2)] at hB
          repeat' first | refine adv ?_ | refine Side.go ?_ | refine Giv.mk fun _ => ?_ | refine All.mk fun q => ?_ | refine Fork.mk ?_ ?_ | (refine Two.mk (fun h => ?_) (fun h => ?_) <;> try first | contradiction | (exfalso; omega))
          exact endQ.res Tryz.results123 (.inl ⟨hB, _, _, _, _, rfl, rfl⟩)
      · rw [if_neg (fun hc => h (by omega))] at hB
        exact endQ.res Tryz.results123 (.inl ⟨hB, _, _, _, _, rfl, rfl⟩)
end Go.SL
namespace Go.SL
open Go.Proofs
set_option synthInstance.maxSize 4000
set_option synthInstance.maxHeartbeats 400000
set_option maxRecDepth 4000
set_option maxHeartbeats 2000000

theorem rowGo_ok : ∀ (ps : List (List UInt8)) (i : Nat) (f : Nat × Nat) (acc : List PV), (rowGo i f acc ps).2.1.2.2.1 ≤ 1099511627776 ∧ (rowGo i f acc ps).2.1.2.2.2.2.length ≤ 40 ∧ (rowGo i f acc ps).1.length ≤ acc.length + ps.length
  | [], _, _, _ => by simp [rowGo, zeroFr]
  | p :: ps, i, f, acc => by
    rw [rowGo]
    split
    · simp [zeroFr]
    · rename_i hd
      have hd2 : decOk p := Decidable.not_not.1 hd
      split
      · simp [zeroFr]
      · split
        · refine ⟨hd2.2.2.1, cutB_body p hd2, by simp⟩
        · have := rowGo_ok ps (i + 1) (if i = 0 then ((cutB p).2.1, (cutB p).2.2.1) else f) (acc ++ [((((cutB p).2.2.2.1 : Nat) : Int), (cutB p).2.2.2.2)])
          simp only [List.length_append, List.length_cons, List.length_nil] at this ⊢
          omega

def decodeOf (l : List (List UInt8)) : Option (Nat × Nat × Nat × List TV) :=
  if (rowGo 0 (0, 0) [] l).2.2 = false then none else
  (batchOf (rowGo 0 (0, 0) [] l).2.1 (rowGo 0 (0, 0) [] l).1).map fun t => ((rowGo 0 (0, 0) [] l).2.1.2.2.1, (rowGo 0 (0, 0) [] l).2.1.2.1, (rowGo 0 (0, 0) [] l).1.length + 1, t)

theorem batch_decode (l : Sl (Sl UInt8)) (hl : l.xs.length ≤ 100000) : Spec Tryz.prog 84 #[l.val] [roS l] (fun v L =>
    (decodeOf (raws l.xs) = none ∧ ∃ err : Int, err ≠ 0 ∧ v = .tuple #[.agg #[.int .i64 0, .slice none 0 0], .int .i64 0, .int .i64 0, .int .i64 err] ∧ L = []) ∨
    (∃ num ep n, ∃ t : Sl TxR, decodeOf (raws l.xs) = some (num, ep, n, t.xs.map TxR.v) ∧ v = .tuple #[.agg #[.int .i64 (num : Nat), t.val], .int .i64 (ep : Nat), .int .i64 (n : Nat), .int .i64 0] ∧ L = [roS t])) := by
  refine enter1 Tryz.func84 rfl (by decide) (by decide) ?_
  intro B F
  dsimp only [lcA, lnA]
  repeat' first | refine adv ?_ | refine Side.go ?_ | refine Giv.mk fun _ => ?_ | refine All.mk fun q => ?_ | refine Fork.mk ?_ ?_ | (refine Two.mk (fun h => ?_) (fun h => ?_) <;> try first | contradiction | (exfalso; omega))
  refine CallG.use (batch_row l hl) ?_
  rintro r M ⟨R, ps, b, hR, hps, hb, rfl, rfl⟩
  dsimp only [lcA, lnA]
  have hok := rowGo_ok (raws l.xs) 0 (0, 0) []
  rw [← hR] at hok
  obtain ⟨hs, hbl, hpl⟩ := hok
  have hpl2 : ps.xs.length = R.1.length := by rw [← hps, List.length_map]
  rw [raws_len] at hpl
  simp only [List.length_nil, Nat.zero_add] at hpl
  have hD : decodeOf (raws l.xs) = if R.2.2 = false then none else (batchOf R.2.1 R.1).map fun t => (R.2.1.2.2.1, R.2.1.2.1, R.1.length + 1, t) := by rw [decodeOf, ← hR]
  obtain ⟨pv, ⟨k, e, s, lb, body⟩, wh⟩ := R
  dsimp only at hs hbl hpl hps hb hD ⊢
  cases wh with
  | false =>
    repeat' first | refine adv ?_ | refine Side.go ?_ | refine Giv.mk fun _ => ?_ | refine All.mk fun q => ?_ | refine Fork.mk ?_ ?_ | (refine Two.mk (fun h => ?_) (fun h => ?_) <;> try first | contradiction | (exfalso; omega))
    exact endQ.res Tryz.results84 (.inl ⟨hD, 14, by decide, rfl, rfl⟩)
  | true =>
    repeat' first | refine adv ?_ | refine Side.go ?_ | refine Giv.mk fun _ => ?_ | refine All.mk fun q => ?_ | refine Fork.mk ?_ ?_ | (refine Two.mk (fun h => ?_) (fun h => ?_) <;> try first | contradiction | (exfalso; omega))
    rw [if_neg (by simp), ← hps, ← hb] at hD
    refine CallG.use (batch_batch k e s lb (by omega) b (by rw [hb]; omega) ps) ?_
    dsimp only at hpl2
    rintro v M (⟨hn, x1, x2, x3, x4, rfl, rfl⟩ | ⟨t, hn, rfl, rfl⟩)
    · rw [hn] at hD
      dsimp only [lcA, lnA]
      repeat' first | refine adv ?_ | refine Side.go ?_ | refine Giv.mk fun _ => ?_ | refine All.mk fun q => ?_ | refine Fork.mk ?_ ?_ | (refine Two.mk (fun h => ?_) (fun h => ?_) <;> try first | contradiction | (exfalso; omega))
      exact endQ.res Tryz.results84 (.inl ⟨hD, 13, by decide, rfl, rfl⟩)
    · rw [hn] at hD
      dsimp only [lcA, lnA]
      repeat' first | refine adv ?_ | refine Side.go ?_ | refine Giv.mk fun _ => ?_ | refine All.mk fun q => ?_ | refine Fork.mk ?_ ?_ | (refine Two.mk (fun h => ?_) (fun h => ?_) <;> try first | contradiction | (exfalso; omega))
      refine endQ.resW (M := [roS t]) Tryz.results84 ?_ (fun w h => goes w h)
      exact Or.inr ⟨s, e, ps.xs.length + 1, t, by rw [hD, List.length_map]; rfl, rfl, rfl⟩
end Go.SL
namespace Go.SL
open Go.Proofs
set_option synthInstance.maxSize 4000
set_option synthInstance.maxHeartbeats 400000
set_option maxRecDepth 4000
set_option maxHeartbeats 2000000

/-- A transaction. -/
structure Tr where
  st : Int
  time : Int
  code : Int
  at_ : Int
  W : Wb
  S : Iv
def trO (t em : Nat) (T : Tr) : HProp := ex fun q : Nat × Nat => star [cells true t 0 [.int .i64 T.st, .int .i64 T.time, .int .i64 T.code, .int .i64 T.at_, .pointer (some ⟨q.1, 0, none⟩), .pointer (some ⟨q.2, 0, none⟩)], wbO q.1 T.W, viewO q.2 em q.1 T.at_ T.S]
theorem trO_open {B : World} {L : List HProp} {t em : Nat} {T : Tr} {w : World} (h : sat B (trO t em T :: L) w) :
    ∃ q : Nat × Nat, sat B (cells true t 0 [.int .i64 T.st, .int .i64 T.time, .int .i64 T.code, .int .i64 T.at_, .pointer (some ⟨q.1, 0, none⟩), .pointer (some ⟨q.2, 0, none⟩)] :: wbO q.1 T.W :: viewO q.2 em q.1 T.at_ T.S :: L) w := by
  obtain ⟨q, hq⟩ := sat_ex.1 h
  exact ⟨q, sat_star.1 hq⟩
theorem trO_close {B : World} {L : List HProp} {t em : Nat} {w : World} (T : Tr) (b v : Nat)
    (h : sat B (cells true t 0 [.int .i64 T.st, .int .i64 T.time, .int .i64 T.code, .int .i64 T.at_, .pointer (some ⟨b, 0, none⟩), .pointer (some ⟨v, 0, none⟩)] :: wbO b T.W :: viewO v em b T.at_ T.S :: L) w) : sat B (trO t em T :: L) w :=
  sat_ex.2 ⟨(b, v), sat_star.2 h⟩

abbrev TrP := Nat × Tr
@[reducible] def trV (x : TrP) : Value := .pointer (some ⟨x.1, 0, none⟩)
@[reducible] def trF (em : Nat) (q : Int × TrP) : HProp := trO q.2.1 em q.2.2
def tv (ts : List (Int × TrP)) : List (Int × Tr) := ts.map fun e => (e.1, e.2.2)

/-- All transactions, on blocks. -/
structure Mg where
  E : Em
  K : Bk
  all : List (Int × Tr)
  queue : List Int
  out : Nat
  num : Nat
  base : Int
  last : Int
  given : Int
  ro : Bool
structure MgR where
  em : Nat
  bk : Nat
  rm : Nat
  qa : Option Addr
  qc : Nat
  ts : List (Int × TrP)
@[reducible] def mgL (m : Nat) (M : Mg) (r : MgR) : List HProp :=
  [cells true m 0 [.pointer (some ⟨r.em, 0, none⟩), .pointer (some ⟨r.bk, 0, none⟩), .map (some r.rm), .slice r.qa M.queue.length r.qc, .int .i64 M.out, .int .i64 M.num, .int .i64 M.base, .int .i64 M.last, .int .i64 M.given, .bool M.ro],
   emO r.em M.E, bkO r.bk M.K, mapO r.rm (vmap trV r.ts), ownS (⟨r.qa, r.qc, M.queue⟩ : Sl Int), bigS (trF r.em) r.ts]
def mgO (m : Nat) (M : Mg) : HProp := ex fun r : MgR => star (says (tv r.ts = M.all) :: mgL m M r)
theorem mgO_open {B : World} {L : List HProp} {m : Nat} {M : Mg} {w : World} (h : sat B (mgO m M :: L) w) : ∃ r : {r : MgR // tv r.ts = M.all}, sat B (mgL m M r.1 ++ L) w := by
  obtain ⟨r, hr⟩ := sat_ex.1 h
  obtain ⟨e, h2⟩ := sat_says.1 (sat_star.1 hr)
  exact ⟨⟨r, e⟩, h2⟩
theorem mgO_close {B : World} {L : List HProp} {m : Nat} {w : World} (M : Mg) (r : MgR) (e : tv r.ts = M.all) 
    (h : sat B (cells true m 0 [.pointer (some ⟨r.em, 0, none⟩), .pointer (some ⟨r.bk, 0, none⟩), .map (some r.rm), .slice r.qa M.queue.length r.qc, .int .i64 M.out, .int .i64 M.num, .int .i64 M.base, .int .i64 M.last, .int .i64 M.given, .bool M.ro] ::
      emO r.em M.E :: bkO r.bk M.K :: mapO r.rm (vmap trV r.ts) :: ownS (⟨r.qa, r.qc, M.queue⟩ : Sl Int) :: bigS (trF r.em) r.ts :: L) w) : sat B (mgO m M :: L) w :=
  sat_ex.2 ⟨r, sat_star.2 (sat_says.2 ⟨e, h⟩)⟩

theorem take_f {β : Type} {B : World} {L R : List HProp} {vs : List (Int × β)} {k : Int} {x : β} (f : Int × β → HProp) (hn : (vs.map (·.1)).Nodup) (hg : vget vs k = some x) [p : Pick (bigS f vs) L R] :
    ∀ w, sat B L w → sat B (f (k, x) :: bigS f (vdel vs k) :: R) w := fun w h => sat_bigS_cons.1 (bigS_perm (vget_perm hn hg) (h.perm p.perm))
theorem untake_f {β : Type} {B : World} {L : List HProp} {w : World} {vs : List (Int × β)} {k : Int} {x : β} (f : Int × β → HProp) (hn : (vs.map (·.1)).Nodup) (hg : vget vs k = some x)
    (h : sat B (f (k, x) :: bigS f (vdel vs k) :: L) w) : sat B (bigS f vs :: L) w := bigS_perm (vget_perm hn hg).symm (sat_bigS_cons.2 h)
theorem put_f {β : Type} {B : World} {L : List HProp} {w : World} {vs : List (Int × β)} {k : Int} {x : β} (f : Int × β → HProp) (hn : (vs.map (·.1)).Nodup)
    (h : sat B (f (k, x) :: bigS f (vdel vs k) :: L) w) : sat B (bigS f (vset vs k x) :: L) w := bigS_perm (vset_perm hn x) (sat_bigS_cons.2 h)

def gmap {α β : Type} (g : α → β) (vs : List (Int × α)) : List (Int × β) := vs.map fun e => (e.1, g e.2)
theorem vget_gmap {α β : Type} (g : α → β) (vs : List (Int × α)) (k : Int) : vget (gmap g vs) k = (vget vs k).map g := by
  unfold vget gmap
  rw [List.find?_map]
  have e : ((fun e : Int × β => e.1 == k) ∘ fun e : Int × α => (e.1, g e.2)) = fun e => e.1 == k := rfl
  rw [e]
  cases vs.find? (fun e => e.1 == k) <;> rfl
theorem vset_gmap {α β : Type} (g : α → β) (vs : List (Int × α)) (k : Int) (x : α) : vset (gmap g vs) k (g x) = gmap g (vset vs k x) := by
  unfold vset gmap
  have e : (vs.map fun e => (e.1, g e.2)).any (fun e => e.1 == k) = vs.any (fun e => e.1 == k) := by rw [List.any_map]; rfl
  rw [e]
  split
  · rw [List.map_map, List.map_map]
    apply List.map_congr_left
    intro a _
    simp only [Function.comp]
    split <;> simp_all
  · simp
theorem gmap_keys {α β : Type} (g : α → β) (vs : List (Int × α)) : (gmap g vs).map (·.1) = vs.map (·.1) := by unfold gmap; rw [List.map_map]; rfl
theorem vget_tv (ts : List (Int × TrP)) (k : Int) : vget (tv ts) k = (vget ts k).map (·.2) := vget_gmap _ ts k
/-- Where the same is put anew, all stays. -/
theorem vset_same {α : Type} {vs : List (Int × α)} {k : Int} {x : α} (hn : (vs.map (·.1)).Nodup) (hg : vget vs k = some x) : vset vs k x = vs := by
  unfold vset
  have hany : (vs.any fun e => e.1 == k) = true := by
    unfold vget at hg
    obtain ⟨e, he, _⟩ := Option.map_eq_some_iff.1 hg
    exact List.any_eq_true.2 ⟨e, List.mem_of_find?_eq_some he, List.find?_some (p := fun e : Int × α => e.1 == k) he⟩
  rw [if_pos hany]
  have hid : ∀ e ∈ vs, (if e.1 = k then (k, x) else e) = e := by
    intro e he
    split
    · rename_i hek
      have : e = (k, x) := by
        have hp := vget_perm hn hg
        rcases List.mem_cons.1 (hp.mem_iff.1 he) with h | h
        · exact h
        · have := (List.mem_filter.1 h).2
          simp [hek] at this
      exact this.symm
    · rfl
  exact (List.map_congr_left hid).trans (List.map_id _)

theorem tx_gone (m e : Nat) (x1 x2 x3 x4 x5 x6 x7 x8 x9 : Value) : Spec Tryz.prog 87 #[.pointer (some ⟨m, 0, none⟩)] [cells true m 0 [.pointer (some ⟨e, 0, none⟩), x1, x2, x3, x4, x5, x6, x7, x8, x9]]
    (fun v L => v = .bool false ∧ L = [cells true m 0 [.pointer (some ⟨e, 0, none⟩), x1, x2, x3, x4, x5, x6, x7, x8, x9]]) := by
  refine enter1 Tryz.func87 rfl (by decide) (by decide) ?_
  intro B F
  dsimp only [lcA, lnA]
  repeat' first | refine adv ?_ | refine Side.go ?_ | refine Giv.mk fun _ => ?_ | refine All.mk fun q => ?_ | refine Fork.mk ?_ ?_ | (refine Two.mk (fun h => ?_) (fun h => ?_) <;> try first | contradiction | (exfalso; omega))
  exact endQ.oneW Tryz.results87 ⟨rfl, rfl⟩ (fun w h => goes w h)
def Mg.new (n : Nat) (last : Int) : Mg := ⟨⟨n, [], 0⟩, ⟨16, 0, []⟩, [], [], 0, 0, last, last, last, false⟩
theorem tx_new (n : Nat) (hn : 1 ≤ n ∧ n ≤ 1048576) (last : Int) (hl : 0 ≤ last ∧ last ≤ 1099511627776) :
    Spec Tryz.prog 45 #[.int .i64 n, .int .i64 last] [] (fun v L => ∃ m, v = .tuple #[.pointer (some ⟨m, 0, none⟩), .int .i64 0] ∧ L = [mgO m (Mg.new n last)]) := by
  refine enter2 Tryz.func45 rfl (by decide) (by decide) ?_
  intro B F
  dsimp only [lcA, lnA]
  repeat' first | refine adv ?_ | refine Side.go ?_ | refine Giv.mk fun _ => ?_ | refine All.mk fun q => ?_ | refine Fork.mk ?_ ?_ | (refine Two.mk (fun h => ?_) (fun h => ?_) <;> try first | contradiction | (exfalso; omega))
  refine CallG.use (ext_new n) ?_
  rintro r M (⟨h, -⟩ | ⟨-, e, rfl, rfl⟩)
  · omega
  dsimp only [List.cons_append, List.nil_append, Int.toNat_natCast]
  repeat' first | refine adv ?_ | refine Side.go ?_ | refine Giv.mk fun _ => ?_ | refine All.mk fun q => ?_ | refine Fork.mk ?_ ?_ | (refine Two.mk (fun h => ?_) (fun h => ?_) <;> try first | contradiction | (exfalso; omega))
  refine CallG.use (hz_new 16) ?_
  rintro r M ⟨b, rfl, rfl⟩
  dsimp only [lcA, lnA]
  repeat' first | refine adv ?_ | refine Side.go ?_ | refine Giv.mk fun _ => ?_ | refine All.mk fun q => ?_ | refine Fork.mk ?_ ?_ | (refine Two.mk (fun h => ?_) (fun h => ?_) <;> try first | contradiction | (exfalso; omega))
  rename_i rm
  refine endQ.twoW Tryz.results45 ⟨q, rfl, rfl⟩ (fun w h => mgO_close (Mg.new n last) ⟨e, b, rm, none, 0, []⟩ rfl ?_)
  have h2 : sat B (ownS (⟨none, 0, []⟩ : Sl Int) :: cells true q 0 [.pointer (some ⟨e, 0, none⟩), .pointer (some ⟨b, 0, none⟩), .map (some rm), .slice none 0 0, .int .i64 (0 : Nat), .int .i64 (0 : Nat), .int .i64 last, .int .i64 last, .int .i64 last, .bool false] ::
      mapO rm (vmap trV []) :: bkO b ⟨16, 0, []⟩ :: emO e ⟨n, [], 0⟩ :: F) w := sat_true (own_nil (α := Int)) h
  dsimp only [Mg.new, List.length_nil]
  exact goes w h2

/-- What was committed, taken in. -/
def Mg.load (M : Mg) (ps : List PV) : Int × Mg :=
  if M.all ≠ [] ∨ (M.base = 0 ∧ ps ≠ []) then (1, M) else if ps = [] then (0, M) else ((M.E.apply M.base ps).1, { M with E := (M.E.apply M.base ps).2 })
theorem tx_load (m : Nat) (M : Mg) (ps : Sl PutR) (hbig : ∀ e ∈ M.E.vs, e.2.length ≤ 1000000) (hpn : ps.xs.length ≤ 1000000) :
    Spec Tryz.prog 47 #[.pointer (some ⟨m, 0, none⟩), ps.val] [mgO m M, roS ps] (fun v L => v = .int .i64 (M.load (ps.xs.map PutR.v)).1 ∧ L = [mgO m (M.load (ps.xs.map PutR.v)).2]) := by
  refine enter2 Tryz.func47 rfl (by decide) (by decide) ?_
  intro B F
  dsimp only [lcA, lnA]
  refine Sy_know (fun B w h => ro_ok ps B w h) (fun hps => ?_)
  have hpsl := hps.len
  refine Sy_all (fun w h => mgO_open h) (fun r => ?_)
  obtain ⟨r, hr⟩ := r
  dsimp only [mgL, List.cons_append, List.nil_append] at hr ⊢
  repeat' first | refine adv ?_ | refine Side.go ?_ | refine Giv.mk fun _ => ?_ | refine All.mk fun q => ?_ | refine Fork.mk ?_ ?_ | (refine Two.mk (fun h => ?_) (fun h => ?_) <;> try first | contradiction | (exfalso; omega))
  refine CallG.use (tx_gone m r.em (.pointer (some ⟨r.bk, 0, none⟩)) (.map (some r.rm)) (.slice r.qa M.queue.length r.qc) (.int .i64 M.out) (.int .i64 M.num) (.int .i64 M.base) (.int .i64 M.last) (.int .i64 M.given) (.bool M.ro)) ?_
  rintro r M ⟨rfl, rfl⟩
  dsimp only [lcA, lnA]
  have hal : M.all = [] ↔ (vmap trV r.ts).length = 0 := by
    rw [← hr]; simp [tv, vmap]
  have hpl : ps.xs.map PutR.v = [] ↔ ps.xs.length = 0 := by simp
  repeat' first | refine adv ?_ | refine Side.go ?_ | refine Giv.mk fun _ => ?_ | refine All.mk fun q => ?_ | refine Fork.mk ?_ ?_ | (refine Two.mk (fun h => ?_) (fun h => ?_) <;> try first | contradiction | (exfalso; omega))
  · have e : M.load (ps.xs.map PutR.v) = (1, M) := by rw [Mg.load, if_pos (.inl fun x => by have := hal.1 x; omega)]
    rw [e]
    exact endQ.oneW Tryz.results47 ⟨rfl, rfl⟩ (fun w h => mgO_close M r hr (goes w h))
  · have e : M.load (ps.xs.map PutR.v) = (1, M) := by rw [Mg.load, if_pos (.inr ⟨by assumption, fun x => by have := hpl.1 x; omega⟩)]
    rw [e]
    exact endQ.oneW Tryz.results47 ⟨rfl, rfl⟩ (fun w h => mgO_close M r hr (goes w h))
  · have e : M.load (ps.xs.map PutR.v) = (0, M) := by rw [Mg.load, if_neg (fun x => x.elim (fun x => x (hal.2 (by omega))) (fun x => x.2 (hpl.2 (by omega)))), if_pos (hpl.2 (by omega))]
    rw [e]
    exact endQ.oneW Tryz.results47 ⟨rfl, rfl⟩ (fun w h => mgO_close M r hr (goes w h))
  · have e : M.load (ps.xs.map PutR.v) = (0, M) := by rw [Mg.load, if_neg (fun x => x.elim (fun x => x (hal.2 (by omega))) (fun x => x.2 (hpl.2 (by omega)))), if_pos (hpl.2 (by omega))]
    rw [e]
    exact endQ.oneW Tryz.results47 ⟨rfl, rfl⟩ (fun w h => mgO_close M r hr (goes w h))
  · have e : M.load (ps.xs.map PutR.v) = ((M.E.apply M.base (ps.xs.map PutR.v)).1, { M with E := (M.E.apply M.base (ps.xs.map PutR.v)).2 }) := by
      rw [Mg.load, if_neg (fun x => x.elim (fun x => x (hal.2 (by omega))) (fun x => by have := x.1; contradiction)), if_neg (fun x => by have := hpl.1 x; omega)]
    rw [e]
    refine CallG.use (ext_apply r.em M.E M.base ps hbig hpn) ?_
    rintro r M ⟨rfl, rfl⟩
    dsimp only [lcA, lnA]
    repeat' first | refine adv ?_ | refine Side.go ?_ | refine Giv.mk fun _ => ?_ | refine All.mk fun q => ?_ | refine Fork.mk ?_ ?_ | (refine Two.mk (fun h => ?_) (fun h => ?_) <;> try first | contradiction | (exfalso; omega))
    exact endQ.oneW Tryz.results47 ⟨rfl, rfl⟩ (fun w h => mgO_close { M with E := (M.E.apply M.base (ps.xs.map PutR.v)).2 } r hr (goes w h))

theorem tx_last (m : Nat) (M : Mg) : Spec Tryz.prog 67 #[.pointer (some ⟨m, 0, none⟩)] [mgO m M] (fun v L => v = .int .i64 M.last ∧ L = [mgO m M]) := by
  refine enter1 Tryz.func67 rfl (by decide) (by decide) ?_
  intro B F
  dsimp only [lcA, lnA]
  refine Sy_all (fun w h => mgO_open h) (fun r => ?_)
  obtain ⟨r, hr⟩ := r
  dsimp only [mgL, List.cons_append, List.nil_append] at hr ⊢
  repeat' first | refine adv ?_ | refine Side.go ?_ | refine Giv.mk fun _ => ?_ | refine All.mk fun q => ?_ | refine Fork.mk ?_ ?_ | (refine Two.mk (fun h => ?_) (fun h => ?_) <;> try first | contradiction | (exfalso; omega))
  refine CallG.use (tx_gone m r.em (.pointer (some ⟨r.bk, 0, none⟩)) (.map (some r.rm)) (.slice r.qa M.queue.length r.qc) (.int .i64 M.out) (.int .i64 M.num) (.int .i64 M.base) (.int .i64 M.last) (.int .i64 M.given) (.bool M.ro)) ?_
  rintro r M ⟨rfl, rfl⟩
  dsimp only [lcA, lnA]
  repeat' first | refine adv ?_ | refine Side.go ?_ | refine Giv.mk fun _ => ?_ | refine All.mk fun q => ?_ | refine Fork.mk ?_ ?_ | (refine Two.mk (fun h => ?_) (fun h => ?_) <;> try first | contradiction | (exfalso; omega))
  exact endQ.oneW Tryz.results67 ⟨rfl, rfl⟩ (fun w h => mgO_close M r hr (goes w h))

theorem tx_dump (m : Nat) (M : Mg) (hk : ∀ e ∈ M.E.vs, I64 e.1 ∧ 0 < e.2.length ∧ e.2.length ≤ 2000000) (hl : M.E.vs.length ≤ 1000000) :
    Spec Tryz.prog 68 #[.pointer (some ⟨m, 0, none⟩)] [mgO m M] (fun v L => ∃ t : Sl PutR, t.xs.map PutR.v = M.E.dump ∧ v = t.val ∧ L = [mgO m M, ownS t]) := by
  refine enter1 Tryz.func68 rfl (by decide) (by decide) ?_
  intro B F
  dsimp only [lcA, lnA]
  refine Sy_all (fun w h => mgO_open h) (fun r => ?_)
  obtain ⟨r, hr⟩ := r
  dsimp only [mgL, List.cons_append, List.nil_append] at hr ⊢
  repeat' first | refine adv ?_ | refine Side.go ?_ | refine Giv.mk fun _ => ?_ | refine All.mk fun q => ?_ | refine Fork.mk ?_ ?_ | (refine Two.mk (fun h => ?_) (fun h => ?_) <;> try first | contradiction | (exfalso; omega))
  refine CallG.use (tx_gone m r.em (.pointer (some ⟨r.bk, 0, none⟩)) (.map (some r.rm)) (.slice r.qa M.queue.length r.qc) (.int .i64 M.out) (.int .i64 M.num) (.int .i64 M.base) (.int .i64 M.last) (.int .i64 M.given) (.bool M.ro)) ?_
  rintro r M ⟨rfl, rfl⟩
  dsimp only [lcA, lnA]
  repeat' first | refine adv ?_ | refine Side.go ?_ | refine Giv.mk fun _ => ?_ | refine All.mk fun q => ?_ | refine Fork.mk ?_ ?_ | (refine Two.mk (fun h => ?_) (fun h => ?_) <;> try first | contradiction | (exfalso; omega))
  refine CallG.use (ext_dump r.em M.E hk hl) ?_
  rintro r M ⟨t, ht, rfl, rfl⟩
  dsimp only [lcA, lnA]
  repeat' first | refine adv ?_ | refine Side.go ?_ | refine Giv.mk fun _ => ?_ | refine All.mk fun q => ?_ | refine Fork.mk ?_ ?_ | (refine Two.mk (fun h => ?_) (fun h => ?_) <;> try first | contradiction | (exfalso; omega))
  exact endQ.oneW Tryz.results68 ⟨t, ht, rfl, rfl⟩ (fun w h => mgO_close M r hr (goes w h))
end Go.SL
