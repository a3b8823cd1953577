/- Parts of the proof of StoreNothing: a logic of memory, contracts of functions, plain laws (Tx2, Tx3, Tx4, Tx5, Sto, Sto2, Sto3, Sto4, Sto5, Sto6, Sto7, Sto8, PuF, PuG, PuA, PuB, PuH, PuC, PuD, PuE, Sto9). Conditions: those that each theorem names. -/
import Derived.Test.YtfgchgnielfhgaaGreatStoreNothingP4
set_option linter.unusedSimpArgs false
set_option linter.unusedVariables false
namespace Go.SL
open Go.Proofs
set_option synthInstance.maxSize 4000
set_option synthInstance.maxHeartbeats 400000
set_option maxRecDepth 4000
set_option maxHeartbeats 2000000

def openT (M : Mg) (h : Int) : Option Tr := match vget M.all h with | some T => if T.st = 1 then some T else none | none => none

/-- One that was taken out, put back. -/
theorem back_tr {B : World} {L R : List HProp} {em t b v : Nat} {ts : List (Int × TrP)} {k : Int} {T : Tr} (hn : (ts.map (·.1)).Nodup) (hg : vget ts k = some (t, T))
    [p : Picks [cells true t 0 [.int .i64 T.st, .int .i64 T.time, .int .i64 T.code, .int .i64 T.at_, .pointer (some ⟨b, 0, none⟩), .pointer (some ⟨v, 0, none⟩)], wbO b T.W, viewO v em b T.at_ T.S, bigS (trF em) (vdel ts k)] L R] :
    ∀ w, sat B L w → sat B (bigS (trF em) ts :: R) w := fun w h => untake_f (trF em) hn hg (trO_close T b v (by have := p.out B [] w (by rw [List.append_nil]; exact h); rw [List.append_nil] at this; exact this))
theorem back_tr' {B : World} {L R : List HProp} {em t b v : Nat} {ts : List (Int × TrP)} {k st time code : Int} {T : Tr} {W : Wb} (hn : (ts.map (·.1)).Nodup) (hg : vget ts k = some (t, T))
    [p : Picks [cells true t 0 [.int .i64 st, .int .i64 time, .int .i64 code, .int .i64 T.at_, .pointer (some ⟨b, 0, none⟩), .pointer (some ⟨v, 0, none⟩)], wbO b W, viewO v em b T.at_ T.S, bigS (trF em) (vdel ts k)] L R] :
    ∀ w, sat B L w → sat B (bigS (trF em) (vset ts k (t, ⟨st, time, code, T.at_, W, T.S⟩)) :: R) w :=
  fun w h => put_f (trF em) hn (trO_close ⟨st, time, code, T.at_, W, T.S⟩ b v (by have := p.out B [] w (by rw [List.append_nil]; exact h); rw [List.append_nil] at this; exact this))
/-- The map of addresses stays where one is changed. -/
theorem vmap_same {ts : List (Int × TrP)} {k : Int} {t : Nat} {T : Tr} (T' : Tr) (hn : (ts.map (·.1)).Nodup) (hg : vget ts k = some (t, T)) : vmap trV (vset ts k (t, T')) = vmap trV ts := by
  have h1 : vset (gmap trV ts) k (trV (t, T')) = gmap trV (vset ts k (t, T')) := vset_gmap trV ts k (t, T')
  have h2 : vget (gmap trV ts) k = some (trV (t, T')) := by rw [vget_gmap, hg]; rfl
  have h3 : vset (gmap trV ts) k (trV (t, T')) = gmap trV ts := vset_same (by rw [gmap_keys]; exact hn) h2
  exact h1.symm.trans h3
theorem tv_set (ts : List (Int × TrP)) (k : Int) (t : Nat) (T : Tr) : tv (vset ts k (t, T)) = vset (tv ts) k T := (vset_gmap (fun x : TrP => x.2) ts k (t, T)).symm

/-- A transaction that is open, as its address; the manager lies open. -/
theorem tx_open (m : Nat) (M : Mg) (r : MgR) (h : Int) :
    Spec Tryz.prog 96 #[.pointer (some ⟨m, 0, none⟩), .int .i64 h] (mgL m M r) (fun v L => v = (match vget r.ts h with | some x => if x.2.st = 1 then trV x else .pointer none | none => .pointer none) ∧ L = mgL m M r) := by
  refine enter2 Tryz.func96 rfl (by decide) (by decide) ?_
  intro B F
  dsimp only [lcA, lnA]
  dsimp only [mgL, List.cons_append, List.nil_append]
  refine Sy_know (fun B w h => map_nodup (r := r.rm) (es := vmap trV r.ts) B w h) (fun hn => ?_)
  rw [vmap_keys] at hn
  repeat' first | refine adv ?_ | refine Side.go ?_ | refine Giv.mk fun _ => ?_ | refine All.mk fun q => ?_ | refine Fork.mk ?_ ?_ | (refine Two.mk (fun h => ?_) (fun h => ?_) <;> try first | contradiction | (exfalso; omega))
  refine CallG.use (tx_gone m r.em (.pointer (some ⟨r.bk, 0, none⟩)) (.map (some r.rm)) (.slice r.qa M.queue.length r.qc) (.int .i64 M.out) (.int .i64 M.num) (.int .i64 M.base) (.int .i64 M.last) (.int .i64 M.given) (.bool M.ro)) ?_
  rintro r M ⟨rfl, rfl⟩
  dsimp only [lcA, lnA]
  cases hg : vget r.ts h with
  | none =>
    haveI := mn_vmap (f := trV) hg
    repeat' first | refine adv ?_ | refine Side.go ?_ | refine Giv.mk fun _ => ?_ | refine All.mk fun q => ?_ | refine Fork.mk ?_ ?_ | (refine Two.mk (fun h => ?_) (fun h => ?_) <;> try first | contradiction | (exfalso; omega))
    exact endQ.oneW Tryz.results96 ⟨rfl, rfl⟩ (fun w h => goes w h)
  | some x =>
    haveI := mg_vmap (f := trV) hg
    obtain ⟨t, T⟩ := x
    refine SyO_conv (take_f (trF r.em) hn hg) ?_
    dsimp only [trF]
    refine SyO_all (fun w h => trO_open h) (fun q => ?_)
    obtain ⟨b, v⟩ := q
    dsimp only
    repeat' first | refine adv ?_ | refine Side.go ?_ | refine Giv.mk fun _ => ?_ | refine All.mk fun q => ?_ | refine Fork.mk ?_ ?_ | (refine Two.mk (fun h => ?_) (fun h => ?_) <;> try first | contradiction | (exfalso; omega))
    · refine endQ_conv (back_tr (em := r.em) (t := t) (b := b) (v := v) hn hg) (endQ.oneW Tryz.results96 ⟨by rw [if_neg (by assumption)], rfl⟩ (fun w h => goes w h))
    · refine endQ_conv (back_tr (em := r.em) (t := t) (b := b) (v := v) hn hg) (endQ.oneW Tryz.results96 ⟨by rw [if_pos (by omega)], rfl⟩ (fun w h => goes w h))

def Mg.write (M : Mg) (h : Int) (ps : List PV) : Int × Mg := match openT M h with | some T => ((T.W.write ps).1, { M with all := vset M.all h { T with W := (T.W.write ps).2 } }) | none => (5, M)
theorem tx_write (m : Nat) (M : Mg) (h : Int) (ps : Sl PutR) (hi : ∀ x ∈ ps.xs, I64 x.lba) (hW : ∀ e ∈ M.all, e.2.W.vs.length ≤ 1000000) :
    Spec Tryz.prog 52 #[.pointer (some ⟨m, 0, none⟩), .int .i64 h, ps.val] [mgO m M, roS ps] (fun v L => v = .int .i64 (M.write h (ps.xs.map PutR.v)).1 ∧ L = [mgO m (M.write h (ps.xs.map PutR.v)).2]) := by
  refine enter3 Tryz.func52 rfl (by decide) (by decide) ?_
  intro B F
  dsimp only [lcA, lnA]
  refine Sy_all (fun w h => mgO_open h) (fun r => ?_)
  obtain ⟨r, hr⟩ := r
  dsimp only [mgL, List.cons_append, List.nil_append] at hr ⊢
  refine Sy_know (fun B w h => map_nodup (r := r.rm) (es := vmap trV r.ts) B w h) (fun hn => ?_)
  rw [vmap_keys] at hn
  repeat' first | refine adv ?_ | refine Side.go ?_ | refine Giv.mk fun _ => ?_ | refine All.mk fun q => ?_ | refine Fork.mk ?_ ?_ | (refine Two.mk (fun h => ?_) (fun h => ?_) <;> try first | contradiction | (exfalso; omega))
  refine CallG.use (tx_open m M r h) ?_
  rintro r M ⟨rfl, rfl⟩
  dsimp only [lcA, lnA]
  have hgM : vget M.all h = (vget r.ts h).map (·.2) := by rw [← hr, vget_tv]
  cases hg : vget r.ts h with
  | none =>
    have e : M.write h (ps.xs.map PutR.v) = (5, M) := by rw [hg] at hgM; simp only [Mg.write, openT, hgM, Option.map_none]
    rw [e]
    repeat' first | refine adv ?_ | refine Side.go ?_ | refine Giv.mk fun _ => ?_ | refine All.mk fun q => ?_ | refine Fork.mk ?_ ?_ | (refine Two.mk (fun h => ?_) (fun h => ?_) <;> try first | contradiction | (exfalso; omega))
    exact endQ.oneW Tryz.results52 ⟨rfl, rfl⟩ (fun w h => mgO_close M r hr (goes w h))
  | some x =>
    obtain ⟨t, T⟩ := x
    dsimp only
    by_cases hst : T.st = 1
    · have e : M.write h (ps.xs.map PutR.v) = ((T.W.write (ps.xs.map PutR.v)).1, { M with all := vset M.all h { T with W := (T.W.write (ps.xs.map PutR.v)).2 } }) := by
        rw [hg] at hgM; simp only [Mg.write, openT, hgM, Option.map_some, if_pos hst]
      have hTW : T.W.vs.length ≤ 1000000 := by
        obtain ⟨y, hy, hym⟩ := vget_mem (vs := r.ts) (k := h) ((vget_perm hn hg).symm.map _ |>.mem_iff.1 (by simp))
        rw [hg] at hy; cases hy
        exact hW (h, T) (by rw [← hr]; exact List.mem_map.2 ⟨_, hym, rfl⟩)
      rw [if_pos hst, e]
      refine SyO_conv (take_f (trF r.em) hn hg) ?_
      dsimp only [trF]
      refine SyO_all (fun w h => trO_open h) (fun q => ?_)
      obtain ⟨b, v⟩ := q
      dsimp only [trV]
      repeat' first | refine adv ?_ | refine Side.go ?_ | refine Giv.mk fun _ => ?_ | refine All.mk fun q => ?_ | refine Fork.mk ?_ ?_ | (refine Two.mk (fun h => ?_) (fun h => ?_) <;> try first | contradiction | (exfalso; omega))
      refine CallG.use (wb_write b T.W ps hi hTW) ?_
      rintro r M ⟨rfl, rfl⟩
      dsimp only [lcA, lnA]
      repeat' first | refine adv ?_ | refine Side.go ?_ | refine Giv.mk fun _ => ?_ | refine All.mk fun q => ?_ | refine Fork.mk ?_ ?_ | (refine Two.mk (fun h => ?_) (fun h => ?_) <;> try first | contradiction | (exfalso; omega))
      refine endQ_conv (back_tr' (em := r.em) (t := t) (b := b) (v := v) (st := T.st) (time := T.time) (code := T.code) (W := (T.W.write (ps.xs.map PutR.v)).2) hn hg) (endQ.oneW Tryz.results52 ⟨rfl, rfl⟩ (fun w s => mgO_close { M with all := vset M.all h { T with W := (T.W.write (ps.xs.map PutR.v)).2 } } { r with ts := vset r.ts h (t, { T with W := (T.W.write (ps.xs.map PutR.v)).2 }) } ?_ ?_))
      · dsimp only; rw [tv_set, hr]
      · dsimp only
        rw [vmap_same _ hn hg]
        exact goes w s
    · have e : M.write h (ps.xs.map PutR.v) = (5, M) := by rw [hg] at hgM; simp only [Mg.write, openT, hgM, Option.map_some, if_neg hst]
      rw [if_neg hst, e]
      repeat' first | refine adv ?_ | refine Side.go ?_ | refine Giv.mk fun _ => ?_ | refine All.mk fun q => ?_ | refine Fork.mk ?_ ?_ | (refine Two.mk (fun h => ?_) (fun h => ?_) <;> try first | contradiction | (exfalso; omega))
      exact endQ.oneW Tryz.results52 ⟨rfl, rfl⟩ (fun w h => mgO_close M r hr (goes w h))

/-- The end of one. -/
def Mg.end (M : Mg) (h st code : Int) : Mg := match vget M.all h with
  | some T => { M with all := vset M.all h { T with st := st, code := code, time := if st = 4 then 0 else T.time }, K := { M.K with ts := verase M.K.ts h } }
  | none => M
theorem tx_end (m : Nat) (M : Mg) (k st code : Int) (T : Tr) (hT : vget M.all k = some T) :
    Spec Tryz.prog 99 #[.pointer (some ⟨m, 0, none⟩), .int .i64 k, .int .i64 st, .int .i64 code] [mgO m M] (fun v L => v = .tuple #[] ∧ L = [mgO m (M.end k st code)]) := by
  refine enter4 Tryz.func99 rfl (by decide) (by decide) ?_
  intro B F
  dsimp only [lcA, lnA]
  refine Sy_all (fun w h => mgO_open h) (fun r => ?_)
  obtain ⟨r, hr⟩ := r
  dsimp only [mgL, List.cons_append, List.nil_append] at hr ⊢
  refine Sy_know (fun B w h => map_nodup (r := r.rm) (es := vmap trV r.ts) B w h) (fun hn => ?_)
  rw [vmap_keys] at hn
  have e : M.end k st code = { M with all := vset M.all k { T with st := st, code := code, time := if st = 4 then 0 else T.time }, K := { M.K with ts := verase M.K.ts k } } := by simp only [Mg.end, hT]
  rw [e]
  obtain ⟨t, hg⟩ : ∃ t, vget r.ts k = some (t, T) := by
    rw [← hr, vget_tv] at hT
    obtain ⟨x, hx, rfl⟩ := Option.map_eq_some_iff.1 hT
    exact ⟨x.1, hx⟩
  haveI := mg_vmap (f := trV) hg
  refine Sy_conv (take_f (trF r.em) hn hg) ?_
  dsimp only [trF]
  refine Sy_all (fun w h => trO_open h) (fun q => ?_)
  obtain ⟨b, v⟩ := q
  dsimp only
  repeat' first | refine adv ?_ | refine Side.go ?_ | refine Giv.mk fun _ => ?_ | refine All.mk fun q => ?_ | refine Fork.mk ?_ ?_ | (refine Two.mk (fun h => ?_) (fun h => ?_) <;> try first | contradiction | (exfalso; omega))
  · refine CallG.use (hz_close r.bk M.K k) ?_
    rintro r M ⟨rfl, rfl⟩
    dsimp only [lcA, lnA]
    rw [if_pos h]
    repeat' first | refine adv ?_ | refine Side.go ?_ | refine Giv.mk fun _ => ?_ | refine All.mk fun q => ?_ | refine Fork.mk ?_ ?_ | (refine Two.mk (fun h => ?_) (fun h => ?_) <;> try first | contradiction | (exfalso; omega))
    refine endQ_conv (back_tr' (em := r.em) (t := t) (b := b) (v := v) (st := st) (time := 0) (code := code) (W := T.W) hn hg) (endQ.noneW Tryz.results99 ⟨rfl, rfl⟩ (fun w s => mgO_close _ { r with ts := vset r.ts k (t, ⟨st, 0, code, T.at_, T.W, T.S⟩) } ?_ ?_))
    · dsimp only; rw [tv_set, hr]
    · dsimp only
      rw [vmap_same _ hn hg]
      exact goes w s
  · refine CallG.use (hz_close r.bk M.K k) ?_
    rintro r M ⟨rfl, rfl⟩
    dsimp only [lcA, lnA]
    rw [if_neg h]
    repeat' first | refine adv ?_ | refine Side.go ?_ | refine Giv.mk fun _ => ?_ | refine All.mk fun q => ?_ | refine Fork.mk ?_ ?_ | (refine Two.mk (fun h => ?_) (fun h => ?_) <;> try first | contradiction | (exfalso; omega))
    refine endQ_conv (back_tr' (em := r.em) (t := t) (b := b) (v := v) (st := st) (time := T.time) (code := code) (W := T.W) hn hg) (endQ.noneW Tryz.results99 ⟨rfl, rfl⟩ (fun w s => mgO_close _ { r with ts := vset r.ts k (t, ⟨st, T.time, code, T.at_, T.W, T.S⟩) } ?_ ?_))
    · dsimp only; rw [tv_set, hr]
    · dsimp only
      rw [vmap_same _ hn hg]
      exact goes w s
end Go.SL
namespace Go.SL
open Go.Proofs
set_option synthInstance.maxSize 4000
set_option synthInstance.maxHeartbeats 400000
set_option maxRecDepth 4000
set_option maxHeartbeats 2000000

theorem drop_f {β : Type} {B : World} {L : List HProp} {w : World} {vs : List (Int × β)} (k : Int) (f : Int × β → HProp) (hn : (vs.map (·.1)).Nodup) (h : sat B (bigS f vs :: L) w) : sat B (bigS f (vdel vs k) :: L) w := by
  cases hg : vget vs k with
  | none => rw [vdel_none hg]; exact h
  | some x => exact (sat_bigS_cons.1 (bigS_perm (vget_perm hn hg) h)).tail

theorem ext_blocksO (m : Nat) (E : Em) : Spec Tryz.prog 93 #[.pointer (some ⟨m, 0, none⟩)] [emO m E] (fun v L => v = .int .i64 E.blocks ∧ L = [emO m E]) := by
  refine enter1 Tryz.func93 rfl (by decide) (by decide) ?_
  intro B F
  dsimp only [lcA, lnA]
  refine Sy_all (fun w h => emO_open h) (fun r => ?_)
  obtain ⟨r, hr⟩ := r
  dsimp only [emL, List.cons_append, List.nil_append]
  repeat' first | refine adv ?_ | refine Side.go ?_ | refine Giv.mk fun _ => ?_ | refine All.mk fun q => ?_ | refine Fork.mk ?_ ?_ | (refine Two.mk (fun h => ?_) (fun h => ?_) <;> try first | contradiction | (exfalso; omega))
  exact endQ.oneW Tryz.results93 ⟨rfl, rfl⟩ (fun w h => emO_close E r hr (goes w h))

theorem new_tr {B : World} {L R : List HProp} {em t b v : Nat} {ts : List (Int × TrP)} {k st time code at_ : Int} {W : Wb} {S : Iv} (hn : (ts.map (·.1)).Nodup)
    [p : Picks [cells true t 0 [.int .i64 st, .int .i64 time, .int .i64 code, .int .i64 at_, .pointer (some ⟨b, 0, none⟩), .pointer (some ⟨v, 0, none⟩)], wbO b W, viewO v em b at_ S, bigS (trF em) ts] L R] :
    ∀ w, sat B L w → sat B (bigS (trF em) (vset ts k (t, ⟨st, time, code, at_, W, S⟩)) :: R) w := fun w h => by
  have h1 := p.out B [] w (by rw [List.append_nil]; exact h)
  rw [List.append_nil] at h1
  have h2 : sat B (trO t em ⟨st, time, code, at_, W, S⟩ :: bigS (trF em) ts :: R) w := trO_close ⟨st, time, code, at_, W, S⟩ b v h1
  have h3 := drop_f k (trF em) hn (h2.perm (.swap _ _ _))
  exact put_f (trF em) hn (h3.perm (.swap _ _ _))

def Tr.new (blocks : Nat) (at_ : Int) : Tr := ⟨1, 0, 0, at_, ⟨blocks, 16, []⟩, ⟨64, []⟩⟩
def Mg.begin (M : Mg) : Int × Int × Mg :=
  if (M.K.open M.last).2.1 = 0 then ((M.K.open M.last).1, 0, { M with K := (M.K.open M.last).2.2, all := vset M.all (M.K.open M.last).1 (Tr.new M.E.blocks M.last) })
  else (0, (M.K.open M.last).2.1, { M with K := (M.K.open M.last).2.2 })
theorem tx_begin (m : Nat) (M : Mg) (hb : 1 ≤ M.E.blocks ∧ M.E.blocks ≤ 1048576) (hi : ∀ e ∈ M.K.ts, I64 e.1) (hl : M.K.ts.length ≤ 1000000) (hla : M.K.last ≤ 1000000000) :
    Spec Tryz.prog 50 #[.pointer (some ⟨m, 0, none⟩)] [mgO m M] (fun v L => v = .tuple #[.int .i64 M.begin.1, .int .i64 M.begin.2.1] ∧ L = [mgO m M.begin.2.2]) := by
  refine enter1 Tryz.func50 rfl (by decide) (by decide) ?_
  intro B F
  dsimp only [lcA, lnA]
  refine Sy_all (fun w h => mgO_open h) (fun r => ?_)
  obtain ⟨r, hr⟩ := r
  dsimp only [mgL, List.cons_append, List.nil_append] at hr ⊢
  refine Sy_know (fun B w h => map_nodup (r := r.rm) (es := vmap trV r.ts) B w h) (fun hn => ?_)
  rw [vmap_keys] at hn
  repeat' first | refine adv ?_ | refine Side.go ?_ | refine Giv.mk fun _ => ?_ | refine All.mk fun q => ?_ | refine Fork.mk ?_ ?_ | (refine Two.mk (fun h => ?_) (fun h => ?_) <;> try first | contradiction | (exfalso; omega))
  refine CallG.use (tx_gone m r.em (.pointer (some ⟨r.bk, 0, none⟩)) (.map (some r.rm)) (.slice r.qa M.queue.length r.qc) (.int .i64 M.out) (.int .i64 M.num) (.int .i64 M.base) (.int .i64 M.last) (.int .i64 M.given) (.bool M.ro)) ?_
  rintro r M ⟨rfl, rfl⟩
  dsimp only [lcA, lnA]
  repeat' first | refine adv ?_ | refine Side.go ?_ | refine Giv.mk fun _ => ?_ | refine All.mk fun q => ?_ | refine Fork.mk ?_ ?_ | (refine Two.mk (fun h => ?_) (fun h => ?_) <;> try first | contradiction | (exfalso; omega))
  refine CallG.use (hz_open r.bk M.K M.last hi hl hla) ?_
  rintro r M ⟨rfl, rfl⟩
  dsimp only [lcA, lnA]
  rw [Mg.begin]
  generalize hko : M.K.open M.last = ko
  obtain ⟨hh, e, K'⟩ := ko
  dsimp only
  repeat' first | refine adv ?_ | refine Side.go ?_ | refine Giv.mk fun _ => ?_ | refine All.mk fun q => ?_ | refine Fork.mk ?_ ?_ | (refine Two.mk (fun h => ?_) (fun h => ?_) <;> try first | contradiction | (exfalso; omega))
  · rw [if_neg h]
    dsimp only
    exact endQ.twoW Tryz.results50 ⟨rfl, rfl⟩ (fun w h => mgO_close { M with K := K' } r hr (goes w h))
  have he : e = 0 := by omega
  subst he
  rw [if_pos rfl]
  refine CallG.use (ext_blocksO r.em M.E) ?_
  rintro r M ⟨rfl, rfl⟩
  dsimp only [lcA, lnA]
  repeat' first | refine adv ?_ | refine Side.go ?_ | refine Giv.mk fun _ => ?_ | refine All.mk fun q => ?_ | refine Fork.mk ?_ ?_ | (refine Two.mk (fun h => ?_) (fun h => ?_) <;> try first | contradiction | (exfalso; omega))
  refine CallG.use (wb_new M.E.blocks 16 hb) ?_
  rintro r M ⟨b, rfl, rfl⟩
  dsimp only [lcA, lnA]
  repeat' first | refine adv ?_ | refine Side.go ?_ | refine Giv.mk fun _ => ?_ | refine All.mk fun q => ?_ | refine Fork.mk ?_ ?_ | (refine Two.mk (fun h => ?_) (fun h => ?_) <;> try first | contradiction | (exfalso; omega))
  refine CallG.use (rs_new r.em b M.last) ?_
  rintro r M ⟨v, rfl, rfl⟩
  dsimp only [lcA, lnA]
  repeat' first | refine adv ?_ | refine Side.go ?_ | refine Giv.mk fun _ => ?_ | refine All.mk fun q => ?_ | refine Fork.mk ?_ ?_ | (refine Two.mk (fun h => ?_) (fun h => ?_) <;> try first | contradiction | (exfalso; omega))
  refine endQ_conv (new_tr (em := r.em) (t := q) (b := b) (v := v) (ts := r.ts) (k := hh) (st := 1) (time := 0) (code := 0) (at_ := M.last) (W := ⟨M.E.blocks, 16, []⟩) (S := ⟨64, []⟩) hn) (endQ.twoW Tryz.results50 ⟨rfl, rfl⟩ (fun w s =>
    mgO_close { M with K := K', all := vset M.all hh (Tr.new M.E.blocks M.last) } { r with ts := vset r.ts hh (q, Tr.new M.E.blocks M.last) } ?_ ?_))
  · dsimp only; rw [tv_set, hr]
  · dsimp only
    rw [← mset_vmap]
    dsimp only [Tr.new, trV]
    exact goes w s

/-- What waits, with what it writes. -/
def Mg.waits (M : Mg) : List TV := M.queue.filterMap fun h => (vget M.all h).map fun T => (T.time, T.W.puts)
theorem tx_waiting (m : Nat) (M : Mg) (r : MgR) (hr : tv r.ts = M.all) (hq : ∀ h ∈ M.queue, ∃ T, vget M.all h = some T) (hql : M.queue.length ≤ 1000000) (hW : ∀ e ∈ M.all, e.2.W.vs.length ≤ 1000000 ∧ ∀ x ∈ e.2.W.vs, I64 x.1) :
    Spec Tryz.prog 101 #[.pointer (some ⟨m, 0, none⟩)] (mgL m M r) (fun v L => ∃ t : Sl TxR, t.xs.map TxR.v = M.waits ∧ v = t.val ∧ L = ownS t :: mgL m M r) := by
  refine enter1 Tryz.func101 rfl (by decide) (by decide) ?_
  intro B F
  dsimp only [lcA, lnA]
  dsimp only [mgL, List.cons_append, List.nil_append]
  refine Sy_know (fun B w h => map_nodup (r := r.rm) (es := vmap trV r.ts) B w h) (fun hn => ?_)
  rw [vmap_keys] at hn
  repeat' first | refine adv ?_ | refine Side.go ?_ | refine Giv.mk fun _ => ?_ | refine All.mk fun q => ?_ | refine Fork.mk ?_ ?_ | (refine Two.mk (fun h => ?_) (fun h => ?_) <;> try first | contradiction | (exfalso; omega))
  refine Sy_loop (ι := {st : Nat × Sl TxR // (st.1 ≤ M.queue.length ∧ st.2.xs.length ≤ st.1) ∧ st.2.xs.map TxR.v = (M.queue.take st.1).filterMap fun h => (vget M.all h).map fun T => (T.time, T.W.puts)})
    (fun st => [(11, .int .i64 st.1.1), (10, .int .i64 M.queue.length), (9, .slice r.qa M.queue.length r.qc), (2, st.1.2.val), (0, .pointer (some ⟨m, 0, none⟩))])
    (fun st => ownS st.1.2 :: cells true m 0 [.pointer (some ⟨r.em, 0, none⟩), .pointer (some ⟨r.bk, 0, none⟩), .map (some r.rm), .slice r.qa M.queue.length r.qc, .int .i64 M.out, .int .i64 M.num, .int .i64 M.base, .int .i64 M.last, .int .i64 M.given, .bool M.ro] ::
      emO r.em M.E :: bkO r.bk M.K :: mapO r.rm (vmap trV r.ts) :: ownS (⟨r.qa, r.qc, M.queue⟩ : Sl Int) :: bigS (trF r.em) r.ts :: F)
    (fun st => M.queue.length - st.1.1) ⟨(0, ⟨none, 0, []⟩), ⟨Nat.zero_le _, Nat.le_refl _⟩, rfl⟩ (evs rfl (evs rfl (evs rfl (evs rfl (evs rfl .nil))))) (fun w h => goes w (sat_true (own_nil (α := TxR)) h)) ?_
  rintro ⟨⟨j, t⟩, ⟨hj, htl⟩, ht⟩ env
  dsimp only [upds] at hj htl ht ⊢
  by_cases hj2 : j < M.queue.length
  · obtain ⟨T, hT⟩ := hq _ (List.getElem_mem hj2)
    obtain ⟨x, hg⟩ : ∃ x, vget r.ts M.queue[j] = some (x, T) := by
      rw [← hr, vget_tv] at hT
      obtain ⟨y, hy, rfl⟩ := Option.map_eq_some_iff.1 hT
      exact ⟨y.1, hy⟩
    haveI := mg_vmap (f := trV) hg
    have hTW := hW (M.queue[j], T) (by rw [← hr]; obtain ⟨y, hy, hym⟩ := vget_mem (vs := r.ts) (k := M.queue[j]) ((vget_perm hn hg).symm.map _ |>.mem_iff.1 (by simp)); rw [hg] at hy; cases hy; exact List.mem_map.2 ⟨_, hym, rfl⟩)
    refine Sy_conv (take_f (trF r.em) hn hg) ?_
    dsimp only [trF]
    refine Sy_all (fun w h => trO_open h) (fun q => ?_)
    obtain ⟨b, v⟩ := q
    dsimp only
    repeat' first | refine adv ?_ | refine Side.go ?_ | refine Giv.mk fun _ => ?_ | refine All.mk fun q => ?_ | refine Fork.mk ?_ ?_ | (refine Two.mk (fun h => ?_) (fun h => ?_) <;> try first | contradiction | (exfalso; omega))
    refine CallG.use (wb_puts b T.W hTW.2 hTW.1) ?_
    rintro r M ⟨u, hu, rfl, rfl⟩
    dsimp only [lcA, lnA]
    repeat' first | refine adv ?_ | refine Side.go ?_ | refine Giv.mk fun _ => ?_ | refine All.mk fun q => ?_ | refine Fork.mk ?_ ?_ | (refine Two.mk (fun h => ?_) (fun h => ?_) <;> try first | contradiction | (exfalso; omega))
    refine AppG.oneT t ⟨T.time, u⟩ (by omega) (fun a2 c2 => ?_)
    repeat' first | refine adv ?_ | refine Side.go ?_ | refine Giv.mk fun _ => ?_ | refine All.mk fun q => ?_ | refine Fork.mk ?_ ?_ | (refine Two.mk (fun h => ?_) (fun h => ?_) <;> try first | contradiction | (exfalso; omega))
    refine loopQ.next ⟨(j + 1, ⟨a2, c2, t.xs ++ [⟨T.time, u⟩]⟩), ⟨by dsimp only; omega, by simp; omega⟩, ?_⟩ (by simp only []; omega) (evs rfl (evs rfl (evs rfl (evs rfl (evs rfl .nil))))) (fun w s => by
      have h2 := back_tr (em := r.em) (t := x) (b := b) (v := v) hn hg w s
      exact goes w h2)
    dsimp only
    rw [List.map_append, ht, List.take_succ_eq_append_getElem hj2, List.filterMap_append, List.filterMap_cons, hT]
    simp [TxR.v, hu]
  · have hj3 : j = M.queue.length := by omega
    subst hj3
    rw [List.take_length] at ht
    repeat' first | refine adv ?_ | refine Side.go ?_ | refine Giv.mk fun _ => ?_ | refine All.mk fun q => ?_ | refine Fork.mk ?_ ?_ | (refine Two.mk (fun h => ?_) (fun h => ?_) <;> try first | contradiction | (exfalso; omega))
    exact endQ.oneW Tryz.results101 ⟨t, ht, rfl, rfl⟩ (fun w h => goes w h)
end Go.SL
namespace Go.SL
open Go.Proofs
set_option synthInstance.maxSize 4000
set_option synthInstance.maxHeartbeats 400000
set_option maxRecDepth 4000
set_option maxHeartbeats 2000000

def Mg.mayC (M : Mg) (T : Tr) (k : Int) : Int :=
  if M.ro = true then 10 else if checkE M.E T.at_ ⟨64, []⟩ ⟨1, [⟨k, 1⟩]⟩ ≠ 0 then checkE M.E T.at_ ⟨64, []⟩ ⟨1, [⟨k, 1⟩]⟩ else if 1099511627776 ≤ M.given then 11 else 0
theorem tx_waiting0 (m e b rm : Nat) (a : Option Addr) (c : Nat) (x4 x5 x6 x7 x8 x9 : Value) :
    Spec Tryz.prog 101 #[.pointer (some ⟨m, 0, none⟩)] [cells true m 0 [.pointer (some ⟨e, 0, none⟩), .pointer (some ⟨b, 0, none⟩), .map (some rm), .slice a 0 c, x4, x5, x6, x7, x8, x9]]
      (fun v L => v = .slice none 0 0 ∧ L = [cells true m 0 [.pointer (some ⟨e, 0, none⟩), .pointer (some ⟨b, 0, none⟩), .map (some rm), .slice a 0 c, x4, x5, x6, x7, x8, x9]]) := by
  refine enter1 Tryz.func101 rfl (by decide) (by decide) ?_
  intro B F
  dsimp only [lcA, lnA]
  repeat' first | refine adv ?_ | refine Side.go ?_ | refine Giv.mk fun _ => ?_ | refine All.mk fun q => ?_ | refine Fork.mk ?_ ?_ | (refine Two.mk (fun h => ?_) (fun h => ?_) <;> try first | contradiction | (exfalso; omega))
  refine Sy_loop (ι := Unit) (fun _ => [(11, .int .i64 0), (10, .int .i64 0), (2, .slice none 0 0)])
    (fun _ => cells true m 0 [.pointer (some ⟨e, 0, none⟩), .pointer (some ⟨b, 0, none⟩), .map (some rm), .slice a 0 c, x4, x5, x6, x7, x8, x9] :: F) (fun _ => 0) () (evs rfl (evs rfl (evs rfl .nil))) (fun w h => goes w h) ?_
  rintro ⟨⟩ env
  dsimp only [upds]
  repeat' first | refine adv ?_ | refine Side.go ?_ | refine Giv.mk fun _ => ?_ | refine All.mk fun q => ?_ | refine Fork.mk ?_ ?_ | (refine Two.mk (fun h => ?_) (fun h => ?_) <;> try first | contradiction | (exfalso; omega))
  exact endQ.oneW Tryz.results101 ⟨rfl, rfl⟩ (fun w h => goes w h)

theorem tx_may1 (m : Nat) (M : Mg) (r : MgR) (h : Int) (t : Nat) (T : Tr) (k : Int) (d : List UInt8) (hr : tv r.ts = M.all) (hg : vget r.ts h = some (t, T)) (hq : M.queue = []) (hS : T.S.l = []) (hW : T.W.vs = [(k, d)]) (hk : 0 ≤ k ∧ k ≤ 1048575)
    (hE : ∀ e ∈ M.E.vs, I64 e.1 ∧ 0 < e.2.length ∧ e.2.length ≤ 2000000) (hall : ∀ e ∈ M.all, e.2.W.vs.length ≤ 1000000 ∧ ∀ x ∈ e.2.W.vs, I64 x.1) :
    Spec Tryz.prog 100 #[.pointer (some ⟨m, 0, none⟩), .pointer (some ⟨t, 0, none⟩)] (mgL m M r) (fun v L => v = .int .i64 (M.mayC T k) ∧ L = mgL m M r) := by
  refine enter2 Tryz.func100 rfl (by decide) (by decide) ?_
  intro B F
  dsimp only [lcA, lnA]
  dsimp only [mgL, List.cons_append, List.nil_append]
  refine Sy_know (fun B w h => map_nodup (r := r.rm) (es := vmap trV r.ts) B w h) (fun hn => ?_)
  rw [vmap_keys] at hn
  have hwt : M.waits = [] := by rw [Mg.waits, hq]; rfl
  rw [hq]
  refine Sy_conv (take_f (trF r.em) hn hg) ?_
  dsimp only [trF]
  refine Sy_all (fun w h => trO_open h) (fun q => ?_)
  obtain ⟨b, v⟩ := q
  dsimp only [List.length_nil]
  cases hro : M.ro with
  | true =>
    repeat' first | refine adv ?_ | refine Side.go ?_ | refine Giv.mk fun _ => ?_ | refine All.mk fun q => ?_ | refine Fork.mk ?_ ?_ | (refine Two.mk (fun h => ?_) (fun h => ?_) <;> try first | contradiction | (exfalso; omega))
    exact endQ_conv (back_tr (em := r.em) (t := t) (b := b) (v := v) hn hg) (endQ.oneW Tryz.results100 ⟨by rw [Mg.mayC, if_pos hro], rfl⟩ (fun w h => goes w h))
  | false =>
  repeat' first | refine adv ?_ | refine Side.go ?_ | refine Giv.mk fun _ => ?_ | refine All.mk fun q => ?_ | refine Fork.mk ?_ ?_ | (refine Two.mk (fun h => ?_) (fun h => ?_) <;> try first | contradiction | (exfalso; omega))
  refine CallG.use (tx_waiting0 m r.em r.bk r.rm r.qa r.qc (.int .i64 M.out) (.int .i64 M.num) (.int .i64 M.base) (.int .i64 M.last) (.int .i64 M.given) (.bool false)) ?_
  rintro r M ⟨rfl, rfl⟩
  dsimp only [lcA, lnA]
  repeat' first | refine adv ?_ | refine Side.go ?_ | refine Giv.mk fun _ => ?_ | refine All.mk fun q => ?_ | refine Fork.mk ?_ ?_ | (refine Two.mk (fun h => ?_) (fun h => ?_) <;> try first | contradiction | (exfalso; omega))
  refine CallG.use (rs_set v r.em b T.at_ T.S hS) ?_
  rintro r M ⟨s1, rfl, rfl⟩
  dsimp only [lcA, lnA]
  repeat' first | refine adv ?_ | refine Side.go ?_ | refine Giv.mk fun _ => ?_ | refine All.mk fun q => ?_ | refine Fork.mk ?_ ?_ | (refine Two.mk (fun h => ?_) (fun h => ?_) <;> try first | contradiction | (exfalso; omega))
  refine CallG.use (wb_set1 b T.W k d hW hk) ?_
  rintro r M ⟨s2, rfl, rfl⟩
  dsimp only [lcA, lnA]
  repeat' first | refine adv ?_ | refine Side.go ?_ | refine Giv.mk fun _ => ?_ | refine All.mk fun q => ?_ | refine Fork.mk ?_ ?_ | (refine Two.mk (fun h => ?_) (fun h => ?_) <;> try first | contradiction | (exfalso; omega))
  refine CallG.use (valid_check r.em s1 s2 M.E ⟨64, []⟩ ⟨1, [⟨k, 1⟩]⟩ T.at_ none 0 hE (by simp) (by simp) (by intro e he; cases he) (by intro e he; rw [List.mem_singleton.1 he]; dsimp only; omega)) ?_
  rintro r M ⟨rfl, rfl⟩
  dsimp only [lcA, lnA]
  repeat' first | refine adv ?_ | refine Side.go ?_ | refine Giv.mk fun _ => ?_ | refine All.mk fun q => ?_ | refine Fork.mk ?_ ?_ | (refine Two.mk (fun h => ?_) (fun h => ?_) <;> try first | contradiction | (exfalso; omega))
  · exact endQ_conv (back_tr (em := r.em) (t := t) (b := b) (v := v) hn hg) (endQ.oneW Tryz.results100 ⟨by rw [Mg.mayC, if_neg (by rw [hro]; decide), if_pos (by assumption)], rfl⟩ (fun w h => goes w h))
  · exact endQ_conv (back_tr (em := r.em) (t := t) (b := b) (v := v) hn hg) (endQ.oneW Tryz.results100 ⟨by rw [Mg.mayC, if_neg (by rw [hro]; decide), if_neg (by assumption), if_pos (by assumption)], rfl⟩ (fun w h => goes w h))
  · exact endQ_conv (back_tr (em := r.em) (t := t) (b := b) (v := v) hn hg) (endQ.oneW Tryz.results100 ⟨by rw [Mg.mayC, if_neg (by rw [hro]; decide), if_neg (by assumption), if_neg (by assumption)], rfl⟩ (fun w h => goes w h))

/-- Commit of one that writes a single block, where nothing waits. -/
def Mg.commit1 (M : Mg) (hd : Int) (T : Tr) (k : Int) : Int × Mg :=
  if M.mayC T k ≠ 0 then (M.mayC T k, M.end hd 4 (M.mayC T k))
  else (0, { M with given := M.given + 1, all := vset M.all hd { T with st := 2, time := M.given + 1 }, queue := [hd] })
theorem tx_commit1 (m : Nat) (M : Mg) (hd : Int) (T : Tr) (k : Int) (d : List UInt8) (hT : vget M.all hd = some T) (hst : T.st = 1) (hq : M.queue = []) (hS : T.S.l = []) (hW : T.W.vs = [(k, d)]) (hk : 0 ≤ k ∧ k ≤ 1048575)
    (hE : ∀ e ∈ M.E.vs, I64 e.1 ∧ 0 < e.2.length ∧ e.2.length ≤ 2000000) (hall : ∀ e ∈ M.all, e.2.W.vs.length ≤ 1000000 ∧ ∀ x ∈ e.2.W.vs, I64 x.1) (hgv : (0 : Int) ≤ M.given) :
    Spec Tryz.prog 53 #[.pointer (some ⟨m, 0, none⟩), .int .i64 hd] [mgO m M] (fun v L => v = .int .i64 (M.commit1 hd T k).1 ∧ L = [mgO m (M.commit1 hd T k).2]) := by
  refine enter2 Tryz.func53 rfl (by decide) (by decide) ?_
  intro B F
  dsimp only [lcA, lnA]
  refine Sy_all (fun w h => mgO_open h) (fun r => ?_)
  obtain ⟨r, hr⟩ := r
  dsimp only [mgL, List.cons_append, List.nil_append] at hr ⊢
  refine Sy_know (fun B w h => map_nodup (r := r.rm) (es := vmap trV r.ts) B w h) (fun hn => ?_)
  rw [vmap_keys] at hn
  obtain ⟨t, hg⟩ : ∃ t, vget r.ts hd = some (t, T) := by
    have hT2 := hT
    rw [← hr, vget_tv] at hT2
    obtain ⟨x, hx, rfl⟩ := Option.map_eq_some_iff.1 hT2
    exact ⟨x.1, hx⟩
  repeat' first | refine adv ?_ | refine Side.go ?_ | refine Giv.mk fun _ => ?_ | refine All.mk fun q => ?_ | refine Fork.mk ?_ ?_ | (refine Two.mk (fun h => ?_) (fun h => ?_) <;> try first | contradiction | (exfalso; omega))
  refine CallG.use (tx_open m M r hd) ?_
  rintro r M ⟨rfl, rfl⟩
  dsimp only [lcA, lnA]
  rw [hg]
  dsimp only
  rw [if_pos hst]
  refine SyO_conv (take_f (trF r.em) hn hg) ?_
  dsimp only [trF, trV]
  refine SyO_all (fun w h => trO_open h) (fun q => ?_)
  obtain ⟨b, v⟩ := q
  dsimp only
  repeat' first | refine adv ?_ | refine Side.go ?_ | refine Giv.mk fun _ => ?_ | refine All.mk fun q => ?_ | refine Fork.mk ?_ ?_ | (refine Two.mk (fun h => ?_) (fun h => ?_) <;> try first | contradiction | (exfalso; omega))
  refine CallG.use (wb_len b T.W (by rw [hW]; intro e he; rw [List.mem_singleton.1 he]; constructor <;> dsimp only <;> omega) (by rw [hW]; simp)) ?_
  rintro r M ⟨rfl, rfl⟩
  dsimp only [lcA, lnA]
  rw [hW]
  repeat' first | refine adv ?_ | refine Side.go ?_ | refine Giv.mk fun _ => ?_ | refine All.mk fun q => ?_ | refine Fork.mk ?_ ?_ | (refine Two.mk (fun h => ?_) (fun h => ?_) <;> try first | contradiction | (exfalso; omega))
  · exfalso
    simp only [List.length_cons, List.length_nil] at h
    omega
  refine CallG_conv (fun B => back_tr (em := r.em) (t := t) (b := b) (v := v) hn hg) ?_
  refine CallG.use (tx_may1 m M r hd t T k d hr hg hq hS hW hk hE hall) ?_
  rintro r M ⟨rfl, rfl⟩
  dsimp only [lcA, lnA]
  by_cases hc : M.mayC T k = 0
  · have hgl : M.given < 1099511627776 := by
      rw [Mg.mayC] at hc
      split at hc
      · exact absurd hc (by decide)
      split at hc
      · contradiction
      split at hc
      · exact absurd hc (by decide)
      · omega
    rw [Mg.commit1, if_neg (by omega), hc]
    refine SyO_conv (take_f (trF r.em) hn hg) ?_
    dsimp only [trF]
    refine SyO_all (fun w h => trO_open h) (fun q => ?_)
    obtain ⟨b', v'⟩ := q
    dsimp only
    repeat' first | refine adv ?_ | refine Side.go ?_ | refine Giv.mk fun _ => ?_ | refine All.mk fun q => ?_ | refine Fork.mk ?_ ?_ | (refine Two.mk (fun h => ?_) (fun h => ?_) <;> try first | contradiction | (exfalso; omega))
    refine AppG.one' (⟨r.qa, r.qc, M.queue⟩ : Sl Int) hd (fun _ => trivial) (by dsimp only; rw [hq]; simp) (fun a2 c2 => ?_)
    repeat' first | refine adv ?_ | refine Side.go ?_ | refine Giv.mk fun _ => ?_ | refine All.mk fun q => ?_ | refine Fork.mk ?_ ?_ | (refine Two.mk (fun h => ?_) (fun h => ?_) <;> try first | contradiction | (exfalso; omega))
    refine endQ_conv (back_tr' (em := r.em) (t := t) (b := b') (v := v') (st := 2) (time := M.given + 1) (code := T.code) (W := T.W) hn hg) (endQ.oneW Tryz.results53 ⟨rfl, rfl⟩ (fun w s =>
      mgO_close { M with given := M.given + 1, all := vset M.all hd { T with st := 2, time := M.given + 1 }, queue := [hd] } { r with qa := a2, qc := c2, ts := vset r.ts hd (t, ⟨2, M.given + 1, T.code, T.at_, T.W, T.S⟩) } ?_ ?_))
    · dsimp only; rw [tv_set, hr]
    · dsimp only
      rw [vmap_same _ hn hg]
      rw [hq] at s
      dsimp only [List.nil_append] at s
      exact goes w s
  · repeat' first | refine adv ?_ | refine Side.go ?_ | refine Giv.mk fun _ => ?_ | refine All.mk fun q => ?_ | refine Fork.mk ?_ ?_ | (refine Two.mk (fun h => ?_) (fun h => ?_) <;> try first | contradiction | (exfalso; omega))
    · refine CallG_conv (L' := mgO m M :: F) (fun B w s => mgO_close M r hr (goes w s)) ?_
      refine CallG.use (tx_end m M hd 4 (M.mayC T k) T hT) ?_
      rintro r M ⟨rfl, rfl⟩
      dsimp only [lcA, lnA]
      repeat' first | refine adv ?_ | refine Side.go ?_ | refine Giv.mk fun _ => ?_ | refine All.mk fun q => ?_ | refine Fork.mk ?_ ?_ | (refine Two.mk (fun h => ?_) (fun h => ?_) <;> try first | contradiction | (exfalso; omega))
      exact endQ.oneW Tryz.results53 ⟨by rw [Mg.commit1, if_pos (by assumption)], by rw [Mg.commit1, if_pos (by assumption)]⟩ (fun w h => goes w h)
end Go.SL
namespace Go.SL
open Go.Proofs
set_option synthInstance.maxSize 4000
set_option synthInstance.maxHeartbeats 400000
set_option maxRecDepth 4000
set_option maxHeartbeats 2000000

def Mg.batch (M : Mg) : Int × Mg × Int × List TV :=
  if 0 < M.out then (16, M, 0, []) else if M.queue = [] then (14, M, 0, [])
  else (0, { M with out := formGo 0 0 M.waits }, (M.num : Int) + 1, M.waits.take (formGo 0 0 M.waits))
theorem tx_batch (m : Nat) (M : Mg) (hq : ∀ h ∈ M.queue, ∃ T, vget M.all h = some T) (hql : M.queue.length ≤ 1000000) (hW : ∀ e ∈ M.all, e.2.W.vs.length ≤ 1000000 ∧ ∀ x ∈ e.2.W.vs, I64 x.1) (hnum : M.num ≤ 1000000000)
    (hform : formGo 0 0 M.waits ≤ M.waits.length) :
    Spec Tryz.prog 54 #[.pointer (some ⟨m, 0, none⟩)] [mgO m M] (fun v L => ∃ t : Sl TxR, t.xs.map TxR.v = M.batch.2.2.2 ∧ v = .tuple #[.agg #[.int .i64 M.batch.2.2.1, t.val], .int .i64 M.batch.1] ∧ L = [mgO m M.batch.2.1, roS t]) := by
  refine enter1 Tryz.func54 rfl (by decide) (by decide) ?_
  intro B F
  dsimp only [lcA, lnA]
  refine Sy_all (fun w h => mgO_open h) (fun r => ?_)
  obtain ⟨r, hr⟩ := r
  dsimp only [mgL, List.cons_append, List.nil_append] at hr ⊢
  repeat' first | refine adv ?_ | refine Side.go ?_ | refine Giv.mk fun _ => ?_ | refine All.mk fun q => ?_ | refine Fork.mk ?_ ?_ | (refine Two.mk (fun h => ?_) (fun h => ?_) <;> try first | contradiction | (exfalso; omega))
  refine CallG.use (tx_gone m r.em (.pointer (some ⟨r.bk, 0, none⟩)) (.map (some r.rm)) (.slice r.qa M.queue.length r.qc) (.int .i64 M.out) (.int .i64 M.num) (.int .i64 M.base) (.int .i64 M.last) (.int .i64 M.given) (.bool M.ro)) ?_
  rintro r M ⟨rfl, rfl⟩
  dsimp only [lcA, lnA]
  repeat' first | refine adv ?_ | refine Side.go ?_ | refine Giv.mk fun _ => ?_ | refine All.mk fun q => ?_ | refine Fork.mk ?_ ?_ | (refine Two.mk (fun h => ?_) (fun h => ?_) <;> try first | contradiction | (exfalso; omega))
  · have e : M.batch = (16, M, 0, []) := by rw [Mg.batch, if_pos (by omega)]
    rw [e]
    exact endQ.resW Tryz.results54 ⟨⟨none, 0, []⟩, rfl, rfl, rfl⟩ (fun w s => mgO_close M r hr (goes w (sat_true (ro_nil (α := TxR)) s)))
  · have hq0 : M.queue = [] := List.eq_nil_of_length_eq_zero (by omega)
    have e : M.batch = (14, M, 0, []) := by rw [Mg.batch, if_neg (by omega), if_pos hq0]
    rw [e]
    exact endQ.resW Tryz.results54 ⟨⟨none, 0, []⟩, rfl, rfl, rfl⟩ (fun w s => mgO_close M r hr (goes w (sat_true (ro_nil (α := TxR)) s)))
  have hq0 : M.queue ≠ [] := fun x => by rw [x] at h; exact h rfl
  have e : M.batch = (0, { M with out := formGo 0 0 M.waits }, (M.num : Int) + 1, M.waits.take (formGo 0 0 M.waits)) := by rw [Mg.batch, if_neg (by omega), if_neg hq0]
  rw [e]
  refine CallG.use (tx_waiting m M r hr hq hql hW) ?_
  rintro r M ⟨t, ht, rfl, rfl⟩
  dsimp only [lcA, lnA]
  repeat' first | refine adv ?_ | refine Side.go ?_ | refine Giv.mk fun _ => ?_ | refine All.mk fun q => ?_ | refine Fork.mk ?_ ?_ | (refine Two.mk (fun h => ?_) (fun h => ?_) <;> try first | contradiction | (exfalso; omega))
  refine CallG.freeze t ?_
  refine CallG.use (batch_form t) ?_
  rintro r M ⟨rfl, rfl⟩
  dsimp only [lcA, lnA]
  rw [ht]
  have htl : t.xs.length = M.waits.length := by rw [← ht]; simp
  have hfl : formGo 0 0 M.waits ≤ t.xs.length := by omega
  repeat' first | refine adv ?_ | refine Side.go ?_ | refine Giv.mk fun _ => ?_ | refine All.mk fun q => ?_ | refine Fork.mk ?_ ?_ | (refine Two.mk (fun h => ?_) (fun h => ?_) <;> try first | contradiction | (exfalso; omega))
  exact endQ.resW Tryz.results54 ⟨⟨q, t.c - 0, List.drop 0 (List.take (formGo 0 0 M.waits) t.xs)⟩, by rw [List.drop_zero, List.map_take, ht], rfl, rfl⟩ (fun w s => mgO_close { M with out := formGo 0 0 M.waits } r hr (goes w s))

/-- One of the batch that is done. -/
def Mg.done1 (M : Mg) (code h : Int) (tx : TV) : Mg :=
  if code ≠ 0 then M.end h 4 code else ({ M with E := (M.E.apply tx.1 tx.2).2, last := tx.1 } : Mg).end h 3 0
def Mg.doneK (M : Mg) (code : Int) : Nat → Mg
  | 0 => M
  | k + 1 => (M.doneK code k).done1 code (M.queue[k]?.getD 0) (M.waits[k]?.getD (0, []))
def Mg.done (M : Mg) (code : Int) : Int × Mg :=
  if M.out = 0 then (14, M) else (0, { M.doneK code M.out with num := if code = 0 then M.num + 1 else M.num, queue := M.queue.drop M.out, out := 0 })

def Tr.ended (T : Tr) (st code : Int) : Tr := { T with st := st, code := code, time := if st = 4 then 0 else T.time }
theorem end_rest (M : Mg) (h st code : Int) : (M.end h st code).queue = M.queue ∧ (M.end h st code).out = M.out ∧ (M.end h st code).num = M.num ∧ (M.end h st code).base = M.base ∧ (M.end h st code).given = M.given ∧ (M.end h st code).ro = M.ro := by
  unfold Mg.end; split <;> exact ⟨rfl, rfl, rfl, rfl, rfl, rfl⟩
theorem doneK_rest (M : Mg) (code : Int) (k : Nat) : (M.doneK code k).queue = M.queue ∧ (M.doneK code k).out = M.out ∧ (M.doneK code k).num = M.num ∧ (M.doneK code k).base = M.base ∧ (M.doneK code k).given = M.given ∧ (M.doneK code k).ro = M.ro := by
  induction k with
  | zero => exact ⟨rfl, rfl, rfl, rfl, rfl, rfl⟩
  | succ k ih =>
    rw [Mg.doneK, Mg.done1]
    split
    · obtain ⟨h1, h2, h3, h4, h5, h6⟩ := end_rest (M.doneK code k) (M.queue[k]?.getD 0) 4 code
      exact ⟨h1.trans ih.1, h2.trans ih.2.1, h3.trans ih.2.2.1, h4.trans ih.2.2.2.1, h5.trans ih.2.2.2.2.1, h6.trans ih.2.2.2.2.2⟩
    · obtain ⟨h1, h2, h3, h4, h5, h6⟩ := end_rest { M.doneK code k with E := ((M.doneK code k).E.apply (M.waits[k]?.getD (0, [])).1 (M.waits[k]?.getD (0, [])).2).2, last := (M.waits[k]?.getD (0, [])).1 } (M.queue[k]?.getD 0) 3 0
      exact ⟨h1.trans ih.1, h2.trans ih.2.1, h3.trans ih.2.2.1, h4.trans ih.2.2.2.1, h5.trans ih.2.2.2.2.1, h6.trans ih.2.2.2.2.2⟩

theorem end_some {M : Mg} {h st code : Int} {T : Tr} (hT : vget M.all h = some T) : M.end h st code = { M with all := vset M.all h (T.ended st code), K := { M.K with ts := verase M.K.ts h } } := by
  simp only [Mg.end, hT, Tr.ended]
/-- The same, where the manager lies open. -/
theorem tx_end_r (m em bk rm : Nat) (x3 x4 x5 x6 x7 x8 x9 : Value) (K : Bk) (ts : List (Int × TrP)) (k st code : Int) (t : Nat) (T : Tr) (hg : vget ts k = some (t, T)) :
    Spec Tryz.prog 99 #[.pointer (some ⟨m, 0, none⟩), .int .i64 k, .int .i64 st, .int .i64 code] [cells true m 0 [.pointer (some ⟨em, 0, none⟩), .pointer (some ⟨bk, 0, none⟩), .map (some rm), x3, x4, x5, x6, x7, x8, x9], bkO bk K, mapO rm (vmap trV ts), bigS (trF em) ts]
      (fun v L => v = .tuple #[] ∧ L = [cells true m 0 [.pointer (some ⟨em, 0, none⟩), .pointer (some ⟨bk, 0, none⟩), .map (some rm), x3, x4, x5, x6, x7, x8, x9], bkO bk { K with ts := verase K.ts k }, mapO rm (vmap trV (vset ts k (t, T.ended st code))), bigS (trF em) (vset ts k (t, T.ended st code))]) := by
  refine enter4 Tryz.func99 rfl (by decide) (by decide) ?_
  intro B F
  dsimp only [lcA, lnA]
  refine Sy_know (fun B w h => map_nodup (r := rm) (es := vmap trV ts) B w h) (fun hn => ?_)
  rw [vmap_keys] at hn
  rw [vmap_same _ hn hg]
  haveI := mg_vmap (f := trV) hg
  refine Sy_conv (take_f (trF em) hn hg) ?_
  dsimp only [trF]
  refine Sy_all (fun w h => trO_open h) (fun q => ?_)
  obtain ⟨b, v⟩ := q
  dsimp only
  repeat' first | refine adv ?_ | refine Side.go ?_ | refine Giv.mk fun _ => ?_ | refine All.mk fun q => ?_ | refine Fork.mk ?_ ?_ | (refine Two.mk (fun h => ?_) (fun h => ?_) <;> try first | contradiction | (exfalso; omega))
  · refine CallG.use (hz_close bk K k) ?_
    rintro r M ⟨rfl, rfl⟩
    dsimp only [lcA, lnA]
    rw [Tr.ended, if_pos h]
    repeat' first | refine adv ?_ | refine Side.go ?_ | refine Giv.mk fun _ => ?_ | refine All.mk fun q => ?_ | refine Fork.mk ?_ ?_ | (refine Two.mk (fun h => ?_) (fun h => ?_) <;> try first | contradiction | (exfalso; omega))
    exact endQ_conv (back_tr' (em := em) (t := t) (b := b) (v := v) (st := st) (time := 0) (code := code) (W := T.W) hn hg) (endQ.noneW Tryz.results99 ⟨rfl, rfl⟩ (fun w s => goes w s))
  · refine CallG.use (hz_close bk K k) ?_
    rintro r M ⟨rfl, rfl⟩
    dsimp only [lcA, lnA]
    rw [Tr.ended, if_neg h]
    repeat' first | refine adv ?_ | refine Side.go ?_ | refine Giv.mk fun _ => ?_ | refine All.mk fun q => ?_ | refine Fork.mk ?_ ?_ | (refine Two.mk (fun h => ?_) (fun h => ?_) <;> try first | contradiction | (exfalso; omega))
    exact endQ_conv (back_tr' (em := em) (t := t) (b := b) (v := v) (st := st) (time := T.time) (code := code) (W := T.W) hn hg) (endQ.noneW Tryz.results99 ⟨rfl, rfl⟩ (fun w s => goes w s))

theorem tx_done (m : Nat) (M : Mg) (code : Int) (hq : ∀ h ∈ M.queue, ∃ T, vget M.all h = some T) (hql : M.queue.length ≤ 1000000) (hW : ∀ e ∈ M.all, e.2.W.vs.length ≤ 1000000 ∧ ∀ x ∈ e.2.W.vs, I64 x.1) (hnum : M.num ≤ 1000000000)
    (hwl : M.waits.length = M.queue.length) (hout : M.out ≤ M.queue.length) (hwp : ∀ x ∈ M.waits, x.2.length ≤ 1000000)
    (hE : ∀ k < M.out, ∀ e ∈ (M.doneK code k).E.vs, e.2.length ≤ 1000000) (hk : ∀ k (h : k < M.out), ∃ T, vget (M.doneK code k).all (M.queue[k]?.getD 0) = some T) :
    Spec Tryz.prog 56 #[.pointer (some ⟨m, 0, none⟩), .int .i64 code] [mgO m M] (fun v L => v = .int .i64 (M.done code).1 ∧ L = [mgO m (M.done code).2]) := by
  refine enter2 Tryz.func56 rfl (by decide) (by decide) ?_
  intro B F
  dsimp only [lcA, lnA]
  refine Sy_all (fun w h => mgO_open h) (fun r => ?_)
  obtain ⟨r, hr⟩ := r
  dsimp only [mgL, List.cons_append, List.nil_append] at hr ⊢
  repeat' first | refine adv ?_ | refine Side.go ?_ | refine Giv.mk fun _ => ?_ | refine All.mk fun q => ?_ | refine Fork.mk ?_ ?_ | (refine Two.mk (fun h => ?_) (fun h => ?_) <;> try first | contradiction | (exfalso; omega))
  refine CallG.use (tx_gone m r.em (.pointer (some ⟨r.bk, 0, none⟩)) (.map (some r.rm)) (.slice r.qa M.queue.length r.qc) (.int .i64 M.out) (.int .i64 M.num) (.int .i64 M.base) (.int .i64 M.last) (.int .i64 M.given) (.bool M.ro)) ?_
  rintro r M ⟨rfl, rfl⟩
  dsimp only [lcA, lnA]
  repeat' first | refine adv ?_ | refine Side.go ?_ | refine Giv.mk fun _ => ?_ | refine All.mk fun q => ?_ | refine Fork.mk ?_ ?_ | (refine Two.mk (fun h => ?_) (fun h => ?_) <;> try first | contradiction | (exfalso; omega))
  · have e : M.done code = (14, M) := by rw [Mg.done, if_pos (by omega)]
    rw [e]
    exact endQ.oneW Tryz.results56 ⟨rfl, rfl⟩ (fun w s => mgO_close M r hr (goes w s))
  refine CallG.use (tx_waiting m M r hr hq hql hW) ?_
  rintro r M ⟨t, ht, rfl, rfl⟩
  dsimp only [lcA, lnA]
  have htl : t.xs.length = M.queue.length := by rw [← hwl, ← ht]; simp
  have hto : M.out ≤ t.xs.length := by omega
  refine adv ?_
  refine RP_conv (L' := roS t :: roS (⟨r.qa, r.qc, M.queue⟩ : Sl Int) :: cells true m 0 [.pointer (some ⟨r.em, 0, none⟩), .pointer (some ⟨r.bk, 0, none⟩), .map (some r.rm), .slice r.qa M.queue.length r.qc, .int .i64 M.out, .int .i64 M.num, .int .i64 M.base, .int .i64 M.last, .int .i64 M.given, .bool M.ro] ::
      emO r.em M.E :: bkO r.bk M.K :: mapO r.rm (vmap trV r.ts) :: bigS (trF r.em) r.ts :: F) (fun w s => goes w s) ?_
  repeat' first | refine adv ?_ | refine Side.go ?_ | refine Giv.mk fun _ => ?_ | refine All.mk fun q => ?_ | refine Fork.mk ?_ ?_ | (refine Two.mk (fun h => ?_) (fun h => ?_) <;> try first | contradiction | (exfalso; omega))
  rename_i qt
  dsimp only
  have hys : (List.drop 0 (List.take M.out t.xs)) = t.xs.take M.out := rfl
  have hhs : (List.drop 0 (List.take M.out M.queue)) = M.queue.take M.out := rfl
  generalize List.drop 0 (List.take M.out t.xs) = ys at hys ⊢
  generalize List.drop 0 (List.take M.out M.queue) = hs at hhs ⊢
  have hsl : hs.length = M.out := by rw [hhs, List.length_take]; omega
  have ysl : ys.length = M.out := by rw [hys, List.length_take]; omega
  refine CallG.use (clone_ints (⟨q, r.qc - 0, hs⟩ : Sl Int) (by dsimp only; omega)) ?_
  rintro r M ⟨a, c, rfl, rfl⟩
  dsimp only [lcA, lnA]
  repeat' first | refine adv ?_ | refine Side.go ?_ | refine Giv.mk fun _ => ?_ | refine All.mk fun q => ?_ | refine Fork.mk ?_ ?_ | (refine Two.mk (fun h => ?_) (fun h => ?_) <;> try first | contradiction | (exfalso; omega))
  refine Sy_loop (ι := {st : Nat × List (Int × TrP) // st.1 ≤ M.out ∧ tv st.2 = (M.doneK code st.1).all})
    (fun st => [(35, .int .i64 st.1.1), (34, .int .i64 hs.length), (33, .slice a hs.length c), (5, .slice qt ys.length (t.c - 0)), (0, .pointer (some ⟨m, 0, none⟩)), (1, .int .i64 code)])
    (fun st => ownS (⟨a, c, hs⟩ : Sl Int) :: roS (⟨qt, t.c - 0, ys⟩ : Sl TxR) :: roS (⟨r.qa, r.qc, M.queue⟩ : Sl Int) ::
      cells true m 0 [.pointer (some ⟨r.em, 0, none⟩), .pointer (some ⟨r.bk, 0, none⟩), .map (some r.rm), .slice r.qa M.queue.length r.qc, .int .i64 M.out, .int .i64 M.num, .int .i64 M.base, .int .i64 (M.doneK code st.1.1).last, .int .i64 M.given, .bool M.ro] ::
      emO r.em (M.doneK code st.1.1).E :: bkO r.bk (M.doneK code st.1.1).K :: mapO r.rm (vmap trV st.1.2) :: bigS (trF r.em) st.1.2 :: F)
    (fun st => M.out - st.1.1) ⟨(0, r.ts), Nat.zero_le _, hr⟩ (evs rfl (evs rfl (evs rfl (evs rfl (evs rfl (evs rfl .nil)))))) (fun w h => by dsimp only [Mg.doneK]; exact goes w h) ?_
  rintro ⟨⟨k, ts⟩, hk1, hts⟩ env
  dsimp only [upds] at hk1 hts ⊢
  by_cases hk2 : k < M.out
  · have hhk : hs[k]'(by omega) = M.queue[k]?.getD 0 := by
      simp only [hhs, List.getElem_take, List.getElem?_eq_getElem (show k < M.queue.length from by omega), Option.getD_some]
    have hyk : (ys[k]'(by omega)).v = M.waits[k]?.getD (0, []) := by
      rw [← ht]
      simp only [hys, List.getElem_take, List.getElem?_map, List.getElem?_eq_getElem (show k < t.xs.length from by omega), Option.map_some, Option.getD_some]
    obtain ⟨T, hT⟩ := hk k hk2
    rw [← hts, vget_tv] at hT
    obtain ⟨⟨x, T'⟩, hg, rfl⟩ := Option.map_eq_some_iff.1 hT
    dsimp only at hT
    have hsk : k < hs.length := by omega
    have ysk : k < ys.length := by omega
    repeat' first | refine adv ?_ | refine Side.go ?_ | refine Giv.mk fun _ => ?_ | refine All.mk fun q => ?_ | refine Fork.mk ?_ ?_ | (refine Two.mk (fun h => ?_) (fun h => ?_) <;> try first | contradiction | (exfalso; omega))
    · have hTk : vget (M.doneK code k).all (M.queue[k]?.getD 0) = some T' := by rw [← hts, vget_tv, hg]; rfl
      have e1 : M.doneK code (k + 1) = { M.doneK code k with all := vset (M.doneK code k).all (M.queue[k]?.getD 0) (T'.ended 4 code), K := { (M.doneK code k).K with ts := verase (M.doneK code k).K.ts (M.queue[k]?.getD 0) } } := by
        rw [Mg.doneK, Mg.done1, if_pos (by assumption), end_some hTk]
      rw [← hhk] at hg e1
      refine CallG.use (tx_end_r m r.em r.bk r.rm (.slice r.qa M.queue.length r.qc) (.int .i64 M.out) (.int .i64 M.num) (.int .i64 M.base) (.int .i64 (M.doneK code k).last) (.int .i64 M.given) (.bool M.ro) (M.doneK code k).K ts hs[k] 4 code x T' hg) ?_
      rintro r M ⟨rfl, rfl⟩
      dsimp only [lcA, lnA]
      repeat' first | refine adv ?_ | refine Side.go ?_ | refine Giv.mk fun _ => ?_ | refine All.mk fun q => ?_ | refine Fork.mk ?_ ?_ | (refine Two.mk (fun h => ?_) (fun h => ?_) <;> try first | contradiction | (exfalso; omega))
      refine loopQ.next ⟨(k + 1, vset ts hs[k] (x, T'.ended 4 code)), by dsimp only; omega, ?_⟩ (by simp only []; omega) (evs rfl (evs rfl (evs rfl (evs rfl (evs rfl (evs rfl .nil)))))) (fun w h => ?_)
      · dsimp only
        rw [tv_set, hts, e1]
      · dsimp only
        rw [e1]
        exact goes w h
    · have hc0 : code = 0 := by omega
      subst hc0
      have hTk : vget (M.doneK 0 k).all (M.queue[k]?.getD 0) = some T' := by rw [← hts, vget_tv, hg]; rfl
      have e1 : M.doneK 0 (k + 1) = { M.doneK 0 k with all := vset (M.doneK 0 k).all (M.queue[k]?.getD 0) (T'.ended 3 0), E := ((M.doneK 0 k).E.apply ys[k].time (ys[k].ps.xs.map PutR.v)).2, last := ys[k].time, K := { (M.doneK 0 k).K with ts := verase (M.doneK 0 k).K.ts (M.queue[k]?.getD 0) } } := by
        rw [Mg.doneK, Mg.done1, if_neg (by omega), ← hyk]
        exact end_some (M := { M.doneK 0 k with E := ((M.doneK 0 k).E.apply ys[k].time (ys[k].ps.xs.map PutR.v)).2, last := ys[k].time }) hTk
      rw [← hhk] at hg e1
      have hpn : ys[k].ps.xs.length ≤ 1000000 := by
        have h1 := hwp (M.waits[k]?.getD (0, [])) (by
          have h2 : k < M.waits.length := by omega
          rw [List.getElem?_eq_getElem h2]
          exact List.getElem_mem h2)
        rw [← hyk] at h1
        simpa [TxR.v] using h1
      refine CallG.pull (fun B => pull_tx (⟨qt, t.c - 0, ys⟩ : Sl TxR) ysk) ?_
      refine CallG.use (ext_apply r.em (M.doneK 0 k).E ys[k].time ys[k].ps (hE k hk2) hpn) ?_
      rintro r M ⟨rfl, rfl⟩
      dsimp only [lcA, lnA]
      repeat' first | refine adv ?_ | refine Side.go ?_ | refine Giv.mk fun _ => ?_ | refine All.mk fun q => ?_ | refine Fork.mk ?_ ?_ | (refine Two.mk (fun h => ?_) (fun h => ?_) <;> try first | contradiction | (exfalso; omega))
      refine CallG.use (tx_end_r m r.em r.bk r.rm (.slice r.qa M.queue.length r.qc) (.int .i64 M.out) (.int .i64 M.num) (.int .i64 M.base) (.int .i64 ys[k].time) (.int .i64 M.given) (.bool M.ro) (M.doneK 0 k).K ts hs[k] 3 0 x T' hg) ?_
      rintro r M ⟨rfl, rfl⟩
      dsimp only [lcA, lnA]
      repeat' first | refine adv ?_ | refine Side.go ?_ | refine Giv.mk fun _ => ?_ | refine All.mk fun q => ?_ | refine Fork.mk ?_ ?_ | (refine Two.mk (fun h => ?_) (fun h => ?_) <;> try first | contradiction | (exfalso; omega))
      refine loopQ.next ⟨(k + 1, vset ts hs[k] (x, T'.ended 3 0)), by dsimp only; omega, ?_⟩ (by simp only []; omega) (evs rfl (evs rfl (evs rfl (evs rfl (evs rfl (evs rfl .nil)))))) (fun w h => ?_)
      · dsimp only
        rw [tv_set, hts, e1]
      · dsimp only
        rw [e1]
        exact goes w h
  · have hk3 : k = M.out := by omega
    subst hk3
    obtain ⟨hr1, hr2, hr3, hr4, hr5, hr6⟩ := doneK_rest M code M.out
    repeat' first | refine adv ?_ | refine Side.go ?_ | refine Giv.mk fun _ => ?_ | refine All.mk fun q => ?_ | refine Fork.mk ?_ ?_ | (refine Two.mk (fun h => ?_) (fun h => ?_) <;> try first | contradiction | (exfalso; omega))
    · dsimp only
      have hzs : List.drop M.out (List.take M.queue.length M.queue) = M.queue.drop M.out := by rw [List.take_length]
      rw [hzs]
      refine CallG.use (clone_ints (⟨q, r.qc - M.out, M.queue.drop M.out⟩ : Sl Int) (by dsimp only; rw [List.length_drop]; omega)) ?_
      rintro r M ⟨a2, c2, rfl, rfl⟩
      dsimp only [lcA, lnA]
      repeat' first | refine adv ?_ | refine Side.go ?_ | refine Giv.mk fun _ => ?_ | refine All.mk fun q => ?_ | refine Fork.mk ?_ ?_ | (refine Two.mk (fun h => ?_) (fun h => ?_) <;> try first | contradiction | (exfalso; omega))
      have e : M.done code = (0, { M.doneK code M.out with num := M.num + 1, queue := M.queue.drop M.out, out := 0 }) := by rw [Mg.done, if_neg (by omega), if_pos h]
      rw [e]
      refine endQ.oneW Tryz.results56 ⟨rfl, rfl⟩ (fun w s => mgO_close { M.doneK code M.out with num := M.num + 1, queue := M.queue.drop M.out, out := 0 } { r with qa := a2, qc := c2, ts := ts } hts ?_)
      dsimp only
      rw [hr4, hr5, hr6, show ((M.num + 1 : Nat) : Int) = (M.num : Int) + 1 from by omega, show ((0 : Nat) : Int) = 0 from rfl]
      exact goes w s
    · dsimp only
      have hzs : List.drop M.out (List.take M.queue.length M.queue) = M.queue.drop M.out := by rw [List.take_length]
      rw [hzs]
      refine CallG.use (clone_ints (⟨q, r.qc - M.out, M.queue.drop M.out⟩ : Sl Int) (by dsimp only; rw [List.length_drop]; omega)) ?_
      rintro r M ⟨a2, c2, rfl, rfl⟩
      dsimp only [lcA, lnA]
      repeat' first | refine adv ?_ | refine Side.go ?_ | refine Giv.mk fun _ => ?_ | refine All.mk fun q => ?_ | refine Fork.mk ?_ ?_ | (refine Two.mk (fun h => ?_) (fun h => ?_) <;> try first | contradiction | (exfalso; omega))
      have e : M.done code = (0, { M.doneK code M.out with num := M.num, queue := M.queue.drop M.out, out := 0 }) := by rw [Mg.done, if_neg (by omega), if_neg h]
      rw [e]
      refine endQ.oneW Tryz.results56 ⟨rfl, rfl⟩ (fun w s => mgO_close { M.doneK code M.out with num := M.num, queue := M.queue.drop M.out, out := 0 } { r with qa := a2, qc := c2, ts := ts } hts ?_)
      dsimp only
      rw [hr4, hr5, hr6, show ((0 : Nat) : Int) = 0 from rfl]
      exact goes w s
end Go.SL
namespace Go.SL
open Go.Proofs
set_option synthInstance.maxSize 4000
set_option synthInstance.maxHeartbeats 400000
set_option maxRecDepth 4000
set_option maxHeartbeats 2000000

/-- A store as it lies in memory. -/
@[reducible] def stC (p d Z : Nat) (mv sv : Value) (pos num : Nat) (off : Bool) : HProp :=
  cells true p 0 [.pointer (some ⟨d, 0, none⟩), .int .i64 0, .int .i64 (midOf Z), .int .i64 ((2 * midOf Z : Nat) : Int), .int .i64 ((Z : Int) - 1), mv, sv, .int .i64 pos, .int .i64 num, .bool off]
theorem st_dead (p d Z : Nat) (mv sv : Value) (pos num : Nat) (off : Bool) : Spec Tryz.prog 35 #[.pointer (some ⟨p, 0, none⟩)] [stC p d Z mv sv pos num off] (fun v L => v = .bool off ∧ L = [stC p d Z mv sv pos num off]) := by
  refine enter1 Tryz.func35 rfl (by decide) (by decide) ?_
  intro B F
  dsimp only [lcA, lnA]
  dsimp only [stC]
  repeat' first | refine adv ?_ | refine Side.go ?_ | refine Giv.mk fun _ => ?_ | refine All.mk fun q => ?_ | refine Fork.mk ?_ ?_ | (refine Two.mk (fun h => ?_) (fun h => ?_) <;> try first | contradiction | (exfalso; omega))
  exact endQ.one Tryz.results35 ⟨rfl, rfl⟩
theorem st_dead_nil : Spec Tryz.prog 35 #[.pointer none] [] (fun v L => v = .bool true ∧ L = []) := by
  refine enter1 Tryz.func35 rfl (by decide) (by decide) ?_
  intro B F
  dsimp only [lcA, lnA]
  repeat' first | refine adv ?_ | refine Side.go ?_ | refine Giv.mk fun _ => ?_ | refine All.mk fun q => ?_ | refine Fork.mk ?_ ?_ | (refine Two.mk (fun h => ?_) (fun h => ?_) <;> try first | contradiction | (exfalso; omega))
  exact endQ.one Tryz.results35 ⟨rfl, rfl⟩
theorem st_manager (p d Z m : Nat) (sv : Value) (pos num : Nat) (off : Bool) : Spec Tryz.prog 66 #[.pointer (some ⟨p, 0, none⟩)] [stC p d Z (.pointer (some ⟨m, 0, none⟩)) sv pos num off]
    (fun v L => v = .pointer (some ⟨m, 0, none⟩) ∧ L = [stC p d Z (.pointer (some ⟨m, 0, none⟩)) sv pos num off]) := by
  refine enter1 Tryz.func66 rfl (by decide) (by decide) ?_
  intro B F
  dsimp only [lcA, lnA]
  dsimp only [stC]
  repeat' first | refine adv ?_ | refine Side.go ?_ | refine Giv.mk fun _ => ?_ | refine All.mk fun q => ?_ | refine Fork.mk ?_ ?_ | (refine Two.mk (fun h => ?_) (fun h => ?_) <;> try first | contradiction | (exfalso; omega))
  exact endQ.one Tryz.results66 ⟨rfl, rfl⟩
theorem st_manager_nil : Spec Tryz.prog 66 #[.pointer none] [] (fun v L => v = .pointer none ∧ L = []) := by
  refine enter1 Tryz.func66 rfl (by decide) (by decide) ?_
  intro B F
  dsimp only [lcA, lnA]
  repeat' first | refine adv ?_ | refine Side.go ?_ | refine Giv.mk fun _ => ?_ | refine All.mk fun q => ?_ | refine Fork.mk ?_ ?_ | (refine Two.mk (fun h => ?_) (fun h => ?_) <;> try first | contradiction | (exfalso; omega))
  exact endQ.one Tryz.results66 ⟨rfl, rfl⟩
theorem st_blocks (p d : Nat) (D : Dv) (mv sv : Value) (pos num : Nat) (off : Bool) (ok : D.ok) : Spec Tryz.prog 17 #[.pointer (some ⟨p, 0, none⟩)] [stC p d D.Z mv sv pos num off, devO d D]
    (fun v L => v = .int .i64 (capOf D.Z D.S) ∧ L = [stC p d D.Z mv sv pos num off, devO d D]) := by
  refine enter1 Tryz.func17 rfl (by decide) (by decide) ?_
  intro B F
  dsimp only [lcA, lnA]
  dsimp only [stC]
  repeat' first | refine adv ?_ | refine Side.go ?_ | refine Giv.mk fun _ => ?_ | refine All.mk fun q => ?_ | refine Fork.mk ?_ ?_ | (refine Two.mk (fun h => ?_) (fun h => ?_) <;> try first | contradiction | (exfalso; omega))
  refine CallG.use (dev_geometry d D ok) ?_
  rintro r M ⟨rfl, rfl⟩
  dsimp only [lcA, lnA]
  repeat' first | refine adv ?_ | refine Side.go ?_ | refine Giv.mk fun _ => ?_ | refine All.mk fun q => ?_ | refine Fork.mk ?_ ?_ | (refine Two.mk (fun h => ?_) (fun h => ?_) <;> try first | contradiction | (exfalso; omega))
  refine CallG.use (space_capacity D.Z D.S ⟨⟨by have := ok.z0; omega, by have := ok.z1; omega⟩, by have := ok.s0; omega, by have := ok.s1; omega⟩) ?_
  rintro r M ⟨rfl, rfl⟩
  dsimp only [lcA, lnA]
  repeat' first | refine adv ?_ | refine Side.go ?_ | refine Giv.mk fun _ => ?_ | refine All.mk fun q => ?_ | refine Fork.mk ?_ ?_ | (refine Two.mk (fun h => ?_) (fun h => ?_) <;> try first | contradiction | (exfalso; omega))
  exact endQ.oneW Tryz.results17 ⟨rfl, rfl⟩ (fun w h => goes w h)
theorem st_blocks_nil : Spec Tryz.prog 17 #[.pointer none] [] (fun v L => v = .int .i64 0 ∧ L = []) := by
  refine enter1 Tryz.func17 rfl (by decide) (by decide) ?_
  intro B F
  dsimp only [lcA, lnA]
  repeat' first | refine adv ?_ | refine Side.go ?_ | refine Giv.mk fun _ => ?_ | refine All.mk fun q => ?_ | refine Fork.mk ?_ ?_ | (refine Two.mk (fun h => ?_) (fun h => ?_) <;> try first | contradiction | (exfalso; omega))
  exact endQ.one Tryz.results17 ⟨rfl, rfl⟩
theorem st_last (p d Z m : Nat) (M : Mg) (sv : Value) (pos num : Nat) (off : Bool) : Spec Tryz.prog 26 #[.pointer (some ⟨p, 0, none⟩)] [stC p d Z (.pointer (some ⟨m, 0, none⟩)) sv pos num off, mgO m M]
    (fun v L => v = .int .i64 M.last ∧ L = [stC p d Z (.pointer (some ⟨m, 0, none⟩)) sv pos num off, mgO m M]) := by
  refine enter1 Tryz.func26 rfl (by decide) (by decide) ?_
  intro B F
  dsimp only [lcA, lnA]
  dsimp only [stC]
  repeat' first | refine adv ?_ | refine Side.go ?_ | refine Giv.mk fun _ => ?_ | refine All.mk fun q => ?_ | refine Fork.mk ?_ ?_ | (refine Two.mk (fun h => ?_) (fun h => ?_) <;> try first | contradiction | (exfalso; omega))
  refine CallG.use (st_manager p d Z m sv pos num off) ?_
  rintro r M ⟨rfl, rfl⟩
  dsimp only [lcA, lnA]
  dsimp only [stC]
  repeat' first | refine adv ?_ | refine Side.go ?_ | refine Giv.mk fun _ => ?_ | refine All.mk fun q => ?_ | refine Fork.mk ?_ ?_ | (refine Two.mk (fun h => ?_) (fun h => ?_) <;> try first | contradiction | (exfalso; omega))
  refine CallG.use (tx_last m M) ?_
  rintro r M ⟨rfl, rfl⟩
  dsimp only [lcA, lnA]
  repeat' first | refine adv ?_ | refine Side.go ?_ | refine Giv.mk fun _ => ?_ | refine All.mk fun q => ?_ | refine Fork.mk ?_ ?_ | (refine Two.mk (fun h => ?_) (fun h => ?_) <;> try first | contradiction | (exfalso; omega))
  exact endQ.oneW Tryz.results26 ⟨rfl, rfl⟩ (fun w h => goes w h)
theorem st_dump (p d Z m : Nat) (M : Mg) (sv : Value) (pos num : Nat) (off : Bool) (hk : ∀ e ∈ M.E.vs, I64 e.1 ∧ 0 < e.2.length ∧ e.2.length ≤ 2000000) (hl : M.E.vs.length ≤ 1000000) :
    Spec Tryz.prog 27 #[.pointer (some ⟨p, 0, none⟩)] [stC p d Z (.pointer (some ⟨m, 0, none⟩)) sv pos num off, mgO m M]
    (fun v L => ∃ t : Sl PutR, t.xs.map PutR.v = M.E.dump ∧ v = t.val ∧ L = [stC p d Z (.pointer (some ⟨m, 0, none⟩)) sv pos num off, mgO m M, ownS t]) := by
  refine enter1 Tryz.func27 rfl (by decide) (by decide) ?_
  intro B F
  dsimp only [lcA, lnA]
  dsimp only [stC]
  repeat' first | refine adv ?_ | refine Side.go ?_ | refine Giv.mk fun _ => ?_ | refine All.mk fun q => ?_ | refine Fork.mk ?_ ?_ | (refine Two.mk (fun h => ?_) (fun h => ?_) <;> try first | contradiction | (exfalso; omega))
  refine CallG.use (st_manager p d Z m sv pos num off) ?_
  rintro r M ⟨rfl, rfl⟩
  dsimp only [lcA, lnA]
  dsimp only [stC]
  repeat' first | refine adv ?_ | refine Side.go ?_ | refine Giv.mk fun _ => ?_ | refine All.mk fun q => ?_ | refine Fork.mk ?_ ?_ | (refine Two.mk (fun h => ?_) (fun h => ?_) <;> try first | contradiction | (exfalso; omega))
  refine CallG.use (tx_dump m M hk hl) ?_
  rintro r M ⟨t, ht, rfl, rfl⟩
  dsimp only [lcA, lnA]
  repeat' first | refine adv ?_ | refine Side.go ?_ | refine Giv.mk fun _ => ?_ | refine All.mk fun q => ?_ | refine Fork.mk ?_ ?_ | (refine Two.mk (fun h => ?_) (fun h => ?_) <;> try first | contradiction | (exfalso; omega))
  exact endQ.oneW Tryz.results27 ⟨t, ht, rfl, rfl⟩ (fun w h => goes w h)
theorem st_dump_nil : Spec Tryz.prog 27 #[.pointer none] [] (fun v L => v = .slice none 0 0 ∧ L = []) := by
  refine enter1 Tryz.func27 rfl (by decide) (by decide) ?_
  intro B F
  dsimp only [lcA, lnA]
  repeat' first | refine adv ?_ | refine Side.go ?_ | refine Giv.mk fun _ => ?_ | refine All.mk fun q => ?_ | refine Fork.mk ?_ ?_ | (refine Two.mk (fun h => ?_) (fun h => ?_) <;> try first | contradiction | (exfalso; omega))
  refine CallG.use st_manager_nil ?_
  rintro r M ⟨rfl, rfl⟩
  dsimp only [lcA, lnA]
  repeat' first | refine adv ?_ | refine Side.go ?_ | refine Giv.mk fun _ => ?_ | refine All.mk fun q => ?_ | refine Fork.mk ?_ ?_ | (refine Two.mk (fun h => ?_) (fun h => ?_) <;> try first | contradiction | (exfalso; omega))
  refine CallG.use tx_dump_nil ?_
  rintro r M ⟨rfl, rfl⟩
  dsimp only [lcA, lnA]
  repeat' first | refine adv ?_ | refine Side.go ?_ | refine Giv.mk fun _ => ?_ | refine All.mk fun q => ?_ | refine Fork.mk ?_ ?_ | (refine Two.mk (fun h => ?_) (fun h => ?_) <;> try first | contradiction | (exfalso; omega))
  exact endQ.one Tryz.results27 ⟨rfl, rfl⟩
theorem st_result_nil (h : Int) : Spec Tryz.prog 28 #[.pointer none, .int .i64 h] [] (fun v L => v = .tuple #[.int .i64 0, .int .i64 0, .int .i64 0] ∧ L = []) := by
  refine enter2 Tryz.func28 rfl (by decide) (by decide) ?_
  intro B F
  dsimp only [lcA, lnA]
  repeat' first | refine adv ?_ | refine Side.go ?_ | refine Giv.mk fun _ => ?_ | refine All.mk fun q => ?_ | refine Fork.mk ?_ ?_ | (refine Two.mk (fun h => ?_) (fun h => ?_) <;> try first | contradiction | (exfalso; omega))
  refine CallG.use st_manager_nil ?_
  rintro r M ⟨rfl, rfl⟩
  dsimp only [lcA, lnA]
  repeat' first | refine adv ?_ | refine Side.go ?_ | refine Giv.mk fun _ => ?_ | refine All.mk fun q => ?_ | refine Fork.mk ?_ ?_ | (refine Two.mk (fun h => ?_) (fun h => ?_) <;> try first | contradiction | (exfalso; omega))
  refine CallG.use (tx_result_nil h) ?_
  rintro r M ⟨rfl, rfl⟩
  dsimp only [lcA, lnA]
  repeat' first | refine adv ?_ | refine Side.go ?_ | refine Giv.mk fun _ => ?_ | refine All.mk fun q => ?_ | refine Fork.mk ?_ ?_ | (refine Two.mk (fun h => ?_) (fun h => ?_) <;> try first | contradiction | (exfalso; omega))
  exact endQ.three Tryz.results28 ⟨rfl, rfl⟩
theorem st_begin_nil : Spec Tryz.prog 16 #[.pointer none] [] (fun v L => v = .tuple #[.int .i64 0, .int .i64 12] ∧ L = []) := by
  refine enter1 Tryz.func16 rfl (by decide) (by decide) ?_
  intro B F
  dsimp only [lcA, lnA]
  repeat' first | refine adv ?_ | refine Side.go ?_ | refine Giv.mk fun _ => ?_ | refine All.mk fun q => ?_ | refine Fork.mk ?_ ?_ | (refine Two.mk (fun h => ?_) (fun h => ?_) <;> try first | contradiction | (exfalso; omega))
  refine CallG.use st_dead_nil ?_
  rintro r M ⟨rfl, rfl⟩
  dsimp only [lcA, lnA]
  repeat' first | refine adv ?_ | refine Side.go ?_ | refine Giv.mk fun _ => ?_ | refine All.mk fun q => ?_ | refine Fork.mk ?_ ?_ | (refine Two.mk (fun h => ?_) (fun h => ?_) <;> try first | contradiction | (exfalso; omega))
  exact endQ.two Tryz.results16 ⟨rfl, rfl⟩
theorem st_commit_nil (h : Int) : Spec Tryz.prog 20 #[.pointer none, .int .i64 h] [] (fun v L => v = .int .i64 12 ∧ L = []) := by
  refine enter2 Tryz.func20 rfl (by decide) (by decide) ?_
  intro B F
  dsimp only [lcA, lnA]
  repeat' first | refine adv ?_ | refine Side.go ?_ | refine Giv.mk fun _ => ?_ | refine All.mk fun q => ?_ | refine Fork.mk ?_ ?_ | (refine Two.mk (fun h => ?_) (fun h => ?_) <;> try first | contradiction | (exfalso; omega))
  refine CallG.use st_dead_nil ?_
  rintro r M ⟨rfl, rfl⟩
  dsimp only [lcA, lnA]
  repeat' first | refine adv ?_ | refine Side.go ?_ | refine Giv.mk fun _ => ?_ | refine All.mk fun q => ?_ | refine Fork.mk ?_ ?_ | (refine Two.mk (fun h => ?_) (fun h => ?_) <;> try first | contradiction | (exfalso; omega))
  exact endQ.one Tryz.results20 ⟨rfl, rfl⟩
theorem st_flush_nil : Spec Tryz.prog 21 #[.pointer none] [] (fun v L => v = .int .i64 12 ∧ L = []) := by
  refine enter1 Tryz.func21 rfl (by decide) (by decide) ?_
  intro B F
  dsimp only [lcA, lnA]
  repeat' first | refine adv ?_ | refine Side.go ?_ | refine Giv.mk fun _ => ?_ | refine All.mk fun q => ?_ | refine Fork.mk ?_ ?_ | (refine Two.mk (fun h => ?_) (fun h => ?_) <;> try first | contradiction | (exfalso; omega))
  refine CallG.use st_dead_nil ?_
  rintro r M ⟨rfl, rfl⟩
  dsimp only [lcA, lnA]
  repeat' first | refine adv ?_ | refine Side.go ?_ | refine Giv.mk fun _ => ?_ | refine All.mk fun q => ?_ | refine Fork.mk ?_ ?_ | (refine Two.mk (fun h => ?_) (fun h => ?_) <;> try first | contradiction | (exfalso; omega))
  exact endQ.one Tryz.results21 ⟨rfl, rfl⟩
theorem st_checkpoint_nil : Spec Tryz.prog 22 #[.pointer none] [] (fun v L => v = .int .i64 12 ∧ L = []) := by
  refine enter1 Tryz.func22 rfl (by decide) (by decide) ?_
  intro B F
  dsimp only [lcA, lnA]
  repeat' first | refine adv ?_ | refine Side.go ?_ | refine Giv.mk fun _ => ?_ | refine All.mk fun q => ?_ | refine Fork.mk ?_ ?_ | (refine Two.mk (fun h => ?_) (fun h => ?_) <;> try first | contradiction | (exfalso; omega))
  refine CallG.use st_dead_nil ?_
  rintro r M ⟨rfl, rfl⟩
  dsimp only [lcA, lnA]
  repeat' first | refine adv ?_ | refine Side.go ?_ | refine Giv.mk fun _ => ?_ | refine All.mk fun q => ?_ | refine Fork.mk ?_ ?_ | (refine Two.mk (fun h => ?_) (fun h => ?_) <;> try first | contradiction | (exfalso; omega))
  exact endQ.one Tryz.results22 ⟨rfl, rfl⟩
theorem st_clean_nil : Spec Tryz.prog 34 #[.pointer none] [] (fun v L => v = .int .i64 0 ∧ L = []) := by
  refine enter1 Tryz.func34 rfl (by decide) (by decide) ?_
  intro B F
  dsimp only [lcA, lnA]
  repeat' first | refine adv ?_ | refine Side.go ?_ | refine Giv.mk fun _ => ?_ | refine All.mk fun q => ?_ | refine Fork.mk ?_ ?_ | (refine Two.mk (fun h => ?_) (fun h => ?_) <;> try first | contradiction | (exfalso; omega))
  refine CallG.use st_dead_nil ?_
  rintro r M ⟨rfl, rfl⟩
  dsimp only [lcA, lnA]
  repeat' first | refine adv ?_ | refine Side.go ?_ | refine Giv.mk fun _ => ?_ | refine All.mk fun q => ?_ | refine Fork.mk ?_ ?_ | (refine Two.mk (fun h => ?_) (fun h => ?_) <;> try first | contradiction | (exfalso; omega))
  exact endQ.one Tryz.results34 ⟨rfl, rfl⟩
theorem st_begin (p d Z m : Nat) (M : Mg) (sv : Value) (pos num : Nat) (hb : 1 ≤ M.E.blocks ∧ M.E.blocks ≤ 1048576) (hi : ∀ e ∈ M.K.ts, I64 e.1) (hl : M.K.ts.length ≤ 1000000) (hla : M.K.last ≤ 1000000000) :
    Spec Tryz.prog 16 #[.pointer (some ⟨p, 0, none⟩)] [stC p d Z (.pointer (some ⟨m, 0, none⟩)) sv pos num false, mgO m M]
    (fun v L => v = .tuple #[.int .i64 M.begin.1, .int .i64 M.begin.2.1] ∧ L = [stC p d Z (.pointer (some ⟨m, 0, none⟩)) sv pos num false, mgO m M.begin.2.2]) := by
  refine enter1 Tryz.func16 rfl (by decide) (by decide) ?_
  intro B F
  dsimp only [lcA, lnA]
  dsimp only [stC]
  repeat' first | refine adv ?_ | refine Side.go ?_ | refine Giv.mk fun _ => ?_ | refine All.mk fun q => ?_ | refine Fork.mk ?_ ?_ | (refine Two.mk (fun h => ?_) (fun h => ?_) <;> try first | contradiction | (exfalso; omega))
  refine CallG.use (st_dead p d Z (.pointer (some ⟨m, 0, none⟩)) sv pos num false) ?_
  rintro r M ⟨rfl, rfl⟩
  dsimp only [lcA, lnA]
  dsimp only [stC]
  repeat' first | refine adv ?_ | refine Side.go ?_ | refine Giv.mk fun _ => ?_ | refine All.mk fun q => ?_ | refine Fork.mk ?_ ?_ | (refine Two.mk (fun h => ?_) (fun h => ?_) <;> try first | contradiction | (exfalso; omega))
  refine CallG.use (tx_begin m M hb hi hl hla) ?_
  rintro r M ⟨rfl, rfl⟩
  dsimp only [lcA, lnA]
  repeat' first | refine adv ?_ | refine Side.go ?_ | refine Giv.mk fun _ => ?_ | refine All.mk fun q => ?_ | refine Fork.mk ?_ ?_ | (refine Two.mk (fun h => ?_) (fun h => ?_) <;> try first | contradiction | (exfalso; omega))
  exact endQ.twoW Tryz.results16 ⟨rfl, rfl⟩ (fun w h => goes w h)
theorem st_write (p d Z m : Nat) (M : Mg) (sv : Value) (pos num : Nat) (h : Int) (ps : Sl PutR) (hi : ∀ x ∈ ps.xs, I64 x.lba) (hW : ∀ e ∈ M.all, e.2.W.vs.length ≤ 1000000) :
    Spec Tryz.prog 19 #[.pointer (some ⟨p, 0, none⟩), .int .i64 h, ps.val] [stC p d Z (.pointer (some ⟨m, 0, none⟩)) sv pos num false, mgO m M, roS ps]
    (fun v L => v = .int .i64 (M.write h (ps.xs.map PutR.v)).1 ∧ L = [stC p d Z (.pointer (some ⟨m, 0, none⟩)) sv pos num false, mgO m (M.write h (ps.xs.map PutR.v)).2]) := by
  refine enter3 Tryz.func19 rfl (by decide) (by decide) ?_
  intro B F
  dsimp only [lcA, lnA]
  dsimp only [stC]
  repeat' first | refine adv ?_ | refine Side.go ?_ | refine Giv.mk fun _ => ?_ | refine All.mk fun q => ?_ | refine Fork.mk ?_ ?_ | (refine Two.mk (fun h => ?_) (fun h => ?_) <;> try first | contradiction | (exfalso; omega))
  refine CallG.use (st_dead p d Z (.pointer (some ⟨m, 0, none⟩)) sv pos num false) ?_
  rintro r M ⟨rfl, rfl⟩
  dsimp only [lcA, lnA]
  dsimp only [stC]
  repeat' first | refine adv ?_ | refine Side.go ?_ | refine Giv.mk fun _ => ?_ | refine All.mk fun q => ?_ | refine Fork.mk ?_ ?_ | (refine Two.mk (fun h => ?_) (fun h => ?_) <;> try first | contradiction | (exfalso; omega))
  refine CallG.use (tx_write m M h ps hi hW) ?_
  rintro r M ⟨rfl, rfl⟩
  dsimp only [lcA, lnA]
  repeat' first | refine adv ?_ | refine Side.go ?_ | refine Giv.mk fun _ => ?_ | refine All.mk fun q => ?_ | refine Fork.mk ?_ ?_ | (refine Two.mk (fun h => ?_) (fun h => ?_) <;> try first | contradiction | (exfalso; omega))
  exact endQ.oneW Tryz.results19 ⟨rfl, rfl⟩ (fun w h => goes w h)
theorem st_commit1 (p d Z m : Nat) (M : Mg) (sv : Value) (pos num : Nat) (h : Int) (T : Tr) (k : Int) (b : List UInt8) (hT : vget M.all h = some T) (hst : T.st = 1) (hq : M.queue = []) (hS : T.S.l = []) (hW : T.W.vs = [(k, b)]) (hk : 0 ≤ k ∧ k ≤ 1048575)
    (hE : ∀ e ∈ M.E.vs, I64 e.1 ∧ 0 < e.2.length ∧ e.2.length ≤ 2000000) (hall : ∀ e ∈ M.all, e.2.W.vs.length ≤ 1000000 ∧ ∀ x ∈ e.2.W.vs, I64 x.1) (hgv : (0 : Int) ≤ M.given) :
    Spec Tryz.prog 20 #[.pointer (some ⟨p, 0, none⟩), .int .i64 h] [stC p d Z (.pointer (some ⟨m, 0, none⟩)) sv pos num false, mgO m M]
    (fun v L => v = .int .i64 (M.commit1 h T k).1 ∧ L = [stC p d Z (.pointer (some ⟨m, 0, none⟩)) sv pos num false, mgO m (M.commit1 h T k).2]) := by
  refine enter2 Tryz.func20 rfl (by decide) (by decide) ?_
  intro B F
  dsimp only [lcA, lnA]
  dsimp only [stC]
  repeat' first | refine adv ?_ | refine Side.go ?_ | refine Giv.mk fun _ => ?_ | refine All.mk fun q => ?_ | refine Fork.mk ?_ ?_ | (refine Two.mk (fun h => ?_) (fun h => ?_) <;> try first | contradiction | (exfalso; omega))
  refine CallG.use (st_dead p d Z (.pointer (some ⟨m, 0, none⟩)) sv pos num false) ?_
  rintro r M ⟨rfl, rfl⟩
  dsimp only [lcA, lnA]
  dsimp only [stC]
  repeat' first | refine adv ?_ | refine Side.go ?_ | refine Giv.mk fun _ => ?_ | refine All.mk fun q => ?_ | refine Fork.mk ?_ ?_ | (refine Two.mk (fun h => ?_) (fun h => ?_) <;> try first | contradiction | (exfalso; omega))
  refine CallG.use (tx_commit1 m M h T k b hT hst hq hS hW hk hE hall hgv) ?_
  rintro r M ⟨rfl, rfl⟩
  dsimp only [lcA, lnA]
  repeat' first | refine adv ?_ | refine Side.go ?_ | refine Giv.mk fun _ => ?_ | refine All.mk fun q => ?_ | refine Fork.mk ?_ ?_ | (refine Two.mk (fun h => ?_) (fun h => ?_) <;> try first | contradiction | (exfalso; omega))
  exact endQ.oneW Tryz.results20 ⟨rfl, rfl⟩ (fun w h => goes w h)
def strayOf (p : List UInt8) : Bool := decide ((p[0]?.getD 0).toNat ≠ 1 ∧ (p[0]?.getD 0).toNat ≠ 2)
theorem st_strange (s : Sl UInt8) (h : 0 < s.xs.length) : Spec Tryz.prog 43 #[s.val] [roS s] (fun v L => v = .bool (strayOf s.xs) ∧ L = []) := by
  refine enter1 Tryz.func43 rfl (by decide) (by decide) ?_
  intro B F
  dsimp only [lcA, lnA]
  have e0 : (s.xs[0]?.getD 0) = s.xs[0] := by rw [List.getElem?_eq_getElem h]; rfl
  repeat' first | refine adv ?_ | refine Side.go ?_ | refine Giv.mk fun _ => ?_ | refine All.mk fun q => ?_ | refine Fork.mk ?_ ?_ | (refine Two.mk (fun h => ?_) (fun h => ?_) <;> try first | contradiction | (exfalso; omega))
  all_goals refine endQ.one Tryz.results43 ⟨?_, rfl⟩
  all_goals unfold strayOf; rw [e0]
  all_goals first | (congr 1; exact (decide_eq_true (by omega)).symm) | (congr 1; exact (decide_eq_false (by omega)).symm) | (rw [← decide_not]; congr 1; exact decide_eq_decide.2 (by omega))
end Go.SL
namespace Go.SL
open Go.Proofs
set_option synthInstance.maxSize 4000
set_option synthInstance.maxHeartbeats 400000
set_option maxRecDepth 4000
set_option maxHeartbeats 2000000

/-- A field of a value. -/
class FieldV (P : Program) (s : TypeId) (i : Nat) (off : outParam Nat) : Prop where h : ∀ cs w y, cs[off]? = some y → (Instr.field s (.agg cs) i).run P w = .ok y w
theorem FieldV.mk' {P : Program} {s i off : Nat} {fs : Array Field} {f : Field} (h1 : P.underlying s = some (.struct fs)) (h2 : fs[i]? = some f) (ta : TAgg P f.type false) (h4 : f.offset = off) : FieldV P s i off := ⟨fun cs w y hy => by
  simp only [Instr.field, Sem.run_bind, run_underlying_of h1, Result.andThen_ok, h2, asAgg, part, ta.h, Sem.run_pure, h4, hy]
  simp⟩
instance fv23_1 : FieldV Tryz.prog 23 1 1 := FieldV.mk' Tryz.underlying23 rfl ta3 rfl
section
variable {P : Program} {env : Env} {ty : TypeId}
instance cexec_fieldV (s : TypeId) (x : Operand) (i off : Nat) (cs : Array Value) (y : Value) [fv : FieldV P s i off] [ex : EvO env x (.agg cs)] [a : AtA cs off y] : CExec P (.field s x i) ty env True y := ⟨fun dst pos after guard w _ => by
  have hq := fv.h cs w y a.h
  simp only [execOp, ex.h, hq, Sem.run_bind, Result.andThen_ok, Sem.run_pure]⟩
instance ata_1 (a b : Value) : AtA #[a, b] 1 b := ⟨rfl⟩
end

/-- How all blocks were, and when. -/
structure Sta where
  last : Int
  vs : List (Int × List UInt8)
def staO (p : Nat) (S : Sta) : HProp := ex fun r : WbR => star [says (vr r.2 = S.vs), cells true p 0 [.int .i64 S.last, .map (some r.1)], mapO r.1 (vmap Sl.val r.2), bigS roF r.2]
theorem staO_open {B : World} {L : List HProp} {p : Nat} {S : Sta} {w : World} (h : sat B (staO p S :: L) w) : ∃ r : {r : WbR // vr r.2 = S.vs}, sat B (cells true p 0 [.int .i64 S.last, .map (some r.1.1)] :: mapO r.1.1 (vmap Sl.val r.1.2) :: bigS roF r.1.2 :: L) w := by
  obtain ⟨r, hr⟩ := sat_ex.1 h
  obtain ⟨e, h2⟩ := sat_says.1 (sat_star.1 hr)
  exact ⟨⟨r, e⟩, h2⟩
theorem staO_close {B : World} {L : List HProp} {p : Nat} {w : World} (S : Sta) (rm : Nat) (vs : List (Int × Sl UInt8)) (e : vr vs = S.vs)
    (h : sat B (cells true p 0 [.int .i64 S.last, .map (some rm)] :: mapO rm (vmap Sl.val vs) :: bigS roF vs :: L) w) : sat B (staO p S :: L) w :=
  sat_ex.2 ⟨(rm, vs), sat_star.2 (sat_says.2 ⟨e, h⟩)⟩

/-- What stands in zones one behind the other, and what stands behind a gap. -/
def logOf (D : Dv) : Nat → Nat → Bool → List (List UInt8) × List (List UInt8)
  | 0, _, _ => ([], [])
  | n + 1, z, g => ((if g = true then [] else zoneOf D z) ++ (logOf D n (z + 1) (g || decide ((zoneOf D z).length < D.S))).1, (if g = true then zoneOf D z else []) ++ (logOf D n (z + 1) (g || decide ((zoneOf D z).length < D.S))).2)
theorem st_log (p d : Nat) (D : Dv) (mv sv : Value) (pos num : Nat) (off : Bool) (ok : D.ok) :
    Spec Tryz.prog 41 #[.pointer (some ⟨p, 0, none⟩)] [stC p d D.Z mv sv pos num off, devO d D] (fun v L => ∃ t u : Sl (Sl UInt8), raws t.xs = (logOf D (D.Z - 2 * midOf D.Z) (2 * midOf D.Z) false).1 ∧ raws u.xs = (logOf D (D.Z - 2 * midOf D.Z) (2 * midOf D.Z) false).2 ∧
      v = .tuple #[t.val, u.val] ∧ L = [stC p d D.Z mv sv pos num off, devO d { D with reads := D.reads + (t.xs.length : Int) + (u.xs.length : Int) }, ownS t, ownS u]) := by
  have z0 := ok.z0
  have z1 := ok.z1
  have hmid : 2 * midOf D.Z < D.Z := by unfold midOf; omega
  refine enter1 Tryz.func41 rfl (by decide) (by decide) ?_
  intro B F
  dsimp only [lcA, lnA]
  dsimp only [stC]
  repeat' first | refine adv ?_ | refine Side.go ?_ | refine Giv.mk fun _ => ?_ | refine All.mk fun q => ?_ | refine Fork.mk ?_ ?_ | (refine Two.mk (fun h => ?_) (fun h => ?_) <;> try first | contradiction | (exfalso; omega))
  refine CallG.use (dev_geometry d D ok) ?_
  rintro r M ⟨rfl, rfl⟩
  dsimp only [lcA, lnA]
  repeat' first | refine adv ?_ | refine Side.go ?_ | refine Giv.mk fun _ => ?_ | refine All.mk fun q => ?_ | refine Fork.mk ?_ ?_ | (refine Two.mk (fun h => ?_) (fun h => ?_) <;> try first | contradiction | (exfalso; omega))
  have hfull := hmid
  generalize hA : logOf D (D.Z - 2 * midOf D.Z) (2 * midOf D.Z) false = A
  refine Sy_loop (ι := {st : (Nat × Bool) × Sl (Sl UInt8) × Sl (Sl UInt8) // (2 * midOf D.Z ≤ st.1.1 ∧ st.1.1 ≤ D.Z) ∧ raws st.2.1.xs ++ (logOf D (D.Z - st.1.1) st.1.1 st.1.2).1 = A.1 ∧ raws st.2.2.xs ++ (logOf D (D.Z - st.1.1) st.1.1 st.1.2).2 = A.2 ∧ st.2.1.xs.length + st.2.2.xs.length ≤ 192 * st.1.1})
    (fun st => [(6, .int .i64 st.1.1.1), (5, .bool st.1.1.2), (4, .int .i64 D.S), (3, st.1.2.2.val), (2, st.1.2.1.val), (0, .pointer (some ⟨p, 0, none⟩))])
    (fun st => ownS st.1.2.1 :: ownS st.1.2.2 :: stC p d D.Z mv sv pos num off :: devO d { D with reads := D.reads + (st.1.2.1.xs.length : Int) + (st.1.2.2.xs.length : Int) } :: F) (fun st => D.Z - st.1.1.1)
    ⟨((2 * midOf D.Z, false), ⟨none, 0, []⟩, ⟨none, 0, []⟩), ⟨Nat.le_refl _, by dsimp only; omega⟩, by dsimp only; rw [hA]; rfl, by dsimp only; rw [hA]; rfl, by simp⟩ (evs rfl (evs rfl (evs rfl (evs rfl (evs rfl (evs rfl .nil)))))) (fun w h => ?_) ?_
  · have e : ({ D with reads := D.reads + (([] : List (Sl UInt8)).length : Int) + (([] : List (Sl UInt8)).length : Int) } : Dv) = D := by simp
    dsimp only [stC]
    rw [e]
    exact goes w (sat_true (own_nil (α := Sl UInt8)) (sat_true (own_nil (α := Sl UInt8)) h))
  rintro ⟨⟨⟨z, g⟩, t, u⟩, hz, hgo1, hgo2, htl⟩ env
  dsimp only [upds, stC] at hz hgo1 hgo2 htl ⊢
  repeat' first | refine adv ?_ | refine Side.go ?_ | refine Giv.mk fun _ => ?_ | refine All.mk fun q => ?_ | refine Fork.mk ?_ ?_ | (refine Two.mk (fun h => ?_) (fun h => ?_) <;> try first | contradiction | (exfalso; omega))
  · have hzZ : z < D.Z := by omega
    have hp : ({ D with reads := D.reads + (t.xs.length : Int) + (u.xs.length : Int) } : Dv).pointer z = (((zoneOf D z).length : Int), 0) := by unfold Dv.pointer; rw [if_pos (by dsimp only; omega)]; rfl
    have hzo : (zoneOf D z).length ≤ 192 := zoneOf_le ok hzZ
    refine CallG.use (dev_pointer d { D with reads := D.reads + (t.xs.length : Int) + (u.xs.length : Int) } (ok.reads _) z) ?_
    rintro r M ⟨rfl, rfl⟩
    dsimp only [lcA, lnA]
    rw [hp]
    repeat' first | refine adv ?_ | refine Side.go ?_ | refine Giv.mk fun _ => ?_ | refine All.mk fun q => ?_ | refine Fork.mk ?_ ?_ | (refine Two.mk (fun h => ?_) (fun h => ?_) <;> try first | contradiction | (exfalso; omega))
    refine Sy_loop (ι := {st : Nat × Sl (Sl UInt8) × Sl (Sl UInt8) // st.1 ≤ (zoneOf D z).length ∧ raws st.2.1.xs = raws t.xs ++ (if g = true then [] else (zoneOf D z).take st.1) ∧ raws st.2.2.xs = raws u.xs ++ (if g = true then (zoneOf D z).take st.1 else [])})
      (fun st => [(42, .int .i64 st.1.1), (41, .int .i64 (zoneOf D z).length), (7, .int .i64 (zoneOf D z).length), (6, .int .i64 z), (5, .bool g), (4, .int .i64 D.S), (3, st.1.2.2.val), (2, st.1.2.1.val), (0, .pointer (some ⟨p, 0, none⟩))])
      (fun st => ownS st.1.2.1 :: ownS st.1.2.2 :: stC p d D.Z mv sv pos num off :: devO d { D with reads := D.reads + (st.1.2.1.xs.length : Int) + (st.1.2.2.xs.length : Int) } :: F) (fun st => (zoneOf D z).length - st.1.1)
      ⟨(0, t, u), Nat.zero_le _, by simp, by simp⟩ (evs rfl (evs rfl (evs rfl (evs rfl (evs rfl (evs rfl (evs rfl (evs rfl (evs rfl .nil))))))))) (fun w h => goes w h) ?_
    rintro ⟨⟨k, t', u'⟩, hk, ht', hu'⟩ env
    dsimp only [upds, stC] at hk ht' hu' ⊢
    have hsum : t'.xs.length + u'.xs.length = t.xs.length + u.xs.length + k := by
      rw [← raws_len t'.xs, ← raws_len u'.xs, ht', hu', List.length_append, List.length_append, raws_len, raws_len]
      cases g <;> simp <;> omega
    cases g with
    | false =>
      simp only [Bool.false_eq_true, if_false, List.append_nil] at ht' hu'
      by_cases hk2 : k < (zoneOf D z).length
      · repeat' first | refine adv ?_ | refine Side.go ?_ | refine Giv.mk fun _ => ?_ | refine All.mk fun q => ?_ | refine Fork.mk ?_ ?_ | (refine Two.mk (fun h => ?_) (fun h => ?_) <;> try first | contradiction | (exfalso; omega))
        refine CallG.use (dev_read_in d D (D.reads + (t'.xs.length : Int) + (u'.xs.length : Int)) (ok.reads _) z k hzZ hk2) ?_
        rintro v M ⟨a, c, rfl, h64, rfl⟩
        dsimp only [lcA, lnA]
        repeat' first | refine adv ?_ | refine Side.go ?_ | refine Giv.mk fun _ => ?_ | refine All.mk fun q => ?_ | refine Fork.mk ?_ ?_ | (refine Two.mk (fun h => ?_) (fun h => ?_) <;> try first | contradiction | (exfalso; omega))
        refine AppG.oneS t' (⟨a, c, (zoneOf D z)[k]⟩ : Sl UInt8) (by omega) (fun a2 c2 => ?_)
        repeat' first | refine adv ?_ | refine Side.go ?_ | refine Giv.mk fun _ => ?_ | refine All.mk fun q => ?_ | refine Fork.mk ?_ ?_ | (refine Two.mk (fun h => ?_) (fun h => ?_) <;> try first | contradiction | (exfalso; omega))
        refine loopQ.next ⟨(k + 1, ⟨a2, c2, t'.xs ++ [⟨a, c, (zoneOf D z)[k]⟩]⟩, u'), by dsimp only; omega, ?_, ?_⟩ (by simp only []; omega) (evs rfl (evs rfl (evs rfl (evs rfl (evs rfl (evs rfl (evs rfl (evs rfl (evs rfl .nil))))))))) (fun w h => ?_)
        · rw [raws_snoc, ht', List.take_succ_eq_append_getElem hk2, List.append_assoc]; rfl
        · dsimp only; rw [hu']; simp
        · have e : (D.reads + ((t'.xs ++ [(⟨a, c, (zoneOf D z)[k]⟩ : Sl UInt8)]).length : Int) + (u'.xs.length : Int)) = D.reads + (t'.xs.length : Int) + (u'.xs.length : Int) + 1 := by simp; omega
          dsimp only [stC]
          rw [e]
          exact goes w h
      · have hkl : k = (zoneOf D z).length := by omega
        subst hkl
        rw [List.take_length] at ht'
        have e : D.Z - z = (D.Z - (z + 1)) + 1 := by omega
        rw [e, logOf] at hgo1 hgo2
        simp only [Bool.false_eq_true, if_false, List.nil_append] at hgo1 hgo2
        repeat' first | refine adv ?_ | refine Side.go ?_ | refine Giv.mk fun _ => ?_ | refine All.mk fun q => ?_ | refine Fork.mk ?_ ?_ | (refine Two.mk (fun h => ?_) (fun h => ?_) <;> try first | contradiction | (exfalso; omega))
        have hd : decide (((zoneOf D z).length : Int) < (D.S : Int)) = (false || decide ((zoneOf D z).length < D.S)) := by rw [Bool.false_or]; exact decide_eq_decide.2 (by omega)
        refine loopQ.next ⟨((z + 1, decide (((zoneOf D z).length : Int) < (D.S : Int))), t', u'), ⟨by dsimp only; omega, by dsimp only; omega⟩, ?_, ?_, by dsimp only; omega⟩ (by simp only []; omega) (evs rfl (evs rfl (evs rfl (evs rfl (evs rfl (evs rfl .nil)))))) (fun w h => goes w h)
        · dsimp only
          rw [hd, ht', List.append_assoc]; exact hgo1
        · dsimp only
          rw [hd, ‹raws u'.xs = raws u.xs›]; exact hgo2
    | true =>
      simp only [if_true, List.append_nil] at ht' hu'
      by_cases hk2 : k < (zoneOf D z).length
      · repeat' first | refine adv ?_ | refine Side.go ?_ | refine Giv.mk fun _ => ?_ | refine All.mk fun q => ?_ | refine Fork.mk ?_ ?_ | (refine Two.mk (fun h => ?_) (fun h => ?_) <;> try first | contradiction | (exfalso; omega))
        refine CallG.use (dev_read_in d D (D.reads + (t'.xs.length : Int) + (u'.xs.length : Int)) (ok.reads _) z k hzZ hk2) ?_
        rintro v M ⟨a, c, rfl, h64, rfl⟩
        dsimp only [lcA, lnA]
        repeat' first | refine adv ?_ | refine Side.go ?_ | refine Giv.mk fun _ => ?_ | refine All.mk fun q => ?_ | refine Fork.mk ?_ ?_ | (refine Two.mk (fun h => ?_) (fun h => ?_) <;> try first | contradiction | (exfalso; omega))
        refine AppG.oneS u' (⟨a, c, (zoneOf D z)[k]⟩ : Sl UInt8) (by omega) (fun a2 c2 => ?_)
        repeat' first | refine adv ?_ | refine Side.go ?_ | refine Giv.mk fun _ => ?_ | refine All.mk fun q => ?_ | refine Fork.mk ?_ ?_ | (refine Two.mk (fun h => ?_) (fun h => ?_) <;> try first | contradiction | (exfalso; omega))
        refine loopQ.next ⟨(k + 1, t', ⟨a2, c2, u'.xs ++ [⟨a, c, (zoneOf D z)[k]⟩]⟩), by dsimp only; omega, ?_, ?_⟩ (by simp only []; omega) (evs rfl (evs rfl (evs rfl (evs rfl (evs rfl (evs rfl (evs rfl (evs rfl (evs rfl .nil))))))))) (fun w h => ?_)
        · dsimp only; rw [ht']; simp
        · rw [raws_snoc, hu', List.take_succ_eq_append_getElem hk2, List.append_assoc]; rfl
        · have e : (D.reads + (t'.xs.length : Int) + ((u'.xs ++ [(⟨a, c, (zoneOf D z)[k]⟩ : Sl UInt8)]).length : Int)) = D.reads + (t'.xs.length : Int) + (u'.xs.length : Int) + 1 := by simp; omega
          dsimp only [stC]
          rw [e]
          exact goes w h
      · have hkl : k = (zoneOf D z).length := by omega
        subst hkl
        rw [List.take_length] at hu'
        have e : D.Z - z = (D.Z - (z + 1)) + 1 := by omega
        rw [e, logOf] at hgo1 hgo2
        simp only [if_true, List.nil_append, Bool.true_or] at hgo1 hgo2
        repeat' first | refine adv ?_ | refine Side.go ?_ | refine Giv.mk fun _ => ?_ | refine All.mk fun q => ?_ | refine Fork.mk ?_ ?_ | (refine Two.mk (fun h => ?_) (fun h => ?_) <;> try first | contradiction | (exfalso; omega))
        refine loopQ.next ⟨((z + 1, true), t', u'), ⟨by dsimp only; omega, by dsimp only; omega⟩, ?_, ?_, by dsimp only; omega⟩ (by simp only []; omega) (evs rfl (evs rfl (evs rfl (evs rfl (evs rfl (evs rfl .nil)))))) (fun w h => goes w h)
        · dsimp only
          rw [‹raws t'.xs = raws t.xs›]; exact hgo1
        · dsimp only
          rw [hu', List.append_assoc]; exact hgo2
  · have hzb : z = D.Z := by omega
    subst hzb
    refine endQ.twoW Tryz.results41 ⟨t, u, ?_, ?_, rfl, rfl⟩ (fun w h => goes w h)
    · rw [← hgo1, Nat.sub_self]; simp [logOf]
    · rw [← hgo2, Nat.sub_self]; simp [logOf]
end Go.SL
namespace Go.SL
open Go.Proofs
set_option synthInstance.maxSize 4000
set_option synthInstance.maxHeartbeats 400000
set_option maxRecDepth 4000
set_option maxHeartbeats 2000000

def Sta.tx (S : Sta) (t : TV) : Sta := ⟨t.1, t.2.foldl (fun vs p => vset vs p.1 p.2) S.vs⟩
def Sta.txs (S : Sta) (l : List TV) : Sta := l.foldl Sta.tx S
structure Rp where
  pos : Nat
  num : Nat
  S : Sta
  torn : Bool
def replayGo (l : List (List UInt8)) (count : Nat) : Nat → Nat → Nat → Sta → Rp
  | 0, pos, num, S => ⟨pos, num, S, false⟩
  | f + 1, pos, num, S =>
    if l.length ≤ pos then ⟨pos, num, S, false⟩
    else match decodeOf (l.drop pos) with
      | none => ⟨pos, num, S, true⟩
      | some (bn, ep, n, t) => if ep ≠ count ∨ bn ≠ num + 1 ∨ (t[0]?.getD (0, [])).1 ≤ S.last then ⟨pos, num, S, true⟩ else replayGo l count f (pos + n) (num + 1) (S.txs t)

theorem staO_pick {B : World} {L R : List HProp} {p : Nat} {S : Sta} [k : Pick (staO p S) L R] (w : World) (h : sat B L w) : ∃ r : {r : WbR // vr r.2 = S.vs}, sat B (cells true p 0 [.int .i64 S.last, .map (some r.1.1)] :: mapO r.1.1 (vmap Sl.val r.1.2) :: bigS roF r.1.2 :: R) w := staO_open (h.perm k.perm)
theorem decode_good {l : List (List UInt8)} {bn ep n : Nat} {t : List TV} (h : decodeOf l = some (bn, ep, n, t)) : (1 ≤ n ∧ n ≤ l.length + 1) ∧ ∃ num, GoodB num t := by
  unfold decodeOf at h
  split at h
  · cases h
  · obtain ⟨u, hu, he⟩ := Option.map_eq_some_iff.1 h
    have hr := (rowGo_ok l 0 (0, 0) []).2.2
    simp only [List.length_nil, Nat.zero_add] at hr
    cases he
    refine ⟨⟨by omega, by omega⟩, ?_⟩
    unfold batchOf at hu
    split at hu
    · cases hu
    split at hu
    · cases hu
    split at hu
    · split at hu
      · rename_i hc
        cases hu
        exact ⟨_, checkB_good hc.2⟩
      · cases hu
    · cases hu

theorem st_replay (p d s st Z : Nat) (mv : Value) (sr : SR) (pos num : Nat) (off : Bool) (S : Sta) (l : Sl (Sl UInt8)) (hl : l.xs.length ≤ 50000) (hpos : pos ≤ l.xs.length) (hnum : num ≤ pos) :
    Spec Tryz.prog 44 #[.pointer (some ⟨p, 0, none⟩), .pointer (some ⟨st, 0, none⟩), l.val] [stC p d Z mv (.pointer (some ⟨s, 0, none⟩)) pos num off, slotC s d sr, roS sr.text, staO st S, roS l]
      (fun v L => v = .bool (replayGo (raws l.xs) sr.count (l.xs.length + 1 - pos) pos num S).torn ∧
        L = [stC p d Z mv (.pointer (some ⟨s, 0, none⟩)) (replayGo (raws l.xs) sr.count (l.xs.length + 1 - pos) pos num S).pos (replayGo (raws l.xs) sr.count (l.xs.length + 1 - pos) pos num S).num off, slotC s d sr, roS sr.text, staO st (replayGo (raws l.xs) sr.count (l.xs.length + 1 - pos) pos num S).S]) := by
  refine enter3 Tryz.func44 rfl (by decide) (by decide) ?_
  intro B F
  dsimp only [lcA, lnA]
  dsimp only [stC, slotC]
  repeat' first | refine adv ?_ | refine Side.go ?_ | refine Giv.mk fun _ => ?_ | refine All.mk fun q => ?_ | refine Fork.mk ?_ ?_ | (refine Two.mk (fun h => ?_) (fun h => ?_) <;> try first | contradiction | (exfalso; omega))
  refine CallG.use (slot_load s d sr) ?_
  rintro r M ⟨a0, c0, rfl, rfl⟩
  dsimp only [lcA, lnA]
  dsimp only [slotC]
  repeat' first | refine adv ?_ | refine Side.go ?_ | refine Giv.mk fun _ => ?_ | refine All.mk fun q => ?_ | refine Fork.mk ?_ ?_ | (refine Two.mk (fun h => ?_) (fun h => ?_) <;> try first | contradiction | (exfalso; omega))
  generalize hA : replayGo (raws l.xs) sr.count (l.xs.length + 1 - pos) pos num S = A
  refine Sy_loop (ι := {x : Nat × Nat × Sta // (x.1 ≤ 2 * l.xs.length + 2 ∧ x.2.1 ≤ x.1) ∧ ∃ f, l.xs.length + 1 ≤ f + x.1 ∧ replayGo (raws l.xs) sr.count f x.1 x.2.1 x.2.2 = A})
    (fun x => [(2, l.val), (0, .pointer (some ⟨p, 0, none⟩)), (1, .pointer (some ⟨st, 0, none⟩)), (8, .int .i64 sr.count), (6, .bool false)])
    (fun x => stC p d Z mv (.pointer (some ⟨s, 0, none⟩)) x.1.1 x.1.2.1 off :: slotC s d sr :: roS sr.text :: staO st x.1.2.2 :: roS l :: F) (fun x => l.xs.length - x.1.1)
    ⟨(pos, num, S), ⟨by dsimp only; omega, hnum⟩, _, by dsimp only; omega, hA⟩ (evs rfl (evs rfl (evs rfl (evs rfl (evs rfl .nil))))) (fun w h => by dsimp only [stC, slotC]; exact goes w h) ?_
  rintro ⟨⟨pos, num, S⟩, ⟨hp1, hn1⟩, f, hf, hgo⟩ env
  dsimp only [upds, stC, slotC] at hp1 hn1 hf hgo ⊢
  by_cases hlt : pos < l.xs.length
  · obtain ⟨f, rfl⟩ : ∃ g, f = g + 1 := ⟨f - 1, by omega⟩
    rw [replayGo, if_neg (by rw [raws_len]; omega)] at hgo
    refine Sy_all (staO_pick (p := st) (S := S)) (fun r => ?_)
    obtain ⟨⟨rm, vs⟩, hr⟩ := r
    dsimp only at hr ⊢
    repeat' first | refine adv ?_ | refine Side.go ?_ | refine Giv.mk fun _ => ?_ | refine All.mk fun q => ?_ | refine Fork.mk ?_ ?_ | (refine Two.mk (fun h => ?_) (fun h => ?_) <;> try first | contradiction | (exfalso; omega))
    have hys : raws (List.drop pos (List.take l.xs.length l.xs)) = (raws l.xs).drop pos := by rw [List.take_length]; simp [raws]
    have hyl : (List.drop pos (List.take l.xs.length l.xs)).length ≤ 100000 := by rw [List.take_length, List.length_drop]; omega
    generalize List.drop pos (List.take l.xs.length l.xs) = ys at hys hyl ⊢
    refine CallG.use (batch_decode (⟨q, l.c - pos, ys⟩ : Sl (Sl UInt8)) hyl) ?_
    rintro v M (⟨hn, err, herr, rfl, rfl⟩ | ⟨bn, ep, n, t, hn, rfl, rfl⟩)
    · dsimp only at hn
      rw [hys] at hn
      rw [hn] at hgo
      dsimp only [lcA, lnA] at hgo ⊢
      repeat' first | refine adv ?_ | refine Side.go ?_ | refine Giv.mk fun _ => ?_ | refine All.mk fun q => ?_ | refine Fork.mk ?_ ?_ | (refine Two.mk (fun h => ?_) (fun h => ?_) <;> try first | contradiction | (exfalso; omega))
      subst hgo
      refine endQ.oneW Tryz.results44 ⟨rfl, rfl⟩ (fun w h => ?_)
      have h2 := staO_close (p := st) (L := stC p d Z mv (.pointer (some ⟨s, 0, none⟩)) pos num off :: slotC s d sr :: roS sr.text :: F) S rm vs hr (goes w h)
      dsimp only
      exact goes w h2
    · dsimp only at hn
      rw [hys] at hn
      rw [hn] at hgo
      obtain ⟨⟨hn0, hn2⟩, hgn, hgd⟩ := decode_good hn
      rw [List.length_drop, raws_len] at hn2
      have ht0 := hgd.len0
      rw [List.length_map] at ht0
      dsimp only [lcA, lnA] at hgo ⊢
      have ht00 : ((t.xs.map TxR.v)[0]?.getD (0, [])).1 = t.xs[0].time := by
        rw [List.getElem?_map, List.getElem?_eq_getElem (show 0 < t.xs.length from ht0)]; rfl
      rw [ht00] at hgo
      by_cases hc : ep ≠ sr.count ∨ bn ≠ num + 1 ∨ t.xs[0].time ≤ S.last
      · rw [if_pos hc] at hgo
        subst hgo
        repeat' first | refine adv ?_ | refine Side.go ?_ | refine Giv.mk fun _ => ?_ | refine All.mk fun q => ?_ | refine Fork.mk ?_ ?_ | (refine Two.mk (fun h => ?_) (fun h => ?_) <;> try first | contradiction | (exfalso; omega))
        all_goals
          refine endQ.oneW Tryz.results44 ⟨rfl, rfl⟩ (fun w h => ?_)
          have h2 := staO_close (p := st) (L := stC p d Z mv (.pointer (some ⟨s, 0, none⟩)) pos num off :: slotC s d sr :: roS sr.text :: F) S rm vs hr (goes w h)
          dsimp only
          exact goes w h2
      · rw [if_neg hc] at hgo
        repeat' first | refine adv ?_ | refine Side.go ?_ | refine Giv.mk fun _ => ?_ | refine All.mk fun q => ?_ | refine Fork.mk ?_ ?_ | (refine Two.mk (fun h => ?_) (fun h => ?_) <;> try first | contradiction | (exfalso; omega))
        refine Sy_loop (ι := {y : Nat × Int × List (Int × Sl UInt8) // y.1 ≤ t.xs.length ∧ y.2.1 = (S.txs ((t.xs.take y.1).map TxR.v)).last ∧ vr y.2.2 = (S.txs ((t.xs.take y.1).map TxR.v)).vs})
          (fun y => [(76, .int .i64 y.1.1), (75, .int .i64 t.xs.length), (74, t.val), (2, l.val), (0, .pointer (some ⟨p, 0, none⟩)), (1, .pointer (some ⟨st, 0, none⟩)), (8, .int .i64 sr.count), (6, .bool false), (11, .int .i64 n)])
          (fun y => cells true st 0 [.int .i64 y.1.2.1, .map (some rm)] :: mapO rm (vmap Sl.val y.1.2.2) :: bigS roF y.1.2.2 :: roS t :: stC p d Z mv (.pointer (some ⟨s, 0, none⟩)) pos num off :: slotC s d sr :: roS sr.text :: roS l :: F) (fun y => t.xs.length - y.1.1)
          ⟨(0, S.last, vs), Nat.zero_le _, rfl, hr⟩ (evs rfl (evs rfl (evs rfl (evs rfl (evs rfl (evs rfl (evs rfl (evs rfl (evs rfl .nil))))))))) (fun w h => by dsimp only [stC, slotC]; exact goes w h) ?_
        rintro ⟨⟨i, la, vs⟩, hi, hla, hvs⟩ env
        dsimp only [upds, stC, slotC] at hi hla hvs ⊢
        refine Sy_know (fun B w h => ro_ok t B w h) (fun hts => ?_)
        have htsl := hts.len
        by_cases hi2 : i < t.xs.length
        · refine Sy_conv (pull_tx t hi2) ?_
          refine Sy_know (fun B w h => ro_ok t.xs[i].ps B w h) (fun hpp => ?_)
          have hppl := hpp.len
          repeat' first | refine adv ?_ | refine Side.go ?_ | refine Giv.mk fun _ => ?_ | refine All.mk fun q => ?_ | refine Fork.mk ?_ ?_ | (refine Two.mk (fun h => ?_) (fun h => ?_) <;> try first | contradiction | (exfalso; omega))
          obtain ⟨b14, hb14⟩ : ∃ b, b = q := ⟨q, rfl⟩
          subst hb14
          obtain ⟨x, hx⟩ : ∃ x, x = t.xs[i] := ⟨_, rfl⟩
          rw [← hx] at hpp hppl
          rw [← hx]
          refine Sy_loop (ι := {y : Nat × List (Int × Sl UInt8) // y.1 ≤ x.ps.xs.length ∧ vr y.2 = ((x.ps.xs.take y.1).map PutR.v).foldl (fun vs p => vset vs p.1 p.2) (S.txs ((t.xs.take i).map TxR.v)).vs})
            (fun y => [(83, .int .i64 y.1.1), (82, .int .i64 x.ps.xs.length), (81, x.ps.val), (14, .pointer (some ⟨b14, 0, none⟩)), (76, .int .i64 i), (75, .int .i64 t.xs.length), (74, t.val), (2, l.val), (0, .pointer (some ⟨p, 0, none⟩)), (1, .pointer (some ⟨st, 0, none⟩)), (8, .int .i64 sr.count), (6, .bool false), (11, .int .i64 n)])
            (fun y => cells true b14 0 [.int .i64 x.time, x.ps.val] :: cells true st 0 [.int .i64 la, .map (some rm)] :: mapO rm (vmap Sl.val y.1.2) :: bigS roF y.1.2 :: roS x.ps :: roS t :: stC p d Z mv (.pointer (some ⟨s, 0, none⟩)) pos num off :: slotC s d sr :: roS sr.text :: roS l :: F) (fun y => x.ps.xs.length - y.1.1)
            ⟨(0, vs), Nat.zero_le _, hvs⟩ (evs rfl (evs rfl (evs rfl (evs rfl (evs rfl (evs rfl (evs rfl (evs rfl (evs rfl (evs rfl (evs rfl (evs rfl (evs rfl .nil))))))))))))) (fun w h => by dsimp only [stC, slotC]; exact goes w h) ?_
          rintro ⟨⟨j, ws⟩, hj, hws⟩ env
          dsimp only [upds, stC, slotC] at hj hws ⊢
          refine Sy_know (fun B w h => map_nodup (r := rm) (es := vmap Sl.val ws) B w h) (fun hnd => ?_)
          rw [vmap_keys] at hnd
          by_cases hj2 : j < x.ps.xs.length
          · refine Sy_conv (pull_put x.ps hj2) ?_
            repeat' first | refine adv ?_ | refine Side.go ?_ | refine Giv.mk fun _ => ?_ | refine All.mk fun q => ?_ | refine Fork.mk ?_ ?_ | (refine Two.mk (fun h => ?_) (fun h => ?_) <;> try first | contradiction | (exfalso; omega))
            refine loopQ.next ⟨(j + 1, vset ws x.ps.xs[j].lba x.ps.xs[j].d), by dsimp only; omega, ?_⟩ (by simp only []; omega) (evs rfl (evs rfl (evs rfl (evs rfl (evs rfl (evs rfl (evs rfl (evs rfl (evs rfl (evs rfl (evs rfl (evs rfl (evs rfl .nil))))))))))))) (fun w h => ?_)
            · dsimp only
              rw [List.take_succ_eq_append_getElem hj2, List.map_append, List.foldl_append, ← hws, List.map_cons, List.map_nil, List.foldl_cons, List.foldl_nil]
              exact (vset_vr ws x.ps.xs[j].lba x.ps.xs[j].d).symm
            · dsimp only [stC, slotC]
              rw [← mset_vmap]
              have h5 : sat B (roS x.ps.xs[j].d :: bigS roF ws :: cells true b14 0 [.int .i64 x.time, x.ps.val] :: cells true st 0 [.int .i64 la, .map (some rm)] :: mapO rm (mset (vmap Sl.val ws) x.ps.xs[j].lba x.ps.xs[j].d.val) :: roS x.ps :: roS t :: stC p d Z mv (.pointer (some ⟨s, 0, none⟩)) pos num off :: slotC s d sr :: roS sr.text :: roS l :: F) w := by
                dsimp only [stC, slotC]
                exact goes w h
              exact goes w (put_ro ws x.ps.xs[j].lba _ hnd h5)
          · have hj3 : j = x.ps.xs.length := by omega
            subst hj3
            rw [List.take_length] at hws
            repeat' first | refine adv ?_ | refine Side.go ?_ | refine Giv.mk fun _ => ?_ | refine All.mk fun q => ?_ | refine Fork.mk ?_ ?_ | (refine Two.mk (fun h => ?_) (fun h => ?_) <;> try first | contradiction | (exfalso; omega))
            refine loopQ.next ⟨(i + 1, x.time, ws), by dsimp only; omega, ?_, ?_⟩ (by simp only []; omega) (evs rfl (evs rfl (evs rfl (evs rfl (evs rfl (evs rfl (evs rfl (evs rfl (evs rfl .nil))))))))) (fun w h => by dsimp only [stC, slotC]; exact goes w h)
            · dsimp only
              rw [List.take_succ_eq_append_getElem hi2, List.map_append, Sta.txs, List.foldl_append, hx]; rfl
            · dsimp only
              rw [hws, List.take_succ_eq_append_getElem hi2, List.map_append, Sta.txs, Sta.txs, List.foldl_append, hx]; rfl
        · have hi3 : i = t.xs.length := by omega
          subst hi3
          rw [List.take_length] at hla hvs
          repeat' first | refine adv ?_ | refine Side.go ?_ | refine Giv.mk fun _ => ?_ | refine All.mk fun q => ?_ | refine Fork.mk ?_ ?_ | (refine Two.mk (fun h => ?_) (fun h => ?_) <;> try first | contradiction | (exfalso; omega))
          refine loopQ.next ⟨(pos + n, num + 1, S.txs (t.xs.map TxR.v)), ⟨by dsimp only; omega, by dsimp only; omega⟩, f, by dsimp only; omega, hgo⟩ (by simp only []; omega) (evs rfl (evs rfl (evs rfl (evs rfl (evs rfl .nil))))) (fun w h => ?_)
          have h2 := staO_close (p := st) (L := stC p d Z mv (.pointer (some ⟨s, 0, none⟩)) (pos + n) (num + 1) off :: slotC s d sr :: roS sr.text :: roS l :: F) (S.txs (t.xs.map TxR.v)) rm vs hvs (by
            dsimp only [stC, slotC]
            rw [← hla, show ((pos + n : Nat) : Int) = (pos : Int) + n from by omega, show ((num + 1 : Nat) : Int) = (num : Int) + 1 from by omega]
            exact goes w h)
          dsimp only
          exact goes w h2
  · have e : A = ⟨pos, num, S, false⟩ := by
      rw [← hgo]
      cases f with
      | zero => rfl
      | succ f => rw [replayGo, if_pos (by rw [raws_len]; omega)]
    subst e
    repeat' first | refine adv ?_ | refine Side.go ?_ | refine Giv.mk fun _ => ?_ | refine All.mk fun q => ?_ | refine Fork.mk ?_ ?_ | (refine Two.mk (fun h => ?_) (fun h => ?_) <;> try first | contradiction | (exfalso; omega))
    exact endQ.oneW Tryz.results44 ⟨rfl, rfl⟩ (fun w h => goes w h)
end Go.SL
namespace Go.SL
open Go.Proofs
set_option synthInstance.maxSize 4000
set_option synthInstance.maxHeartbeats 400000
set_option maxRecDepth 4000
set_option maxHeartbeats 2000000

def putsOf (vs : List (Int × List UInt8)) : List PV := (sortI (vs.map (·.1))).map fun k => (k, (vget vs k).getD [])
theorem st_puts (b : Nat) (S : Sta) (hk : ∀ e ∈ S.vs, I64 e.1) (hl : S.vs.length ≤ 1000000) :
    Spec Tryz.prog 48 #[.pointer (some ⟨b, 0, none⟩)] [staO b S] (fun v L => ∃ t : Sl PutR, t.xs.map PutR.v = putsOf S.vs ∧ v = t.val ∧ L = [staO b S, ownS t]) := by
  refine enter1 Tryz.func48 rfl (by decide) (by decide) ?_
  intro B F
  dsimp only [lcA, lnA]
  refine Sy_all (fun w h => staO_open h) (fun r => ?_)
  obtain ⟨⟨rm, vs⟩, hr⟩ := r
  dsimp only at hr ⊢
  have hvl : vs.length = S.vs.length := by rw [← hr]; simp [vr]
  have hvk : (vmap Sl.val vs).map (·.1) = S.vs.map (·.1) := by rw [vmap_keys, ← hr]; simp [vr, List.map_map, Function.comp_def]
  have hve : ∀ e ∈ vs, I64 e.1 := by
    intro e he
    exact hk (e.1, e.2.xs) (by rw [← hr]; exact List.mem_map.2 ⟨e, he, rfl⟩)
  refine Sy_know (fun B w h => map_nodup (r := rm) (es := vmap Sl.val vs) B w h) (fun hn => ?_)
  rw [vmap_keys] at hn
  repeat' first | refine adv ?_ | refine Side.go ?_ | refine Giv.mk fun _ => ?_ | refine All.mk fun q => ?_ | refine Fork.mk ?_ ?_ | (refine Two.mk (fun h => ?_) (fun h => ?_) <;> try first | contradiction | (exfalso; omega))
  refine CallG.use (maps_keys_bytes rm) ?_
  rintro r M ⟨p, rfl, rfl⟩
  dsimp only [lcA, lnA]
  repeat' first | refine adv ?_ | refine Side.go ?_ | refine Giv.mk fun _ => ?_ | refine All.mk fun q => ?_ | refine Fork.mk ?_ ?_ | (refine Two.mk (fun h => ?_) (fun h => ?_) <;> try first | contradiction | (exfalso; omega))
  refine CallG.use (sorted_bytes p rm (vmap Sl.val vs) (by intro e he; obtain ⟨x, hx, rfl⟩ := List.mem_map.1 he; exact hve x hx) (by simp [vmap]; omega)) ?_
  rintro r M ⟨a, c, rfl, rfl⟩
  dsimp only [lcA, lnA]
  rw [hvk]
  have hsl : (vmap Sl.val vs).length = (sortI (S.vs.map (·.1))).length := by rw [sortI_len, List.length_map, ← hvl]; simp [vmap]
  rw [hsl]
  have hsub : ∀ k ∈ sortI (S.vs.map (·.1)), k ∈ vs.map (·.1) := by
    intro k hk2
    have := sortI_mem.1 hk2
    rwa [← hvk, vmap_keys] at this
  have hsn : (sortI (S.vs.map (·.1))).length ≤ 1000000 := by rw [sortI_len, List.length_map]; exact hl
  have hputs : putsOf S.vs = (sortI (S.vs.map (·.1))).map fun k => (k, (vget S.vs k).getD []) := rfl
  generalize sortI (S.vs.map (·.1)) = ks at hsub hsn hputs ⊢
  repeat' first | refine adv ?_ | refine Side.go ?_ | refine Giv.mk fun _ => ?_ | refine All.mk fun q => ?_ | refine Fork.mk ?_ ?_ | (refine Two.mk (fun h => ?_) (fun h => ?_) <;> try first | contradiction | (exfalso; omega))
  refine Sy_loop (ι := {st : Nat × Sl PutR // (st.1 ≤ ks.length ∧ st.2.xs.length = st.1) ∧ st.2.xs.map PutR.v = (ks.take st.1).map fun k => (k, (vget S.vs k).getD [])})
    (fun st => [(12, .int .i64 st.1.1), (11, .int .i64 ks.length), (10, .slice a ks.length c), (2, st.1.2.val), (0, .pointer (some ⟨b, 0, none⟩))])
    (fun st => ownS st.1.2 :: mapO rm (vmap Sl.val vs) :: ownS (⟨a, c, ks⟩ : Sl Int) :: cells true b 0 [.int .i64 S.last, .map (some rm)] :: bigS roF vs :: F)
    (fun st => ks.length - st.1.1) ⟨(0, ⟨none, 0, []⟩), ⟨Nat.zero_le _, rfl⟩, rfl⟩ (evs rfl (evs rfl (evs rfl (evs rfl (evs rfl .nil))))) (fun w h => goes w (sat_true (own_nil (α := PutR)) h)) ?_
  rintro ⟨⟨j, t⟩, ⟨hj, htl⟩, ht⟩ env
  dsimp only [upds] at hj htl ht ⊢
  by_cases hj2 : j < ks.length
  · obtain ⟨x, hx, hxm⟩ := vget_mem (hsub ks[j] (List.getElem_mem hj2))
    haveI := mg_vmap (f := Sl.val) hx
    have hgE : vget S.vs ks[j] = some x.xs := by rw [← hr]; exact (vget_vr vs ks[j]).trans (by rw [hx]; rfl)
    refine Sy_conv (pull_roF hn hx) ?_
    repeat' first | refine adv ?_ | refine Side.go ?_ | refine Giv.mk fun _ => ?_ | refine All.mk fun q => ?_ | refine Fork.mk ?_ ?_ | (refine Two.mk (fun h => ?_) (fun h => ?_) <;> try first | contradiction | (exfalso; omega))
    refine AppG.oneP t ⟨ks[j], x⟩ (by omega) (fun a3 c3 => ?_)
    repeat' first | refine adv ?_ | refine Side.go ?_ | refine Giv.mk fun _ => ?_ | refine All.mk fun q => ?_ | refine Fork.mk ?_ ?_ | (refine Two.mk (fun h => ?_) (fun h => ?_) <;> try first | contradiction | (exfalso; omega))
    refine loopQ.next ⟨(j + 1, ⟨a3, c3, t.xs ++ [⟨ks[j], x⟩]⟩), ⟨by dsimp only; omega, by simp; omega⟩, ?_⟩ (by simp only []; omega) (evs rfl (evs rfl (evs rfl (evs rfl (evs rfl .nil))))) (fun w h => goes w h)
    dsimp only
    rw [List.map_append, ht, List.take_succ_eq_append_getElem hj2, List.map_append, List.map_cons, List.map_nil, List.map_cons, List.map_nil, hgE]
    rfl
  · have hj3 : j = ks.length := by omega
    subst hj3
    rw [List.take_length] at ht
    repeat' first | refine adv ?_ | refine Side.go ?_ | refine Giv.mk fun _ => ?_ | refine All.mk fun q => ?_ | refine Fork.mk ?_ ?_ | (refine Two.mk (fun h => ?_) (fun h => ?_) <;> try first | contradiction | (exfalso; omega))
    refine endQ.oneW Tryz.results48 ⟨t, by rw [ht, hputs], rfl, rfl⟩ (fun w h => staO_close S rm vs hr ?_)
    exact goes w h

/-- Blocks that are laid one behind the other. -/
def appGo (hi pos : Nat) : Dv → Nat → List (List UInt8) → Int × Dv
  | D, _, [] => (0, D)
  | D, i, p :: l => if (D.append ((hi : Int) + ((pos : Int) + i) / (D.S : Int)) p).2.1 ≠ 0 then (12, (D.append ((hi : Int) + ((pos : Int) + i) / (D.S : Int)) p).2.2) else appGo hi pos (D.append ((hi : Int) + ((pos : Int) + i) / (D.S : Int)) p).2.2 (i + 1) l
structure Wo where
  e : Int
  pos : Nat
  num : Nat
  D : Dv
def writeOf (D : Dv) (count pos num : Nat) (l : List TV) : Wo :=
  if ¬ (checkB ((num : Int) + 1) l = true ∧ (0 : Int) ≤ count ∧ (count : Int) ≤ 4294967295) ∨ (D.Z - 2 * midOf D.Z) * D.S < pos + (encBatch count (num + 1) l).length then ⟨9, pos, num, D⟩
  else if (appGo (2 * midOf D.Z) pos D 0 (encBatch count (num + 1) l)).1 ≠ 0 then ⟨12, pos, num, (appGo (2 * midOf D.Z) pos D 0 (encBatch count (num + 1) l)).2⟩
  else if (appGo (2 * midOf D.Z) pos D 0 (encBatch count (num + 1) l)).2.flush.1 ≠ 0 then ⟨12, pos, num, (appGo (2 * midOf D.Z) pos D 0 (encBatch count (num + 1) l)).2.flush.2⟩
  else ⟨0, pos + (encBatch count (num + 1) l).length, num + 1, (appGo (2 * midOf D.Z) pos D 0 (encBatch count (num + 1) l)).2.flush.2⟩

theorem encPuts_len (ep num : Nat) : ∀ l : List TV, (encPuts ep num l).length = (l.map (·.2.length)).sum
  | [] => rfl
  | t :: l => by rw [encPuts_cons, List.length_append, List.length_map, encPuts_len ep num l, List.map_cons, List.sum_cons]
theorem encBatch_len (ep num : Nat) (l : List TV) : (encBatch ep num l).length = blocksN l := by rw [encBatch, List.length_append, encPuts_len, blocksN]; simp; omega

theorem append_ZS (D : Dv) (i : Int) (p : List UInt8) : (D.append i p).2.2.Z = D.Z ∧ (D.append i p).2.2.S = D.S := by
  unfold Dv.append
  split
  · split
    · exact ⟨rfl, rfl⟩
    · split
      · exact (Dv.begin_zs D).2
      · split
        · exact (Dv.begin_zs D).2
        · exact (Dv.begin_zs D).2
  · exact ⟨rfl, rfl⟩

theorem st_writeB (p d s : Nat) (D : Dv) (ok : D.ok) (mv : Value) (sr : SR) (pos num : Nat) (off : Bool) (bn : Int) (l : Sl TxR) (hpos : pos ≤ 1000000) (hnum : num ≤ 1000000000) :
    Spec Tryz.prog 55 #[.pointer (some ⟨p, 0, none⟩), .agg #[.int .i64 bn, l.val]] [stC p d D.Z mv (.pointer (some ⟨s, 0, none⟩)) pos num off, slotC s d sr, roS sr.text, devO d D, roS l]
      (fun v L => v = .int .i64 (writeOf D sr.count pos num (l.xs.map TxR.v)).e ∧ L = [stC p d D.Z mv (.pointer (some ⟨s, 0, none⟩)) (writeOf D sr.count pos num (l.xs.map TxR.v)).pos (writeOf D sr.count pos num (l.xs.map TxR.v)).num off, slotC s d sr, roS sr.text, devO d (writeOf D sr.count pos num (l.xs.map TxR.v)).D]) := by
  have z0 := ok.z0
  have z1 := ok.z1
  have s0 := ok.s0
  have s1 := ok.s1
  have hmid : 2 * midOf D.Z < D.Z := by unfold midOf; omega
  refine enter2 Tryz.func55 rfl (by decide) (by decide) ?_
  intro B F
  dsimp only [lcA, lnA]
  dsimp only [stC, slotC]
  repeat' first | refine adv ?_ | refine Side.go ?_ | refine Giv.mk fun _ => ?_ | refine All.mk fun q => ?_ | refine Fork.mk ?_ ?_ | (refine Two.mk (fun h => ?_) (fun h => ?_) <;> try first | contradiction | (exfalso; omega))
  obtain ⟨b3, hb3⟩ : ∃ b, b = q := ⟨q, rfl⟩
  subst hb3
  refine CallG.use (slot_load s d sr) ?_
  rintro r M ⟨a0, c0, rfl, rfl⟩
  dsimp only [lcA, lnA]
  dsimp only [slotC]
  repeat' first | refine adv ?_ | refine Side.go ?_ | refine Giv.mk fun _ => ?_ | refine All.mk fun q => ?_ | refine Fork.mk ?_ ?_ | (refine Two.mk (fun h => ?_) (fun h => ?_) <;> try first | contradiction | (exfalso; omega))
  refine CallG.use (batch_encode ((num : Int) + 1) sr.count l) ?_
  rintro v M (⟨hn, rfl, rfl⟩ | ⟨hc, o, ho, rfl, rfl⟩)
  · have e : writeOf D sr.count pos num (l.xs.map TxR.v) = ⟨9, pos, num, D⟩ := by rw [writeOf, if_pos (.inl hn)]
    rw [e]
    dsimp only [lcA, lnA]
    repeat' first | refine adv ?_ | refine Side.go ?_ | refine Giv.mk fun _ => ?_ | refine All.mk fun q => ?_ | refine Fork.mk ?_ ?_ | (refine Two.mk (fun h => ?_) (fun h => ?_) <;> try first | contradiction | (exfalso; omega))
    refine CallG.use (dev_geometry d D ok) ?_
    rintro r M ⟨rfl, rfl⟩
    dsimp only [lcA, lnA]
    repeat' first | refine adv ?_ | refine Side.go ?_ | refine Giv.mk fun _ => ?_ | refine All.mk fun q => ?_ | refine Fork.mk ?_ ?_ | (refine Two.mk (fun h => ?_) (fun h => ?_) <;> try first | contradiction | (exfalso; omega))
    all_goals first | exact endQ.oneW Tryz.results55 ⟨rfl, rfl⟩ (fun w h => goes w h) | (exfalso; omega)
  · dsimp only [lcA, lnA]
    simp only [Int.toNat_natCast, show ((num : Int) + 1).toNat = num + 1 from by omega] at ho
    have hol : o.xs.length = blocksN (l.xs.map TxR.v) := by rw [← encBatch_len sr.count (num + 1), ← ho, raws_len]
    have hob := (checkB_good hc.1).blocks
    have hprod : (D.Z - 2 * midOf D.Z) * D.S ≤ 64 * 192 := Nat.mul_le_mul (by omega) (by omega)
    have hpe : ((D.Z : Int) - 1 - ((2 * midOf D.Z : Nat) : Int) + 1) * (D.S : Int) = (((D.Z - 2 * midOf D.Z) * D.S : Nat) : Int) := by
      have h0 : (D.Z : Int) - 1 - ((2 * midOf D.Z : Nat) : Int) + 1 = ((D.Z - 2 * midOf D.Z : Nat) : Int) := by omega
      rw [h0, ← Int.natCast_mul]
    repeat' first | refine adv ?_ | refine Side.go ?_ | refine Giv.mk fun _ => ?_ | refine All.mk fun q => ?_ | refine Fork.mk ?_ ?_ | (refine Two.mk (fun h => ?_) (fun h => ?_) <;> try first | contradiction | (exfalso; omega))
    refine CallG.use (dev_geometry d D ok) ?_
    rintro r M ⟨rfl, rfl⟩
    dsimp only [lcA, lnA]
    repeat' first | refine adv ?_ | refine Side.go ?_ | refine Giv.mk fun _ => ?_ | refine All.mk fun q => ?_ | refine Fork.mk ?_ ?_ | (refine Two.mk (fun h => ?_) (fun h => ?_) <;> try first | contradiction | (exfalso; omega))
    · have e : writeOf D sr.count pos num (l.xs.map TxR.v) = ⟨9, pos, num, D⟩ := by rw [writeOf, if_pos (.inr (by rw [encBatch_len]; omega))]
      rw [e]
      exact endQ.oneW Tryz.results55 ⟨rfl, rfl⟩ (fun w h => goes w h)
    have hw0 : ¬ (¬ (checkB ((num : Int) + 1) (l.xs.map TxR.v) = true ∧ (0 : Int) ≤ sr.count ∧ (sr.count : Int) ≤ 4294967295) ∨ (D.Z - 2 * midOf D.Z) * D.S < pos + (encBatch sr.count (num + 1) (l.xs.map TxR.v)).length) := by
      rw [encBatch_len]; exact fun x => x.elim (fun x => x hc) (fun x => by omega)
    have hel : (encBatch sr.count (num + 1) (l.xs.map TxR.v)).length = o.xs.length := by rw [← ho, raws_len]
    rw [writeOf, if_neg hw0]
    rw [← ho] at hel ⊢
    generalize hA : appGo (2 * midOf D.Z) pos D 0 (raws o.xs) = A
    refine Sy_loop (ι := {x : Nat × Dv // (x.1 ≤ o.xs.length ∧ x.2.ok ∧ x.2.Z = D.Z ∧ x.2.S = D.S) ∧ appGo (2 * midOf D.Z) pos x.2 x.1 ((raws o.xs).drop x.1) = A})
      (fun x => [(68, .int .i64 x.1.1), (67, .int .i64 o.xs.length), (66, o.val), (7, o.val), (9, .int .i64 D.S), (0, .pointer (some ⟨p, 0, none⟩))])
      (fun x => roS o :: stC p d D.Z mv (.pointer (some ⟨s, 0, none⟩)) pos num off :: slotC s d sr :: roS sr.text :: devO d x.1.2 :: F) (fun x => o.xs.length - x.1.1)
      ⟨(0, D), ⟨Nat.zero_le _, ok, rfl, rfl⟩, hA⟩ (evs rfl (evs rfl (evs rfl (evs rfl (evs rfl (evs rfl .nil)))))) (fun w h => by dsimp only [stC, slotC]; exact goes w h) ?_
    rintro ⟨⟨k, E⟩, ⟨hk, okE, hEZ, hES⟩, hgo⟩ env
    dsimp only [upds, stC, slotC] at hk okE hEZ hES hgo ⊢
    by_cases hk2 : k < o.xs.length
    · have hdv0 : (0 : Int) ≤ ((pos : Int) + k) / (D.S : Int) := Int.ediv_nonneg (by omega) (by omega)
      have hdv1 : ((pos : Int) + k) / (D.S : Int) ≤ (pos : Int) + k := Int.ediv_le_self _ (by omega)
      have hdrop : (raws o.xs).drop k = o.xs[k].xs :: (raws o.xs).drop (k + 1) := by
        rw [List.drop_eq_getElem_cons (by rw [raws_len]; exact hk2)]; simp [raws]
      rw [hdrop, appGo, hES] at hgo
      refine Sy_conv (pull_sl o hk2) ?_
      repeat' first | refine adv ?_ | refine Side.go ?_ | refine Giv.mk fun _ => ?_ | refine All.mk fun q => ?_ | refine Fork.mk ?_ ?_ | (refine Two.mk (fun h => ?_) (fun h => ?_) <;> try first | contradiction | (exfalso; omega))
      refine CallG.use (dev_append d E okE (((2 * midOf D.Z : Nat) : Int) + ((pos : Int) + k) / (D.S : Int)) o.xs[k]) ?_
      rintro r M ⟨rfl, rfl⟩
      dsimp only [lcA, lnA]
      by_cases hap : (E.append (((2 * midOf D.Z : Nat) : Int) + ((pos : Int) + k) / (D.S : Int)) o.xs[k].xs).2.1 ≠ 0
      · rw [if_pos hap] at hgo
        subst hgo
        repeat' first | refine adv ?_ | refine Side.go ?_ | refine Giv.mk fun _ => ?_ | refine All.mk fun q => ?_ | refine Fork.mk ?_ ?_ | (refine Two.mk (fun h => ?_) (fun h => ?_) <;> try first | contradiction | (exfalso; omega))
        rw [if_pos (show (12 : Int) ≠ 0 by decide)]
        exact endQ.oneW Tryz.results55 ⟨rfl, rfl⟩ (fun w h => goes w h)
      · rw [if_neg hap] at hgo
        repeat' first | refine adv ?_ | refine Side.go ?_ | refine Giv.mk fun _ => ?_ | refine All.mk fun q => ?_ | refine Fork.mk ?_ ?_ | (refine Two.mk (fun h => ?_) (fun h => ?_) <;> try first | contradiction | (exfalso; omega))
        refine loopQ.next ⟨(k + 1, (E.append (((2 * midOf D.Z : Nat) : Int) + ((pos : Int) + k) / (D.S : Int)) o.xs[k].xs).2.2), ⟨by dsimp only; omega, Dv.append_ok okE _ _, (append_ZS _ _ _).1.trans hEZ, (append_ZS _ _ _).2.trans hES⟩, hgo⟩ (by simp only []; omega) (evs rfl (evs rfl (evs rfl (evs rfl (evs rfl (evs rfl .nil)))))) (fun w h => by dsimp only [stC, slotC]; exact goes w h)
    · have hk3 : k = o.xs.length := by omega
      subst hk3
      rw [List.drop_of_length_le (by rw [raws_len]; exact Nat.le_refl _), appGo] at hgo
      subst hgo
      repeat' first | refine adv ?_ | refine Side.go ?_ | refine Giv.mk fun _ => ?_ | refine All.mk fun q => ?_ | refine Fork.mk ?_ ?_ | (refine Two.mk (fun h => ?_) (fun h => ?_) <;> try first | contradiction | (exfalso; omega))
      refine CallG.use (dev_flush d E okE) ?_
      rintro r M ⟨rfl, rfl⟩
      dsimp only [lcA, lnA]
      rw [if_neg (by simp)]
      repeat' first | refine adv ?_ | refine Side.go ?_ | refine Giv.mk fun _ => ?_ | refine All.mk fun q => ?_ | refine Fork.mk ?_ ?_ | (refine Two.mk (fun h => ?_) (fun h => ?_) <;> try first | contradiction | (exfalso; omega))
      · rw [if_pos (by assumption)]
        exact endQ.oneW Tryz.results55 ⟨rfl, rfl⟩ (fun w h => goes w h)
      · rw [if_neg (by assumption)]
        refine endQ.oneW Tryz.results55 ⟨rfl, rfl⟩ (fun w h => ?_)
        dsimp only
        rw [hel, show ((pos + o.xs.length : Nat) : Int) = (pos : Int) + o.xs.length from by omega, show ((num + 1 : Nat) : Int) = (num : Int) + 1 from by omega]
        exact goes w h
end Go.SL
namespace Go.SL
open Go.Proofs
set_option synthInstance.maxSize 4000
set_option synthInstance.maxHeartbeats 400000
set_option maxRecDepth 4000
set_option maxHeartbeats 2000000

def encE (x : PV) : List UInt8 := leB x.1.toNat 4 ++ x.2
def textOf (last : Int) (l : List PV) : List UInt8 := leB last.toNat 8 ++ l.flatMap encE

theorem st_text (p d Z m : Nat) (M : Mg) (sv : Value) (pos num : Nat) (off : Bool) (hk : ∀ e ∈ M.E.vs, I64 e.1 ∧ 0 < e.2.length ∧ e.2.length ≤ 2000000) (hl : M.E.vs.length ≤ 1000000)
    (hla : 0 ≤ M.last ∧ M.last ≤ 1099511627776) (hd : ∀ x ∈ M.E.dump, (0 ≤ x.1 ∧ x.1 ≤ 1048576) ∧ x.2.length = 40) (hdl : M.E.dump.length ≤ 1000000) :
    Spec Tryz.prog 58 #[.pointer (some ⟨p, 0, none⟩)] [stC p d Z (.pointer (some ⟨m, 0, none⟩)) sv pos num off, mgO m M]
    (fun v L => ∃ t : Sl UInt8, t.xs = textOf M.last M.E.dump ∧ v = t.val ∧ L = [stC p d Z (.pointer (some ⟨m, 0, none⟩)) sv pos num off, mgO m M, ownS t]) := by
  refine enter1 Tryz.func58 rfl (by decide) (by decide) ?_
  intro B F
  dsimp only [lcA, lnA]
  dsimp only [stC]
  repeat' first | refine adv ?_ | refine Side.go ?_ | refine Giv.mk fun _ => ?_ | refine All.mk fun q => ?_ | refine Fork.mk ?_ ?_ | (refine Two.mk (fun h => ?_) (fun h => ?_) <;> try first | contradiction | (exfalso; omega))
  refine CallG.use (tx_last m M) ?_
  rintro r M ⟨rfl, rfl⟩
  dsimp only [lcA, lnA]
  repeat' first | refine adv ?_ | refine Side.go ?_ | refine Giv.mk fun _ => ?_ | refine All.mk fun q => ?_ | refine Fork.mk ?_ ?_ | (refine Two.mk (fun h => ?_) (fun h => ?_) <;> try first | contradiction | (exfalso; omega))
  rw [show M.last = ((M.last.toNat : Nat) : Int) from by omega]
  refine CallG.use (put64_spec M.last.toNat) ?_
  rintro r M ⟨a, c, rfl, rfl⟩
  dsimp only [lcA, lnA]
  repeat' first | refine adv ?_ | refine Side.go ?_ | refine Giv.mk fun _ => ?_ | refine All.mk fun q => ?_ | refine Fork.mk ?_ ?_ | (refine Two.mk (fun h => ?_) (fun h => ?_) <;> try first | contradiction | (exfalso; omega))
  refine CallG.use (tx_dump m M hk hl) ?_
  rintro r M ⟨u, hu, rfl, rfl⟩
  dsimp only [lcA, lnA]
  have hul : u.xs.length = M.E.dump.length := by rw [← hu, List.length_map]
  have hue : ∀ k (hk : k < u.xs.length), (0 ≤ u.xs[k].lba ∧ u.xs[k].lba ≤ 1048576) ∧ u.xs[k].d.xs.length = 40 := fun k hk => hd u.xs[k].v (by rw [← hu]; exact List.mem_map.2 ⟨_, List.getElem_mem hk, rfl⟩)
  repeat' first | refine adv ?_ | refine Side.go ?_ | refine Giv.mk fun _ => ?_ | refine All.mk fun q => ?_ | refine Fork.mk ?_ ?_ | (refine Two.mk (fun h => ?_) (fun h => ?_) <;> try first | contradiction | (exfalso; omega))
  refine Sy_loop (ι := {st : Nat × Sl UInt8 // (st.1 ≤ u.xs.length ∧ st.2.xs.length = 8 + 44 * st.1) ∧ st.2.xs = leB M.last.toNat 8 ++ ((u.xs.take st.1).map PutR.v).flatMap encE})
    (fun st => [(19, .int .i64 st.1.1), (18, .int .i64 u.xs.length), (17, u.val), (3, st.1.2.val)])
    (fun st => ownS st.1.2 :: roS u :: stC p d Z (.pointer (some ⟨m, 0, none⟩)) sv pos num off :: mgO m M :: F) (fun st => u.xs.length - st.1.1)
    ⟨(0, ⟨a, c, leB M.last.toNat 8⟩), ⟨Nat.zero_le _, by simp [leB_length]⟩, by simp⟩ (evs rfl (evs rfl (evs rfl (evs rfl .nil)))) (fun w h => by dsimp only [stC]; exact goes w h) ?_
  rintro ⟨⟨k, t⟩, ⟨hk1, htl⟩, ht⟩ env
  dsimp only [upds, stC] at hk1 htl ht ⊢
  by_cases hk2 : k < u.xs.length
  · have hx := hue k hk2
    refine Sy_conv (pull_put u hk2) ?_
    repeat' first | refine adv ?_ | refine Side.go ?_ | refine Giv.mk fun _ => ?_ | refine All.mk fun q => ?_ | refine Fork.mk ?_ ?_ | (refine Two.mk (fun h => ?_) (fun h => ?_) <;> try first | contradiction | (exfalso; omega))
    rw [show u.xs[k].lba = ((u.xs[k].lba.toNat : Nat) : Int) from by omega]
    refine CallG.use (put32_spec u.xs[k].lba.toNat (by omega)) ?_
    rintro r M ⟨a1, c1, rfl, rfl⟩
    dsimp only [lcA, lnA]
    repeat' first | refine adv ?_ | refine Side.go ?_ | refine Giv.mk fun _ => ?_ | refine All.mk fun q => ?_ | refine Fork.mk ?_ ?_ | (refine Two.mk (fun h => ?_) (fun h => ?_) <;> try first | contradiction | (exfalso; omega))
    refine AppG.many t (⟨a1, c1, leB u.xs[k].lba.toNat 4⟩ : Sl UInt8) ?_ (fun a2 c2 => ?_)
    · simp only [leB_length]; omega
    repeat' first | refine adv ?_ | refine Side.go ?_ | refine Giv.mk fun _ => ?_ | refine All.mk fun q => ?_ | refine Fork.mk ?_ ?_ | (refine Two.mk (fun h => ?_) (fun h => ?_) <;> try first | contradiction | (exfalso; omega))
    refine AppG.many (⟨a2, c2, t.xs ++ leB u.xs[k].lba.toNat 4⟩ : Sl UInt8) u.xs[k].d ?_ (fun a3 c3 => ?_)
    · simp only [List.length_append, leB_length]; omega
    repeat' first | refine adv ?_ | refine Side.go ?_ | refine Giv.mk fun _ => ?_ | refine All.mk fun q => ?_ | refine Fork.mk ?_ ?_ | (refine Two.mk (fun h => ?_) (fun h => ?_) <;> try first | contradiction | (exfalso; omega))
    refine loopQ.next ⟨(k + 1, ⟨a3, c3, t.xs ++ leB u.xs[k].lba.toNat 4 ++ u.xs[k].d.xs⟩), ⟨by dsimp only; omega, by simp [leB_length]; omega⟩, ?_⟩ (by simp only []; omega) (evs rfl (evs rfl (evs rfl (evs rfl .nil)))) (fun w h => by dsimp only [stC]; exact goes w h)
    dsimp only
    rw [List.take_succ_eq_append_getElem hk2, List.map_append, List.flatMap_append, ← List.append_assoc, ← ht, List.map_cons, List.map_nil, List.flatMap_singleton, List.append_assoc]; rfl
  · have hk3 : k = u.xs.length := by omega
    subst hk3
    rw [List.take_length, hu] at ht
    repeat' first | refine adv ?_ | refine Side.go ?_ | refine Giv.mk fun _ => ?_ | refine All.mk fun q => ?_ | refine Fork.mk ?_ ?_ | (refine Two.mk (fun h => ?_) (fun h => ?_) <;> try first | contradiction | (exfalso; omega))
    exact endQ.oneW Tryz.results58 ⟨t, ht, rfl, rfl⟩ (fun w h => goes w h)

/-- What a checkpoint leaves. -/
structure Ck where
  e : Int
  s : SR
  D : Dv
  off : Bool
def chkOf (D : Dv) (s : SR) (text new : Sl UInt8) : Ck :=
  if (saveOf s D text new).1 ≠ 0 then ⟨12, (saveOf s D text new).2.1, (saveOf s D text new).2.2, true⟩
  else if (wipe (saveOf s D text new).2.2 (D.Z - 2 * midOf D.Z) (2 * midOf D.Z)).1 ≠ 0 then ⟨12, (saveOf s D text new).2.1, (wipe (saveOf s D text new).2.2 (D.Z - 2 * midOf D.Z) (2 * midOf D.Z)).2, true⟩
  else ⟨0, (saveOf s D text new).2.1, (wipe (saveOf s D text new).2.2 (D.Z - 2 * midOf D.Z) (2 * midOf D.Z)).2, false⟩
theorem wipe_geo : ∀ (n : Nat) (D : Dv) (z : Nat), (wipe D n z).2.Z = D.Z ∧ (wipe D n z).2.S = D.S
  | 0, D, z => ⟨rfl, rfl⟩
  | n + 1, D, z => by
    rw [wipe]
    split
    · split
      · exact Dv.reset_geo D z
      · have h1 := wipe_geo n (D.reset z).2 (z + 1)
        have h2 := Dv.reset_geo D z
        exact ⟨h1.1.trans h2.1, h1.2.trans h2.2⟩
    · exact wipe_geo n D (z + 1)
theorem layGo_geo (a size : Nat) : ∀ (fs : List Fr) (k : Nat) (D : Dv), (layGo a size k fs D).2.Z = D.Z ∧ (layGo a size k fs D).2.S = D.S
  | [], _, _ => ⟨rfl, rfl⟩
  | f :: fs, k, D => by
    rw [layGo]
    have h2 := Dv.append_geo D ((a + k / size : Nat) : Int) (encB f.1 f.2.1 f.2.2.1 f.2.2.2.1 f.2.2.2.2)
    split
    · exact h2
    · have h1 := layGo_geo a size fs (k + 1) (D.append ((a + k / size : Nat) : Int) (encB f.1 f.2.1 f.2.2.1 f.2.2.2.1 f.2.2.2.2)).2.2
      exact ⟨h1.1.trans h2.1, h1.2.trans h2.2⟩
theorem slotWrite_geo (D : Dv) (a b n : Nat) (text : List UInt8) : (slotWrite D a b n text).2.Z = D.Z ∧ (slotWrite D a b n text).2.S = D.S := by
  unfold slotWrite
  have h1 := wipe_geo (b - a) D a
  split
  · exact h1
  · have h2 := layGo_geo a D.S (framesOf n text) 0 (wipe D (b - a) a).2
    split
    · exact ⟨h2.1.trans h1.1, h2.2.trans h1.2⟩
    · have h3 := Dv.flush_geo (layGo a D.S 0 (framesOf n text) (wipe D (b - a) a).2).2
      exact ⟨h3.1.trans (h2.1.trans h1.1), h3.2.trans (h2.2.trans h1.2)⟩
theorem saveOf_geo (s : SR) (D : Dv) (t new : Sl UInt8) : (saveOf s D t new).2.2.Z = D.Z ∧ (saveOf s D t new).2.2.S = D.S := by
  unfold saveOf
  split
  · exact ⟨rfl, rfl⟩
  · split
    · exact ⟨rfl, rfl⟩
    · split <;> exact slotWrite_geo D _ _ _ _
theorem wipe_ok : ∀ (n : Nat) (D : Dv) (z : Nat), D.ok → (wipe D n z).2.ok
  | 0, D, z, ok => ok
  | n + 1, D, z, ok => by
    rw [wipe]
    split
    · split
      · exact Dv.reset_ok ok z
      · exact wipe_ok n (D.reset z).2 (z + 1) (Dv.reset_ok ok z)
    · exact wipe_ok n D (z + 1) ok
theorem layGo_ok (a size : Nat) : ∀ (fs : List Fr) (k : Nat) (D : Dv), D.ok → (layGo a size k fs D).2.ok
  | [], _, _, ok => ok
  | f :: fs, k, D, ok => by
    rw [layGo]
    split
    · exact Dv.append_ok ok _ _
    · exact layGo_ok a size fs (k + 1) _ (Dv.append_ok ok _ _)
theorem slotWrite_ok (D : Dv) (a b n : Nat) (text : List UInt8) (ok : D.ok) : (slotWrite D a b n text).2.ok := by
  unfold slotWrite
  split
  · exact wipe_ok _ D a ok
  · split
    · exact layGo_ok _ _ _ _ _ (wipe_ok _ D a ok)
    · exact Dv.flush_ok (layGo_ok _ _ _ _ _ (wipe_ok _ D a ok))
theorem saveOf_ok (s : SR) (D : Dv) (t new : Sl UInt8) (ok : D.ok) : (saveOf s D t new).2.2.ok := by
  unfold saveOf
  split
  · exact ok
  · split
    · exact ok
    · split <;> exact slotWrite_ok D _ _ _ _ ok
def chkW (R : Int × SR × Dv) (n z : Nat) : Int × Dv := if R.1 ≠ 0 then (R.1, R.2.2) else wipe R.2.2 n z
theorem chk_eq (D : Dv) (s : SR) (t new : Sl UInt8) : chkOf D s t new = if (chkW (saveOf s D t new) (D.Z - 2 * midOf D.Z) (2 * midOf D.Z)).1 ≠ 0
    then ⟨12, (saveOf s D t new).2.1, (chkW (saveOf s D t new) (D.Z - 2 * midOf D.Z) (2 * midOf D.Z)).2, true⟩ else ⟨0, (saveOf s D t new).2.1, (chkW (saveOf s D t new) (D.Z - 2 * midOf D.Z) (2 * midOf D.Z)).2, false⟩ := by
  unfold chkOf chkW
  by_cases h : (saveOf s D t new).1 ≠ 0
  · simp only [if_pos h]
  · simp only [if_neg h]
theorem textOf_len {last : Int} {l : List PV} (h : ∀ x ∈ l, x.2.length = 40) : (textOf last l).length = 8 + 44 * l.length := by
  unfold textOf
  rw [List.length_append, leB_length]
  congr 1
  induction l with
  | nil => rfl
  | cons x l ih =>
    rw [List.flatMap_cons, List.length_append, ih (fun y hy => h y (List.mem_cons_of_mem _ hy)), encE, List.length_append, leB_length, h x (List.mem_cons_self ..), List.length_cons]
    omega
theorem wipe_pos {D : Dv} {n z : Nat} (hz : z < D.Z) : wipe D (n + 1) z = if 0 < (zoneOf D z).length then (if (D.reset z).1 ≠ 0 then D.reset z else wipe (D.reset z).2 n (z + 1)) else wipe D n (z + 1) := by
  rw [wipe]
  have : D.pointer z = (((zoneOf D z).length : Int), 0) := by unfold Dv.pointer zoneOf; rw [if_pos (by omega)]; rfl
  rw [this]
  dsimp only
  by_cases h : 0 < (zoneOf D z).length
  · rw [if_pos h, if_pos (by omega)]
  · rw [if_neg h, if_neg (by omega)]
theorem pointer_at {D : Dv} {z : Nat} (hz : z < D.Z) : D.pointer z = (((zoneOf D z).length : Int), 0) := by
  unfold Dv.pointer zoneOf; rw [if_pos (by omega)]; rfl
theorem st_checkpoint (p d m s : Nat) (D : Dv) (ok : D.ok) (M : Mg) (sr : SR) (pos num : Nat) (hs : sr.low = 0 ∧ sr.mid = midOf D.Z ∧ sr.high = 2 * midOf D.Z ∧ sr.size = D.S) (hin : sr.inn < 2) (hn : sr.count < 1099511627776) (hk : ∀ e ∈ M.E.vs, I64 e.1 ∧ 0 < e.2.length ∧ e.2.length ≤ 2000000) (hl : M.E.vs.length ≤ 1000000)
    (hla : 0 ≤ M.last ∧ M.last ≤ 1099511627776) (hd : ∀ x ∈ M.E.dump, (0 ≤ x.1 ∧ x.1 ≤ 1048576) ∧ x.2.length = 40) (hdl : M.E.dump.length ≤ 20000) :
    Spec Tryz.prog 22 #[.pointer (some ⟨p, 0, none⟩)] [stC p d D.Z (.pointer (some ⟨m, 0, none⟩)) (.pointer (some ⟨s, 0, none⟩)) pos num false, slotC s d sr, roS sr.text, devO d D, mgO m M]
    (fun v L => ∃ t new : Sl UInt8, t.xs = textOf M.last M.E.dump ∧ new.xs = t.xs ∧ v = .int .i64 (chkOf D sr t new).e ∧
      L = [stC p d D.Z (.pointer (some ⟨m, 0, none⟩)) (.pointer (some ⟨s, 0, none⟩)) (if (chkOf D sr t new).e = 0 then 0 else pos) (if (chkOf D sr t new).e = 0 then 0 else num) (chkOf D sr t new).off,
        slotC s d (chkOf D sr t new).s, roS (chkOf D sr t new).s.text, devO d (chkOf D sr t new).D, mgO m M]) := by
  have z0 := ok.z0
  have z1 := ok.z1
  have s0 := ok.s0
  have s1 := ok.s1
  have hmid : 2 * midOf D.Z < D.Z ∧ 3 ≤ midOf D.Z := by unfold midOf; omega
  refine enter1 Tryz.func22 rfl (by decide) (by decide) ?_
  intro B F
  dsimp only [lcA, lnA]
  dsimp only [stC, slotC]
  repeat' first | refine adv ?_ | refine Side.go ?_ | refine Giv.mk fun _ => ?_ | refine All.mk fun q => ?_ | refine Fork.mk ?_ ?_ | (refine Two.mk (fun h => ?_) (fun h => ?_) <;> try first | contradiction | (exfalso; omega))
  refine CallG.use (st_dead p d D.Z (.pointer (some ⟨m, 0, none⟩)) (.pointer (some ⟨s, 0, none⟩)) pos num false) ?_
  rintro r M ⟨rfl, rfl⟩
  dsimp only [lcA, lnA]
  dsimp only [stC]
  repeat' first | refine adv ?_ | refine Side.go ?_ | refine Giv.mk fun _ => ?_ | refine All.mk fun q => ?_ | refine Fork.mk ?_ ?_ | (refine Two.mk (fun h => ?_) (fun h => ?_) <;> try first | contradiction | (exfalso; omega))
  refine CallG.use (st_text p d D.Z m M (.pointer (some ⟨s, 0, none⟩)) pos num false hk hl hla hd (by omega)) ?_
  rintro r M ⟨t, ht, rfl, rfl⟩
  dsimp only [lcA, lnA]
  dsimp only [stC]
  repeat' first | refine adv ?_ | refine Side.go ?_ | refine Giv.mk fun _ => ?_ | refine All.mk fun q => ?_ | refine Fork.mk ?_ ?_ | (refine Two.mk (fun h => ?_) (fun h => ?_) <;> try first | contradiction | (exfalso; omega))
  have htl : t.xs.length ≤ 1000000 := by rw [ht, textOf_len (fun x hx => (hd x hx).2)]; omega
  refine CallG.freeze t ?_
  refine CallG.use (slot_save s d sr D ok hs.2.2.2 (by omega) hin hn t htl) ?_
  rintro r M ⟨new, hnew, rfl, rfl⟩
  dsimp only [lcA, lnA]
  dsimp only [slotC]
  have hce := chk_eq D sr t new
  have hRZ := saveOf_geo sr D t new
  have hRok := saveOf_ok sr D t new ok
  generalize saveOf sr D t new = R at hce hRZ hRok ⊢
  generalize hW : chkW R (D.Z - 2 * midOf D.Z) (2 * midOf D.Z) = W at hce
  repeat' first | refine adv ?_ | refine Side.go ?_ | refine Giv.mk fun _ => ?_ | refine All.mk fun q => ?_ | refine Fork.mk ?_ ?_ | (refine Two.mk (fun h => ?_) (fun h => ?_) <;> try first | contradiction | (exfalso; omega))
  refine Sy_loop (ι := {x : Nat × Int × Dv // x.1 ≤ D.Z ∧ x.2.2.ok ∧ x.2.2.Z = D.Z ∧ ((x.2.1 = 0 ∧ wipe x.2.2 (D.Z - x.1) x.1 = W) ∨ (x.2.1 ≠ 0 ∧ W = (x.2.1, x.2.2)))})
    (fun x => [(4, .int .i64 x.1.1), (3, .int .i64 x.1.2.1), (0, .pointer (some ⟨p, 0, none⟩))])
    (fun x => stC p d D.Z (.pointer (some ⟨m, 0, none⟩)) (.pointer (some ⟨s, 0, none⟩)) pos num false :: slotC s d R.2.1 :: roS R.2.1.text :: devO d x.1.2.2 :: mgO m M :: F) (fun x => D.Z - x.1.1)
    ⟨(2 * midOf D.Z, R.1, R.2.2), by dsimp only; omega, hRok, hRZ.1, ?_⟩ (evs rfl (evs rfl (evs rfl .nil))) (fun w h => by dsimp only [stC, slotC]; exact goes w h) ?_
  · dsimp only
    rw [← hW]
    unfold chkW
    by_cases h : R.1 ≠ 0
    · rw [if_pos h]; exact .inr ⟨h, rfl⟩
    · rw [if_neg h]; exact .inl ⟨by omega, rfl⟩
  rintro ⟨⟨z, e, E⟩, hz, okE, hEZ, hgo⟩ env
  dsimp only [upds, stC, slotC] at hz okE hEZ hgo ⊢
  by_cases hc : z < D.Z ∧ e = 0
  · obtain ⟨hzl, rfl⟩ := hc
    obtain ⟨-, hgo⟩ : (0 : Int) = 0 ∧ wipe E (D.Z - z) z = W := by
      rcases hgo with h | ⟨h, -⟩
      · exact h
      · exact absurd rfl h
    rw [show D.Z - z = (D.Z - (z + 1)) + 1 from by omega, wipe_pos (by omega)] at hgo
    repeat' first | refine adv ?_ | refine Side.go ?_ | refine Giv.mk fun _ => ?_ | refine All.mk fun q => ?_ | refine Fork.mk ?_ ?_ | (refine Two.mk (fun h => ?_) (fun h => ?_) <;> try first | contradiction | (exfalso; omega))
    refine CallG.use (dev_pointer d E okE z) ?_
    rintro r M ⟨rfl, rfl⟩
    dsimp only [lcA, lnA]
    rw [pointer_at (show z < E.Z from by omega)]
    repeat' first | refine adv ?_ | refine Side.go ?_ | refine Giv.mk fun _ => ?_ | refine All.mk fun q => ?_ | refine Fork.mk ?_ ?_ | (refine Two.mk (fun h => ?_) (fun h => ?_) <;> try first | contradiction | (exfalso; omega))
    · rw [if_pos (by omega)] at hgo
      refine CallG.use (dev_reset d E okE z) ?_
      rintro r M ⟨rfl, rfl⟩
      dsimp only [lcA, lnA]
      repeat' first | refine adv ?_ | refine Side.go ?_ | refine Giv.mk fun _ => ?_ | refine All.mk fun q => ?_ | refine Fork.mk ?_ ?_ | (refine Two.mk (fun h => ?_) (fun h => ?_) <;> try first | contradiction | (exfalso; omega))
      refine loopQ.next ⟨(z + 1, (E.reset z).1, (E.reset z).2), by dsimp only; omega, Dv.reset_ok okE z, (Dv.reset_geo E z).1.trans hEZ, ?_⟩ (by simp only []; omega) (evs rfl (evs rfl (evs rfl .nil))) (fun w h => by dsimp only [stC, slotC]; exact goes w h)
      dsimp only
      by_cases h : (E.reset z).1 ≠ 0
      · rw [if_pos h] at hgo; exact .inr ⟨h, hgo.symm⟩
      · rw [if_neg h] at hgo; exact .inl ⟨by omega, hgo⟩
    · rw [if_neg (by omega)] at hgo
      refine loopQ.next ⟨(z + 1, 0, E), by dsimp only; omega, okE, hEZ, .inl ⟨rfl, hgo⟩⟩ (by simp only []; omega) (evs rfl (evs rfl (evs rfl .nil))) (fun w h => by dsimp only [stC, slotC]; exact goes w h)
  · have hW2 : W = (e, E) := by
      rcases hgo with ⟨h0, h⟩ | ⟨-, h⟩
      · rw [show D.Z - z = 0 from by omega] at h; rw [← h, h0]; rfl
      · exact h
    subst hW2
    dsimp only at hce
    repeat' first | refine adv ?_ | refine Side.go ?_ | refine Giv.mk fun _ => ?_ | refine All.mk fun q => ?_ | refine Fork.mk ?_ ?_ | (refine Two.mk (fun h => ?_) (fun h => ?_) <;> try first | contradiction | (exfalso; omega))
    · rw [if_pos (by assumption)] at hce
      refine endQ.oneW Tryz.results22 ⟨t, new, ht, hnew, by rw [hce], rfl⟩ (fun w h => ?_)
      rw [hce]
      dsimp only
      rw [if_neg (show ¬ ((12 : Int) = 0) by decide), if_neg (show ¬ ((12 : Int) = 0) by decide)]
      exact goes w h
    · rw [if_pos (by assumption)] at hce
      refine endQ.oneW Tryz.results22 ⟨t, new, ht, hnew, by rw [hce], rfl⟩ (fun w h => ?_)
      rw [hce]
      dsimp only
      rw [if_neg (show ¬ ((12 : Int) = 0) by decide), if_neg (show ¬ ((12 : Int) = 0) by decide)]
      exact goes w h
    · rw [if_neg (by omega)] at hce
      refine endQ.oneW Tryz.results22 ⟨t, new, ht, hnew, by rw [hce], rfl⟩ (fun w h => ?_)
      rw [hce]
      dsimp only
      rw [if_pos rfl, if_pos rfl, show ((0 : Nat) : Int) = 0 from rfl]
      exact goes w h
end Go.SL
namespace Go.SL
open Go.Proofs
set_option synthInstance.maxSize 4000
set_option synthInstance.maxHeartbeats 400000
set_option maxRecDepth 4000
set_option maxHeartbeats 2000000

/-- What a flush leaves. -/
structure Fl where
  e : Int
  M : Mg
  D : Dv
  pos : Nat
  num : Nat
  off : Bool
def flushOf (D : Dv) (count pos num : Nat) (M : Mg) : Fl :=
  if M.batch.1 ≠ 0 then ⟨M.batch.1, M, D, pos, num, false⟩
  else if (writeOf D count pos num M.batch.2.2.2).e = 12 then ⟨12, M.batch.2.1, (writeOf D count pos num M.batch.2.2.2).D, (writeOf D count pos num M.batch.2.2.2).pos, (writeOf D count pos num M.batch.2.2.2).num, true⟩
  else ⟨(writeOf D count pos num M.batch.2.2.2).e, (M.batch.2.1.done (writeOf D count pos num M.batch.2.2.2).e).2, (writeOf D count pos num M.batch.2.2.2).D, (writeOf D count pos num M.batch.2.2.2).pos, (writeOf D count pos num M.batch.2.2.2).num, false⟩
/-- What a manager must be for a batch to be made and done. -/
structure MgF (M : Mg) : Prop where
  q : ∀ h ∈ M.queue, ∃ T, vget M.all h = some T
  ql : M.queue.length ≤ 1000000
  W : ∀ e ∈ M.all, e.2.W.vs.length ≤ 1000000 ∧ ∀ x ∈ e.2.W.vs, I64 x.1
  num : M.num ≤ 1000000000
  form : formGo 0 0 M.waits ≤ M.waits.length
  wl : M.waits.length = M.queue.length
  wp : ∀ x ∈ M.waits, x.2.length ≤ 1000000
  E : ∀ code, ∀ k < formGo 0 0 M.waits, ∀ e ∈ (({ M with out := formGo 0 0 M.waits } : Mg).doneK code k).E.vs, e.2.length ≤ 1000000
  k : ∀ code, ∀ k (_ : k < formGo 0 0 M.waits), ∃ T, vget (({ M with out := formGo 0 0 M.waits } : Mg).doneK code k).all (M.queue[k]?.getD 0) = some T
theorem batch_same {M : Mg} (h : M.batch.1 ≠ 0) : M.batch.2.1 = M := by
  unfold Mg.batch at *
  split
  · rfl
  · split
    · rfl
    · rename_i h1 h2; rw [if_neg h1, if_neg h2] at h; exact absurd rfl h
theorem batch_out {M : Mg} (h : ¬ M.batch.1 ≠ 0) : M.batch.2.1 = { M with out := formGo 0 0 M.waits } := by
  unfold Mg.batch at *
  split at h
  · exact absurd (show (16 : Int) ≠ 0 by decide) h
  · split at h
    · exact absurd (show (14 : Int) ≠ 0 by decide) h
    · rename_i h1 h2; rw [if_neg h1, if_neg h2]

theorem st_flush (p d m s : Nat) (D : Dv) (ok : D.ok) (M : Mg) (sr : SR) (pos num : Nat) (hpos : pos ≤ 1000000) (hnum : num ≤ 1000000000) (hM : MgF M) :
    Spec Tryz.prog 21 #[.pointer (some ⟨p, 0, none⟩)] [stC p d D.Z (.pointer (some ⟨m, 0, none⟩)) (.pointer (some ⟨s, 0, none⟩)) pos num false, slotC s d sr, roS sr.text, devO d D, mgO m M]
    (fun v L => v = .int .i64 (flushOf D sr.count pos num M).e ∧
      L = [stC p d D.Z (.pointer (some ⟨m, 0, none⟩)) (.pointer (some ⟨s, 0, none⟩)) (flushOf D sr.count pos num M).pos (flushOf D sr.count pos num M).num (flushOf D sr.count pos num M).off,
        slotC s d sr, roS sr.text, devO d (flushOf D sr.count pos num M).D, mgO m (flushOf D sr.count pos num M).M]) := by
  refine enter1 Tryz.func21 rfl (by decide) (by decide) ?_
  intro B F
  dsimp only [lcA, lnA]
  dsimp only [stC, slotC]
  repeat' first | refine adv ?_ | refine Side.go ?_ | refine Giv.mk fun _ => ?_ | refine All.mk fun q => ?_ | refine Fork.mk ?_ ?_ | (refine Two.mk (fun h => ?_) (fun h => ?_) <;> try first | contradiction | (exfalso; omega))
  refine CallG.use (st_dead p d D.Z (.pointer (some ⟨m, 0, none⟩)) (.pointer (some ⟨s, 0, none⟩)) pos num false) ?_
  rintro r M ⟨rfl, rfl⟩
  dsimp only [lcA, lnA]
  dsimp only [stC]
  repeat' first | refine adv ?_ | refine Side.go ?_ | refine Giv.mk fun _ => ?_ | refine All.mk fun q => ?_ | refine Fork.mk ?_ ?_ | (refine Two.mk (fun h => ?_) (fun h => ?_) <;> try first | contradiction | (exfalso; omega))
  refine CallG.use (tx_batch m M hM.q hM.ql hM.W hM.num hM.form) ?_
  rintro r M ⟨t, ht, rfl, rfl⟩
  dsimp only [lcA, lnA]
  repeat' first | refine adv ?_ | refine Side.go ?_ | refine Giv.mk fun _ => ?_ | refine All.mk fun q => ?_ | refine Fork.mk ?_ ?_ | (refine Two.mk (fun h => ?_) (fun h => ?_) <;> try first | contradiction | (exfalso; omega))
  · have e := batch_same h
    have e2 : flushOf D sr.count pos num M = ⟨M.batch.1, M, D, pos, num, false⟩ := by rw [flushOf, if_pos h]
    rw [e, e2]
    exact endQ.oneW Tryz.results21 ⟨rfl, rfl⟩ (fun w h => goes w h)
  have h0 : ¬ M.batch.1 ≠ 0 := by omega
  refine CallG.use (st_writeB p d s D ok (.pointer (some ⟨m, 0, none⟩)) sr pos num false M.batch.2.2.1 t hpos hnum) ?_
  rintro r M ⟨rfl, rfl⟩
  dsimp only [lcA, lnA]
  rw [ht]
  have e2 := batch_out h0
  have e3 : flushOf D sr.count pos num M = if (writeOf D sr.count pos num M.batch.2.2.2).e = 12 then ⟨12, M.batch.2.1, (writeOf D sr.count pos num M.batch.2.2.2).D, (writeOf D sr.count pos num M.batch.2.2.2).pos, (writeOf D sr.count pos num M.batch.2.2.2).num, true⟩
      else ⟨(writeOf D sr.count pos num M.batch.2.2.2).e, (M.batch.2.1.done (writeOf D sr.count pos num M.batch.2.2.2).e).2, (writeOf D sr.count pos num M.batch.2.2.2).D, (writeOf D sr.count pos num M.batch.2.2.2).pos, (writeOf D sr.count pos num M.batch.2.2.2).num, false⟩ := by
    rw [flushOf, if_neg h0]
  generalize writeOf D sr.count pos num M.batch.2.2.2 = W at e3 ⊢
  dsimp only [stC, slotC]
  repeat' first | refine adv ?_ | refine Side.go ?_ | refine Giv.mk fun _ => ?_ | refine All.mk fun q => ?_ | refine Fork.mk ?_ ?_ | (refine Two.mk (fun h => ?_) (fun h => ?_) <;> try first | contradiction | (exfalso; omega))
  · rw [if_pos (by assumption)] at e3
    rw [e3]
    have h12 : W.e = 12 := by assumption
    rw [h12]
    exact endQ.oneW Tryz.results21 ⟨rfl, rfl⟩ (fun w h => goes w h)
  · rw [if_neg (by omega)] at e3
    refine CallG.use (tx_done m M.batch.2.1 W.e (by rw [e2]; exact hM.q) (by rw [e2]; exact hM.ql) (by rw [e2]; exact hM.W) (by rw [e2]; exact hM.num) (by rw [e2]; exact hM.wl) (by rw [e2]; exact Nat.le_trans hM.form (Nat.le_of_eq hM.wl)) (by rw [e2]; exact hM.wp) (by rw [e2]; exact hM.E W.e) (by rw [e2]; exact hM.k W.e)) ?_
    rintro r M ⟨rfl, rfl⟩
    dsimp only [lcA, lnA]
    repeat' first | refine adv ?_ | refine Side.go ?_ | refine Giv.mk fun _ => ?_ | refine All.mk fun q => ?_ | refine Fork.mk ?_ ?_ | (refine Two.mk (fun h => ?_) (fun h => ?_) <;> try first | contradiction | (exfalso; omega))
    rw [e3]
    exact endQ.oneW Tryz.results21 ⟨rfl, rfl⟩ (fun w h => goes w h)
end Go.SL
namespace Go.SL
open Go.Proofs
set_option synthInstance.maxSize 4000
set_option synthInstance.maxHeartbeats 400000
set_option maxRecDepth 4000
set_option maxHeartbeats 2000000

def parseGo : Nat → List UInt8 → List (Int × List UInt8) → List (Int × List UInt8)
  | 0, _, vs => vs
  | f + 1, l, vs => if l.length = 0 then vs else parseGo f (l.drop 44) (vset vs ((getR l 4 : Nat) : Int) ((l.take 44).drop 4))
def parseOf (t : List UInt8) : Option Sta :=
  if t.length = 0 then some ⟨0, []⟩
  else if t.length < 8 ∨ 1099511627776 < getR t 8 ∨ t.length % 44 ≠ 8 then none
  else some ⟨(getR t 8 : Nat), parseGo (t.length + 1) (t.drop 8) []⟩

theorem st_parse (s : Sl UInt8) : Spec Tryz.prog 40 #[s.val] [roS s] (fun v L => (parseOf s.xs = none ∧ v = .tuple #[.pointer none, .bool false] ∧ L = []) ∨
    (∃ S p, parseOf s.xs = some S ∧ v = .tuple #[.pointer (some ⟨p, 0, none⟩), .bool true] ∧ L = [staO p S])) := by
  refine enter1 Tryz.func40 rfl (by decide) (by decide) ?_
  intro B F
  dsimp only [lcA, lnA]
  refine Sy_know (fun B w h => ro_ok s B w h) (fun hs => ?_)
  have hsl := hs.len
  repeat' first | refine adv ?_ | refine Side.go ?_ | refine Giv.mk fun _ => ?_ | refine All.mk fun q => ?_ | refine Fork.mk ?_ ?_ | (refine Two.mk (fun h => ?_) (fun h => ?_) <;> try first | contradiction | (exfalso; omega))
  · rename_i rm
    refine endQ.twoW Tryz.results40 (.inr ⟨⟨0, []⟩, _, by rw [parseOf, if_pos (by omega)], rfl, rfl⟩) (fun w h => staO_close ⟨0, []⟩ rm [] rfl ?_)
    exact goes w (show sat B (cells true q 0 [.int .i64 0, .map (some rm)] :: mapO rm (vmap Sl.val ([] : List (Int × Sl UInt8))) :: roS s :: F) w from h)
  refine CallG.use (get64_spec s) ?_
  rintro r M ⟨rfl, rfl⟩
  dsimp only [lcA, lnA]
  have hok : getOk s.xs 8 = true ↔ 8 ≤ s.xs.length := by simp [getOk]
  have hno : s.xs.length < 8 ∨ 1099511627776 < getR s.xs 8 ∨ s.xs.length % 44 ≠ 8 → s.xs.length ≠ 0 → parseOf s.xs = none := fun h h0 => by rw [parseOf, if_neg h0, if_pos h]
  rename_i rm
  repeat' first | refine adv ?_ | refine Side.go ?_ | refine Giv.mk fun _ => ?_ | refine All.mk fun q => ?_ | refine Fork.mk ?_ ?_ | (refine Two.mk (fun h => ?_) (fun h => ?_) <;> try first | contradiction | (exfalso; omega))
  · exact endQ.two Tryz.results40 (.inl ⟨hno (.inl (Nat.lt_of_not_le fun x => h (hok.2 x))) (by omega), rfl, rfl⟩)
  · exact endQ.two Tryz.results40 (.inl ⟨hno (.inr (.inl (by omega))) (by omega), rfl, rfl⟩)
  · exact endQ.two Tryz.results40 (.inl ⟨hno (.inr (.inr (fun x => h (congrArg Int.ofNat x)))) (by omega), rfl, rfl⟩)
  have h8 : 8 ≤ s.xs.length := hok.1 (by simpa using ‹¬¬getOk s.xs 8 = true›)
  have hmod : s.xs.length % 44 = 8 := Int.ofNat_inj.1 (Decidable.not_not.1 h)
  obtain ⟨q8, hq8⟩ : ∃ b, b = q := ⟨q, rfl⟩
  subst hq8
  repeat' first | refine adv ?_ | refine Side.go ?_ | refine Giv.mk fun _ => ?_ | refine All.mk fun q => ?_ | refine Fork.mk ?_ ?_ | (refine Two.mk (fun h => ?_) (fun h => ?_) <;> try first | contradiction | (exfalso; omega))
  have hP : parseOf s.xs = some ⟨(getR s.xs 8 : Nat), parseGo (s.xs.length + 1) (s.xs.drop 8) []⟩ := by rw [parseOf, if_neg (by omega), if_neg (by omega)]
  generalize hA : parseGo (s.xs.length + 1) (s.xs.drop 8) [] = A at hP
  refine Sy_loop (ι := {x : Sl UInt8 × List (Int × Sl UInt8) // (x.1.xs.length % 44 = 0 ∧ x.1.xs.length ≤ s.xs.length) ∧ ∃ f, x.1.xs.length < f ∧ parseGo f x.1.xs (vr x.2) = A})
    (fun x => [(7, x.1.1.val), (4, .pointer (some ⟨q8, 0, none⟩))])
    (fun x => cells true q8 0 [.int .i64 (getR s.xs 8), .map (some rm)] :: mapO rm (vmap Sl.val x.1.2) :: bigS roF x.1.2 :: roS x.1.1 :: F) (fun x => x.1.1.xs.length)
    ⟨(⟨q, s.c - 8, List.drop 8 (List.take s.xs.length s.xs)⟩, []), ⟨?_, ?_⟩, ?_⟩ (evs rfl (evs rfl .nil)) (fun w h => ?_) ?_
  · dsimp only; rw [List.take_length, List.length_drop]; omega
  · dsimp only; rw [List.take_length, List.length_drop]; omega
  · exact ⟨s.xs.length + 1, by dsimp only; rw [List.take_length, List.length_drop]; omega, by dsimp only; rw [List.take_length]; exact hA⟩
  · have h2 := sat_true (show ∀ h, bigS roF ([] : List (Int × Sl UInt8)) h from fun _ => trivial) h
    exact (goes w h2 : sat B (cells true q8 0 [.int .i64 (getR s.xs 8), .map (some rm)] :: mapO rm [] :: bigS roF ([] : List (Int × Sl UInt8)) :: roS (⟨q, s.c - 8, List.drop 8 (List.take s.xs.length s.xs)⟩ : Sl UInt8) :: F) w)
  rintro ⟨⟨l, vs⟩, ⟨hl44, hll⟩, f, hf, hgo⟩ env
  dsimp only [upds] at hl44 hll hf hgo ⊢
  refine Sy_know (fun B w h => map_nodup (r := rm) (es := vmap Sl.val vs) B w h) (fun hnd => ?_)
  rw [vmap_keys] at hnd
  obtain ⟨f, rfl⟩ : ∃ g, f = g + 1 := ⟨f - 1, by omega⟩
  rw [parseGo] at hgo
  by_cases hl0 : l.xs.length = 0
  · rw [if_pos hl0] at hgo
    repeat' first | refine adv ?_ | refine Side.go ?_ | refine Giv.mk fun _ => ?_ | refine All.mk fun q => ?_ | refine Fork.mk ?_ ?_ | (refine Two.mk (fun h => ?_) (fun h => ?_) <;> try first | contradiction | (exfalso; omega))
    refine endQ.twoW Tryz.results40 (.inr ⟨_, q8, hP, rfl, rfl⟩) (fun w h => staO_close _ rm vs hgo ?_)
    exact goes w h
  · rw [if_neg hl0] at hgo
    have hg4 : getR l.xs 4 < 4294967296 := getR_lt _ 4
    have h44 : 44 ≤ l.xs.length := by omega
    repeat' first | refine adv ?_ | refine Side.go ?_ | refine Giv.mk fun _ => ?_ | refine All.mk fun q => ?_ | refine Fork.mk ?_ ?_ | (refine Two.mk (fun h => ?_) (fun h => ?_) <;> try first | contradiction | (exfalso; omega))
    refine CallG.use (get32_spec l) ?_
    rintro r M ⟨rfl, rfl⟩
    dsimp only [lcA, lnA]
    repeat' first | refine adv ?_ | refine Side.go ?_ | refine Giv.mk fun _ => ?_ | refine All.mk fun q => ?_ | refine Fork.mk ?_ ?_ | (refine Two.mk (fun h => ?_) (fun h => ?_) <;> try first | contradiction | (exfalso; omega))
    rename_i q1
    have e1 : List.take l.xs.length l.xs = l.xs := List.take_length
    refine loopQ.next ⟨(⟨q, l.c - 44, List.drop 44 (List.take l.xs.length l.xs)⟩, vset vs ((getR l.xs 4 : Nat) : Int) ⟨q1, l.c - 4, List.drop 4 (List.take 44 l.xs)⟩), ⟨?_, ?_⟩, f, ?_, ?_⟩ (by simp only []; rw [e1, List.length_drop]; omega) (evs rfl (evs rfl .nil)) (fun w h => ?_)
    · dsimp only; rw [e1, List.length_drop]; omega
    · dsimp only; rw [e1, List.length_drop]; omega
    · dsimp only; rw [e1, List.length_drop]; omega
    · dsimp only; rw [e1, ← vset_vr]; exact hgo
    · dsimp only
      rw [← mset_vmap]
      have h5 : sat B (roS (⟨q1, l.c - 4, List.drop 4 (List.take 44 l.xs)⟩ : Sl UInt8) :: bigS roF vs :: cells true q8 0 [.int .i64 (getR s.xs 8), .map (some rm)] ::
          mapO rm (mset (vmap Sl.val vs) ((getR l.xs 4 : Nat) : Int) (Sl.val (⟨q1, l.c - 4, List.drop 4 (List.take 44 l.xs)⟩ : Sl UInt8))) :: roS (⟨q, l.c - 44, List.drop 44 (List.take l.xs.length l.xs)⟩ : Sl UInt8) :: F) w := goes w h
      exact goes w (put_ro vs ((getR l.xs 4 : Nat) : Int) _ hnd h5)
end Go.SL
namespace Go.SL
open Go.Proofs
set_option synthInstance.maxSize 4000
set_option synthInstance.maxHeartbeats 400000
set_option maxRecDepth 4000
set_option maxHeartbeats 2000000

/-- The slots, and the store, as plain data. -/
structure SP where
  inn : Nat
  text : List UInt8
  count : Nat
  off : Bool
structure SS where
  x : SP
  M : Mg
  pos : Nat
  num : Nat
  off : Bool
def SP.sr (Z S : Nat) (x : SP) (t : Sl UInt8) : SR := ⟨0, midOf Z, 2 * midOf Z, S, x.inn, t, x.count, x.off⟩
def slotA (Z i : Nat) : Nat := if i = 0 then 0 else if i = 1 then midOf Z else 2 * midOf Z
def savP (D : Dv) (x : SP) (text : List UInt8) : Int × SP × Dv :=
  if 40 * (midOf D.Z * D.S - 2) < text.length then (7, x, D) else if x.off = true then (12, x, D) else
  if (slotWrite D (slotA D.Z (1 - x.inn)) (slotA D.Z (1 - x.inn + 1)) (x.count + 1) text).1 ≠ 0 then
    ((slotWrite D (slotA D.Z (1 - x.inn)) (slotA D.Z (1 - x.inn + 1)) (x.count + 1) text).1, { x with off := true }, (slotWrite D (slotA D.Z (1 - x.inn)) (slotA D.Z (1 - x.inn + 1)) (x.count + 1) text).2)
  else (0, ⟨1 - x.inn, text, x.count + 1, x.off⟩, (slotWrite D (slotA D.Z (1 - x.inn)) (slotA D.Z (1 - x.inn + 1)) (x.count + 1) text).2)
structure Ch where
  e : Int
  x : SP
  D : Dv
def chW (R : Int × SP × Dv) (n z : Nat) : Int × Dv := if R.1 ≠ 0 then (R.1, R.2.2) else wipe R.2.2 n z
def chkP (D : Dv) (x : SP) (text : List UInt8) : Ch :=
  if (chW (savP D x text) (D.Z - 2 * midOf D.Z) (2 * midOf D.Z)).1 ≠ 0 then ⟨12, (savP D x text).2.1, (chW (savP D x text) (D.Z - 2 * midOf D.Z) (2 * midOf D.Z)).2⟩
  else ⟨0, (savP D x text).2.1, (chW (savP D x text) (D.Z - 2 * midOf D.Z) (2 * midOf D.Z)).2⟩
def SR.sp (s : SR) : SP := ⟨s.inn, s.text.xs, s.count, s.off⟩
theorem save_sp {D : Dv} {x : SP} {t : Sl UInt8} (ht : t.xs = x.text) (text new : Sl UInt8) (hnew : new.xs = text.xs) :
    savP D x text.xs = ((saveOf (x.sr D.Z D.S t) D text new).1, (saveOf (x.sr D.Z D.S t) D text new).2.1.sp, (saveOf (x.sr D.Z D.S t) D text new).2.2) ∧ ∃ t', (saveOf (x.sr D.Z D.S t) D text new).2.1 = (savP D x text.xs).2.1.sr D.Z D.S t' ∧ t'.xs = (savP D x text.xs).2.1.text := by
  have hroom : (x.sr D.Z D.S t).room = 40 * (midOf D.Z * D.S - 2) := by
    unfold SR.room SP.sr
    dsimp only
    rw [show min (midOf D.Z - 0) (2 * midOf D.Z - midOf D.Z) = midOf D.Z from by omega]
  have hat : ∀ i, (x.sr D.Z D.S t).at i = slotA D.Z i := fun i => rfl
  have hx : x = ⟨x.inn, t.xs, x.count, x.off⟩ := by rw [ht]
  unfold saveOf savP
  rw [hroom, hat, hat]
  have h1 : (x.sr D.Z D.S t).inn = x.inn := rfl
  have h2 : (x.sr D.Z D.S t).count = x.count := rfl
  have h3 : (x.sr D.Z D.S t).off = x.off := rfl
  rw [h1, h2, h3]
  split
  · exact ⟨by rw [hx]; rfl, t, rfl, ht⟩
  · split
    · exact ⟨by rw [hx]; rfl, t, rfl, ht⟩
    · split
      · exact ⟨by rw [hx]; rfl, t, rfl, ht⟩
      · exact ⟨by rw [← hnew]; rfl, new, rfl, hnew⟩
/-- A store in memory. -/
def stO (p d Z S : Nat) (T : SS) : HProp := ex fun q : Nat × Nat × Sl UInt8 => star [says (q.2.2.xs = T.x.text), stC p d Z (.pointer (some ⟨q.1, 0, none⟩)) (.pointer (some ⟨q.2.1, 0, none⟩)) T.pos T.num T.off, slotC q.2.1 d (T.x.sr Z S q.2.2), roS q.2.2, mgO q.1 T.M]
theorem stO_open {B : World} {L : List HProp} {p d Z S : Nat} {T : SS} {w : World} (h : sat B (stO p d Z S T :: L) w) : ∃ q : {q : Nat × Nat × Sl UInt8 // q.2.2.xs = T.x.text},
    sat B (stC p d Z (.pointer (some ⟨q.1.1, 0, none⟩)) (.pointer (some ⟨q.1.2.1, 0, none⟩)) T.pos T.num T.off :: slotC q.1.2.1 d (T.x.sr Z S q.1.2.2) :: roS q.1.2.2 :: mgO q.1.1 T.M :: L) w := by
  obtain ⟨q, hq⟩ := sat_ex.1 h
  obtain ⟨e, h2⟩ := sat_says.1 (sat_star.1 hq)
  exact ⟨⟨q, e⟩, h2⟩
theorem stO_close {B : World} {L : List HProp} {p d Z S : Nat} {w : World} (T : SS) (m s : Nat) (t : Sl UInt8) (e : t.xs = T.x.text)
    (h : sat B (stC p d Z (.pointer (some ⟨m, 0, none⟩)) (.pointer (some ⟨s, 0, none⟩)) T.pos T.num T.off :: slotC s d (T.x.sr Z S t) :: roS t :: mgO m T.M :: L) w) : sat B (stO p d Z S T :: L) w :=
  sat_ex.2 ⟨(m, s, t), sat_star.2 (sat_says.2 ⟨e, h⟩)⟩

/-- What a mount tells and leaves. -/
structure Mo where
  e : Int
  D : Dv
  T : SS
def noSt : SS := ⟨⟨0, [], 0, false⟩, Mg.new 0 0, 0, 0, false⟩
def mountEnd (D : Dv) (x : SP) (M : Mg) (pos num : Nat) (torn : Bool) : Mo :=
  if torn = true then
    if (chkP D x (textOf M.last M.E.dump)).e ≠ 0 then ⟨(chkP D x (textOf M.last M.E.dump)).e, (chkP D x (textOf M.last M.E.dump)).D, noSt⟩
    else ⟨0, (chkP D x (textOf M.last M.E.dump)).D, ⟨(chkP D x (textOf M.last M.E.dump)).x, M, 0, 0, false⟩⟩
  else ⟨0, D, ⟨x, M, pos, num, false⟩⟩
def mountLog (D : Dv) (x : SP) (l behind : List (List UInt8)) (S : Sta) : Mo :=
  if l.any strayOf = true ∨ behind.any strayOf = true then ⟨13, D, noSt⟩
  else if ((Mg.new (capOf D.Z D.S) (replayGo l x.count (l.length + 1) 0 0 S).S.last).load (putsOf (replayGo l x.count (l.length + 1) 0 0 S).S.vs)).1 ≠ 0 then ⟨13, D, noSt⟩
  else mountEnd D x ((Mg.new (capOf D.Z D.S) (replayGo l x.count (l.length + 1) 0 0 S).S.last).load (putsOf (replayGo l x.count (l.length + 1) 0 0 S).S.vs)).2
    (replayGo l x.count (l.length + 1) 0 0 S).pos (replayGo l x.count (l.length + 1) 0 0 S).num ((replayGo l x.count (l.length + 1) 0 0 S).torn || decide (0 < behind.length))
def mountIn (D : Dv) (x : SP) : Mo :=
  match parseOf x.text with
  | none => ⟨13, D, noSt⟩
  | some S => mountLog { D with reads := D.reads + ((logOf D (D.Z - 2 * midOf D.Z) (2 * midOf D.Z) false).1.length : Int) + ((logOf D (D.Z - 2 * midOf D.Z) (2 * midOf D.Z) false).2.length : Int) } x (logOf D (D.Z - 2 * midOf D.Z) (2 * midOf D.Z) false).1 (logOf D (D.Z - 2 * midOf D.Z) (2 * midOf D.Z) false).2 S
def mountOf (D : Dv) : Mo :=
  match openAt D 0 (midOf D.Z) (2 * midOf D.Z) 2 with
  | none => ⟨13, D, noSt⟩
  | some s => if ({ D with reads := readsAt D 0 (midOf D.Z) (2 * midOf D.Z) 2 } : Dv).flush.1 ≠ 0 then ⟨({ D with reads := readsAt D 0 (midOf D.Z) (2 * midOf D.Z) 2 } : Dv).flush.1, ({ D with reads := readsAt D 0 (midOf D.Z) (2 * midOf D.Z) 2 } : Dv).flush.2, noSt⟩
    else mountIn ({ D with reads := readsAt D 0 (midOf D.Z) (2 * midOf D.Z) 2 } : Dv).flush.2 ⟨s.1, s.2.1, s.2.2, false⟩
end Go.SL
namespace Go.SL
open Go.Proofs
set_option synthInstance.maxSize 4000
set_option synthInstance.maxHeartbeats 400000
set_option maxRecDepth 4000
set_option maxHeartbeats 2000000

theorem read_len : ∀ (bs : List (List UInt8)) (i n : Nat) (t : List UInt8) {t' : List UInt8} {n' : Nat}, readGo i n t bs = some (t', n') → t'.length ≤ t.length + 40 * bs.length ∧ (n ≤ 1099511627776 → n' ≤ 1099511627776)
  | [], _, _, _, _, _, h => by cases h
  | p :: ps, i, n, t, t', n', h => by
    rw [readGo] at h
    split at h
    · cases h
    rename_i hd
    have hd2 : decOk p := Decidable.not_not.1 hd
    split at h
    · have := read_len ps _ _ _ h
      rw [List.length_cons]; exact ⟨by omega, fun _ => this.2 hd2.2.2.1⟩
    split at h
    · cases h
    split at h
    · have h1 := read_len ps _ _ _ h
      have h2 := cutB_body p hd2
      rw [List.length_append] at h1
      rw [List.length_cons]; exact ⟨by omega, h1.2⟩
    split at h
    · cases h; exact ⟨by omega, fun h => h⟩
    · cases h
theorem open_len {D : Dv} (ok : D.ok) {low mid high : Nat} (hl : low < mid ∧ mid < high ∧ high ≤ D.Z) : ∀ (k : Nat) {s : Nat × List UInt8 × Nat}, k ≤ 2 → openAt D low mid high k = some s → s.1 < 2 ∧ s.2.1.length ≤ 800000 ∧ s.2.2 ≤ 1099511627776
  | 0, s, _, h => by cases h; simp
  | k + 1, s, hk, h => by
    rw [openAt] at h
    obtain ⟨y, hy, hs⟩ := Option.bind_eq_some_iff.1 h
    have ih := open_len ok hl k (by omega) hy
    unfold slotStep at hs
    split at hs
    · cases hs
    split at hs
    · rename_i t n hr
      have h1 := read_len _ _ _ _ hr
      have h2 := slotB_len ok (i := k) hl
      simp only [List.length_nil] at h1
      split at hs
      · cases hs; dsimp only; exact ⟨by omega, by omega, h1.2 (by omega)⟩
      · cases hs; exact ih
    · cases hs; exact ih

theorem vset_keys_eq {α : Type} (vs : List (Int × α)) (k : Int) (x : α) : (vset vs k x).map (·.1) = if k ∈ vs.map (·.1) then vs.map (·.1) else vs.map (·.1) ++ [k] := by
  unfold vset
  by_cases h : (vs.any fun e => e.1 == k) = true
  · rw [if_pos h]
    have hm : k ∈ vs.map (·.1) := by
      obtain ⟨e, he, hk⟩ := List.any_eq_true.1 h
      exact List.mem_map.2 ⟨e, he, by simpa using hk⟩
    rw [if_pos hm, List.map_map]
    apply List.map_congr_left
    intro e _
    simp only [Function.comp]
    split
    · rename_i he; exact he.symm
    · rfl
  · rw [if_neg h]
    have hm : ¬ k ∈ vs.map (·.1) := by
      intro hk
      obtain ⟨e, he, rfl⟩ := List.mem_map.1 hk
      exact h (List.any_eq_true.2 ⟨e, he, by simp⟩)
    rw [if_neg hm, List.map_append]; rfl
theorem vset_len {α : Type} (vs : List (Int × α)) (k : Int) (x : α) : (vset vs k x).length ≤ vs.length + 1 := by
  unfold vset
  split
  · rw [List.length_map]; omega
  · rw [List.length_append]; simp
theorem vset_mem {α : Type} {vs : List (Int × α)} {k : Int} {x : α} {e : Int × α} (h : e ∈ vset vs k x) : e = (k, x) ∨ e ∈ vs := by
  unfold vset at h
  split at h
  · obtain ⟨y, hy, rfl⟩ := List.mem_map.1 h
    split
    · exact .inl rfl
    · exact .inr hy
  · rcases List.mem_append.1 h with h | h
    · exact .inr h
    · exact .inl (List.mem_singleton.1 h)
theorem vset_nodup {α : Type} {vs : List (Int × α)} (k : Int) (x : α) (h : (vs.map (·.1)).Nodup) : ((vset vs k x).map (·.1)).Nodup := by
  rw [vset_keys_eq]
  split
  · exact h
  · rename_i hk
    exact List.nodup_append.2 ⟨h, by simp, fun a ha b hb => by rw [List.mem_singleton.1 hb]; rintro rfl; exact hk ha⟩

def SBd (S : Sta) (n : Nat) : Prop := (0 ≤ S.last ∧ S.last ≤ 1099511627776) ∧ S.vs.length ≤ n ∧ (S.vs.map (·.1)).Nodup ∧ ∀ e ∈ S.vs, 0 ≤ e.1 ∧ e.1 < 4294967296
theorem parseGo_bd : ∀ (f : Nat) (l : List UInt8) (vs : List (Int × List UInt8)), (vs.map (·.1)).Nodup → (∀ e ∈ vs, (0 : Int) ≤ e.1 ∧ e.1 < 4294967296) →
    (parseGo f l vs).length * 44 ≤ vs.length * 44 + l.length + 43 ∧ ((parseGo f l vs).map (·.1)).Nodup ∧ ∀ e ∈ parseGo f l vs, (0 : Int) ≤ e.1 ∧ e.1 < 4294967296
  | 0, l, vs, hn, hk => ⟨by rw [parseGo]; omega, hn, hk⟩
  | f + 1, l, vs, hn, hk => by
    rw [parseGo]
    split
    · exact ⟨by omega, hn, hk⟩
    · have h1 := vset_len vs ((getR l 4 : Nat) : Int) ((l.take 44).drop 4)
      have hg : getR l 4 < 4294967296 := getR_lt _ 4
      have ih := parseGo_bd f (l.drop 44) (vset vs ((getR l 4 : Nat) : Int) ((l.take 44).drop 4)) (vset_nodup _ _ hn) (fun e he => by
        rcases vset_mem he with rfl | h
        · dsimp only; omega
        · exact hk e h)
      rw [List.length_drop] at ih
      refine ⟨?_, ih.2⟩
      by_cases h44 : 44 ≤ l.length
      · omega
      · rw [List.drop_of_length_le (by omega)] at ih ⊢
        have h2 : parseGo f ([] : List UInt8) (vset vs ((getR l 4 : Nat) : Int) ((l.take 44).drop 4)) = vset vs ((getR l 4 : Nat) : Int) ((l.take 44).drop 4) := by
          cases f with
          | zero => rfl
          | succ f => rw [parseGo, if_pos (show ([] : List UInt8).length = 0 from rfl)]
        rw [h2]
        omega
theorem parse_bd {t : List UInt8} {S : Sta} (h : parseOf t = some S) : SBd S (t.length / 44 + 1) := by
  unfold parseOf at h
  split at h
  · cases h; exact ⟨⟨by decide, by dsimp only; omega⟩, by simp, by simp, by simp⟩
  split at h
  · cases h
  cases h
  have hb := parseGo_bd (t.length + 1) (t.drop 8) [] (by simp) (by simp)
  rw [List.length_drop] at hb
  exact ⟨⟨by dsimp only; omega, by dsimp only; omega⟩, by simp only [List.length_nil] at hb; dsimp only; omega, hb.2⟩
theorem putsIn_bd : ∀ (ps : List PV) (vs : List (Int × List UInt8)), (vs.map (·.1)).Nodup → (∀ e ∈ vs, (0 : Int) ≤ e.1 ∧ e.1 < 4294967296) → (∀ p ∈ ps, (0 : Int) ≤ p.1 ∧ p.1 < 4294967296) →
    (ps.foldl (fun vs p => vset vs p.1 p.2) vs).length ≤ vs.length + ps.length ∧ ((ps.foldl (fun vs p => vset vs p.1 p.2) vs).map (·.1)).Nodup ∧ ∀ e ∈ ps.foldl (fun vs p => vset vs p.1 p.2) vs, (0 : Int) ≤ e.1 ∧ e.1 < 4294967296
  | [], vs, hn, hk, _ => ⟨by simp, hn, hk⟩
  | p :: ps, vs, hn, hk, hp => by
    have h1 := vset_len vs p.1 p.2
    have ih := putsIn_bd ps (vset vs p.1 p.2) (vset_nodup _ _ hn) (fun e he => by
      rcases vset_mem he with rfl | h
      · exact hp p (List.mem_cons_self ..)
      · exact hk e h) (fun q hq => hp q (List.mem_cons_of_mem _ hq))
    rw [List.foldl_cons, List.length_cons]
    exact ⟨by omega, ih.2⟩
theorem txs_bd : ∀ (l : List TV) (S : Sta) (n : Nat), SBd S n → (∀ t ∈ l, 0 < t.1 ∧ t.1 ≤ 1099511627776) → (∀ t ∈ l, ∀ p ∈ t.2, 0 ≤ p.1 ∧ p.1 ≤ 1048576) → SBd (S.txs l) (n + (l.map (·.2.length)).sum)
  | [], S, n, h, _, _ => h
  | t :: l, S, n, h, ht, hp => by
    obtain ⟨h1, h2, h3, h4⟩ := h
    have hb := putsIn_bd t.2 S.vs h3 h4 (fun p hpm => by have := hp t (List.mem_cons_self ..) p hpm; omega)
    have h1t := ht t (List.mem_cons_self ..)
    have ih := txs_bd l (S.tx t) (n + t.2.length) ⟨⟨by unfold Sta.tx; dsimp only; omega, by unfold Sta.tx; dsimp only; omega⟩, by unfold Sta.tx; dsimp only; omega, hb.2⟩ (fun u hu => ht u (List.mem_cons_of_mem _ hu)) (fun u hu => hp u (List.mem_cons_of_mem _ hu))
    rw [List.map_cons, List.sum_cons, ← Nat.add_assoc]
    exact ih
theorem replay_bd (l : List (List UInt8)) (count : Nat) : ∀ (f pos num : Nat) (S : Sta) (n : Nat), SBd S n → SBd (replayGo l count f pos num S).S (n + 33 * f) ∧ (replayGo l count f pos num S).pos ≤ pos + (l.length + 1) * f ∧ (replayGo l count f pos num S).num ≤ num + f
  | 0, pos, num, S, n, h => by rw [replayGo]; exact ⟨h, by simp, by simp⟩
  | f + 1, pos, num, S, n, h => by
    have mono : ∀ {S : Sta} {n m : Nat}, SBd S n → n ≤ m → SBd S m := fun h hm => ⟨h.1, Nat.le_trans h.2.1 hm, h.2.2⟩
    rw [replayGo, Nat.mul_add, Nat.mul_one, Nat.mul_add, Nat.mul_one]
    split
    · exact ⟨mono h (by omega), by dsimp only; omega, by dsimp only; omega⟩
    split
    · exact ⟨mono h (by omega), by dsimp only; omega, by dsimp only; omega⟩
    rename_i bn ep k t hd
    split
    · exact ⟨mono h (by omega), by dsimp only; omega, by dsimp only; omega⟩
    obtain ⟨⟨-, hk⟩, gn, g⟩ := decode_good hd
    rw [List.length_drop] at hk
    have hb := g.blocks
    unfold blocksN at hb
    have h2 := txs_bd t S n h g.time (fun u hu p hp => ((g.puts u hu).2 p hp).1)
    have ih := replay_bd l count f (pos + k) (num + 1) (S.txs t) _ h2
    generalize (l.length + 1) * f = X at ih ⊢
    exact ⟨mono ih.1 (by omega), by omega, by omega⟩
end Go.SL
namespace Go.SL
open Go.Proofs
set_option synthInstance.maxSize 4000
set_option synthInstance.maxHeartbeats 400000
set_option maxRecDepth 4000
set_option maxHeartbeats 2000000

theorem nodup_range : ∀ (n : Nat) (l : List Int), l.Nodup → (∀ k ∈ l, 0 ≤ k ∧ k < n) → l.length ≤ n
  | 0, l, _, h => by
    cases l with
    | nil => simp
    | cons a l => have := h a (List.mem_cons_self ..); omega
  | n + 1, l, hn, h => by
    have h1 := nodup_range n (l.erase (n : Int)) (hn.erase _) (fun k hk => by
      have h2 := (hn.mem_erase_iff).1 hk
      have h3 := h k h2.2
      have h4 := h2.1
      omega)
    by_cases hm : (n : Int) ∈ l
    · rw [List.length_erase_of_mem hm] at h1; omega
    · rw [List.erase_of_not_mem hm] at h1; omega
theorem rises_range : ∀ (ps : List PV) (n : Int), rises ps = true → (∀ p, ps.head? = some p → 0 ≤ p.1) → (∀ p, ps.getLast? = some p → p.1 < n) → ∀ p ∈ ps, 0 ≤ p.1 ∧ p.1 < n
  | [], _, _, _, _, _, h => by cases h
  | [a], n, _, h0, h1, p, hp => by
    rw [List.mem_singleton.1 hp]
    exact ⟨h0 a rfl, h1 a rfl⟩
  | a :: b :: l, n, hr, h0, h1, p, hp => by
    rw [rises, Bool.and_eq_true, decide_eq_true_eq] at hr
    have ih := rises_range (b :: l) n hr.2 (fun q hq => by cases hq; have := h0 a rfl; omega) (fun q hq => h1 q (by rw [List.getLast?_cons_cons]; exact hq))
    rcases List.mem_cons.1 hp with rfl | hp
    · have := ih b (List.mem_cons_self ..)
      have h00 := h0 _ rfl
      omega
    · exact ih p hp

/-- What a map of versions is. -/
structure EOk (E : Em) (c : Nat) : Prop where
  b : 1 ≤ E.blocks ∧ E.blocks ≤ 1048576
  nod : (E.vs.map (·.1)).Nodup
  key : ∀ e ∈ E.vs, (0 ≤ e.1 ∧ e.1 < E.blocks) ∧ (0 < e.2.length ∧ e.2.length ≤ c) ∧ ∀ p ∈ e.2, p.2.length = 40
theorem EOk.mono {E : Em} {c d : Nat} (h : EOk E c) (hd : c ≤ d) : EOk E d := ⟨h.b, h.nod, fun e he => ⟨(h.key e he).1, ⟨(h.key e he).2.1.1, by have := (h.key e he).2.1.2; omega⟩, (h.key e he).2.2⟩⟩
theorem vget_memE {α : Type} {vs : List (Int × α)} {k : Int} {x : α} (h : vget vs k = some x) : (k, x) ∈ vs := by
  unfold vget at h
  obtain ⟨e, he, rfl⟩ := Option.map_eq_some_iff.1 h
  have h1 := List.find?_some he
  have h2 : e.1 = k := by simpa using h1
  exact h2 ▸ List.mem_of_find?_eq_some he
theorem vget_vset_eq {α : Type} (vs : List (Int × α)) (k j : Int) (x : α) : vget (vset vs k x) j = if j = k then some x else vget vs j := by
  split
  · rename_i h; rw [h, vget_vset]
  · rename_i h; exact vget_vset_ne vs x h
theorem puts_ok : ∀ (ps : List PV) (t : Int) (bl : Nat) (la : Int) (vs : List (Int × List PV)) (c : Nat), EOk ⟨bl, vs, la⟩ c → (∀ p ∈ ps, (0 ≤ p.1 ∧ p.1 < bl) ∧ p.2.length = 40) → EOk ⟨bl, ps.foldl (fun vs p => vput vs p.1 (t, p.2)) vs, la⟩ (c + ps.length)
  | [], _, _, _, _, _, h, _ => h
  | p :: ps, t, bl, la, vs, c, h, hp => by
    have h1 := hp p (List.mem_cons_self ..)
    have ih := puts_ok ps t bl la (vput vs p.1 (t, p.2)) (c + 1) ⟨h.b, vset_nodup _ _ h.nod, fun e he => ?_⟩ (fun q hq => hp q (List.mem_cons_of_mem _ hq))
    · rw [List.foldl_cons, List.length_cons, Nat.add_comm ps.length, ← Nat.add_assoc]; exact ih
    · rcases vset_mem he with rfl | he
      · refine ⟨h1.1, ⟨by simp, ?_⟩, fun q hq => ?_⟩
        · dsimp only
          rw [List.length_append, List.length_singleton]
          cases hg : vget vs p.1 with
          | none => simp
          | some x => have := (h.key _ (vget_memE hg)).2.1.2; dsimp only [Option.getD_some] at this ⊢; omega
        · rcases List.mem_append.1 hq with hq | hq
          · cases hg : vget vs p.1 with
            | none => rw [hg] at hq; cases hq
            | some x => rw [hg] at hq; exact (h.key _ (vget_memE hg)).2.2 q hq
          · rw [List.mem_singleton.1 hq]; exact h1.2
      · have := h.key e he
        exact ⟨this.1, ⟨this.2.1.1, by have := this.2.1.2; omega⟩, this.2.2⟩
theorem apply_no {E : Em} {t : Int} {ps : List PV} (h : (E.apply t ps).1 ≠ 0) : (E.apply t ps).2 = E := by
  unfold Em.apply at h ⊢
  repeat' split
  all_goals first | rfl | skip
  rename_i h1 h2 h3 h4 h5
  rw [if_neg h1, if_neg h2, if_neg h3, if_neg h4, if_neg h5] at h
  exact absurd rfl h
/-- What is taken in was as it should be. -/
theorem apply_yes {E : Em} {t : Int} {ps : List PV} (h : (E.apply t ps).1 = 0) : (E.apply t ps).2 = E.put t ps ∧ (E.last < t ∧ t ≤ 1099511627776) ∧ rises ps = true ∧ 0 < ps.length ∧ ∀ p ∈ ps, (0 ≤ p.1 ∧ p.1 < E.blocks) ∧ p.2.length = 40 := by
  unfold Em.apply at h ⊢
  split at h
  · exact absurd h (show (1 : Int) ≠ 0 by decide)
  split at h
  · exact absurd h (show (11 : Int) ≠ 0 by decide)
  split at h
  · exact absurd h (show (1 : Int) ≠ 0 by decide)
  split at h
  · exact absurd h (show (2 : Int) ≠ 0 by decide)
  split at h
  · exact absurd h (show (3 : Int) ≠ 0 by decide)
  rename_i h1 h2 h3 h4 h5
  have hr : rises ps = true ∧ 0 < ps.length := by simpa [List.length_pos_iff] using h3
  have hl : ∀ p, ps.head? = some p → 0 ≤ p.1 := fun p hp => by
    rw [hp] at h4; dsimp only [Option.getD_some] at h4; omega
  have hg : ∀ p, ps.getLast? = some p → p.1 < (E.blocks : Int) := fun p hp => by
    rw [hp] at h4; dsimp only [Option.getD_some] at h4; omega
  refine ⟨?_, by omega, hr.1, hr.2, fun p hp => ⟨rises_range ps E.blocks hr.1 hl hg p hp, ?_⟩⟩
  · rw [if_neg h1, if_neg h2, if_neg h3, if_neg h4, if_neg h5]
  · apply Classical.byContradiction
    intro hc
    exact h5 (List.any_eq_true.2 ⟨p, hp, decide_eq_true hc⟩)
theorem apply_ok {E : Em} {t : Int} {ps : List PV} {c : Nat} (h : EOk E c) : EOk (E.apply t ps).2 (c + ps.length) := by
  by_cases h0 : (E.apply t ps).1 = 0
  · obtain ⟨h1, h2, h3, h4, h5⟩ := apply_yes h0
    rw [h1]
    have := puts_ok ps t E.blocks E.last E.vs c h h5
    exact ⟨this.b, this.nod, this.key⟩
  · rw [apply_no h0]; exact h.mono (by omega)
theorem apply_geo (E : Em) (t : Int) (ps : List PV) : (E.apply t ps).2.blocks = E.blocks := by
  by_cases h0 : (E.apply t ps).1 = 0
  · rw [(apply_yes h0).1]; rfl
  · rw [apply_no h0]
theorem EOk.keys {E : Em} {c : Nat} (h : EOk E c) : ∀ k : Int, k ∈ E.vs.map (·.1) → 0 ≤ k ∧ k < E.blocks := by
  intro k hk
  obtain ⟨e, he, rfl⟩ := List.mem_map.1 hk
  exact (h.key e he).1
theorem EOk.len {E : Em} {c : Nat} (h : EOk E c) : E.vs.length ≤ E.blocks := by
  have := nodup_range E.blocks (E.vs.map (·.1)) h.nod h.keys
  rwa [List.length_map] at this
theorem EOk.dumpLen {E : Em} {c : Nat} (h : EOk E c) : E.dump.length ≤ E.blocks := by
  unfold Em.dump
  split
  · simp
  · rw [List.length_map, sortI_len, List.length_map]; exact h.len
theorem EOk.dumpOk {E : Em} {c : Nat} (h : EOk E c) : ∀ x ∈ E.dump, (0 ≤ x.1 ∧ x.1 < E.blocks) ∧ x.2.length = 40 := by
  intro x hx
  unfold Em.dump at hx
  rw [if_neg (by have := h.b; omega)] at hx
  obtain ⟨k, hk, rfl⟩ := List.mem_map.1 hx
  have hk2 := sortI_mem.1 hk
  refine ⟨h.keys k hk2, ?_⟩
  obtain ⟨l, hl, hm⟩ := vget_mem hk2
  have hkey := h.key _ hm
  dsimp only
  rw [hl, Option.getD_some]
  have hne : l ≠ [] := fun e => by rw [e] at hkey; simp at hkey
  rw [List.getLast?_eq_some_getLast hne, Option.getD_some]
  exact hkey.2.2 _ (List.getLast_mem hne)
theorem EOk.hk {E : Em} {c : Nat} (h : EOk E c) (hc : c ≤ 2000000) : ∀ e ∈ E.vs, I64 e.1 ∧ 0 < e.2.length ∧ e.2.length ≤ 2000000 := fun e he => by
  have h1 := h.key e he
  have h2 := h.b
  exact ⟨⟨by omega, by omega⟩, by omega, by omega⟩
theorem EOk.hd {E : Em} {c : Nat} (h : EOk E c) : ∀ x ∈ E.dump, (0 ≤ x.1 ∧ x.1 ≤ 1048576) ∧ x.2.length = 40 := fun x hx => by
  have h1 := h.dumpOk x hx
  have h2 := h.b
  exact ⟨by omega, h1.2⟩
theorem new_ok {n : Nat} (hn : 1 ≤ n ∧ n ≤ 1048576) (last : Int) : EOk (Mg.new n last).E 0 := ⟨hn, by simp [Mg.new], by simp [Mg.new]⟩
theorem load_ok {n : Nat} (hn : 1 ≤ n ∧ n ≤ 1048576) (last : Int) (ps : List PV) : EOk ((Mg.new n last).load ps).2.E ps.length ∧ ((Mg.new n last).load ps).2.E.blocks = n ∧ ((Mg.new n last).load ps).2.last = last := by
  unfold Mg.load
  split
  · exact ⟨(new_ok hn last).mono (by omega), rfl, rfl⟩
  · split
    · exact ⟨(new_ok hn last).mono (by omega), rfl, rfl⟩
    · refine ⟨?_, ?_, rfl⟩
      · have := apply_ok (t := (Mg.new n last).base) (ps := ps) (new_ok hn last)
        rw [Nat.zero_add] at this; exact this
      · exact apply_geo _ _ _
end Go.SL
namespace Go.SL
open Go.Proofs

theorem leN_congr {a b : List UInt8} : ∀ n, (∀ i, i < n → a[i]? = b[i]?) → leN a n = leN b n
  | 0, _ => rfl
  | n + 1, h => by rw [leN, leN, leN_congr n (fun i hi => h i (by omega)), h n (by omega)]
theorem leN_leB_aux (v m : Nat) : ∀ n, n ≤ m → leN (leB v m) n = v % 2 ^ (8 * n)
  | 0, _ => by simp [leN, Nat.mod_one]
  | n + 1, h => by
    rw [leN, leN_leB_aux v m n (by omega)]
    have e : (leB v m)[n]? = some (UInt8.ofNat (v / 2 ^ (8 * n) % 256)) := by
      rw [List.getElem?_eq_getElem (by rw [leB_length]; omega)]
      simp only [leB, List.getElem_map, List.getElem_range]
    rw [e, Option.getD_some, UInt8.toNat_ofNat']
    have e2 : 2 ^ (8 * (n + 1)) = 2 ^ (8 * n) * 256 := by rw [Nat.mul_add, Nat.pow_add]
    rw [e2, Nat.mod_mul]
    have e3 : v / 2 ^ (8 * n) % 256 % 2 ^ 8 = v / 2 ^ (8 * n) % 256 := Nat.mod_eq_of_lt (by omega)
    rw [e3, Nat.mul_comm (2 ^ (8 * n))]
theorem leN_leB {v n : Nat} (h : v < 2 ^ (8 * n)) : leN (leB v n) n = v := by rw [leN_leB_aux v n n (Nat.le_refl _), Nat.mod_eq_of_lt h]
theorem getR_leB {v n : Nat} (h : v < 2 ^ (8 * n)) (r : List UInt8) : getR (leB v n ++ r) n = v := by
  unfold getR
  rw [if_neg (by simp [leB_length])]
  rw [leN_congr (b := leB v n) n (fun i hi => List.getElem?_append_left (by rw [leB_length]; exact hi)), leN_leB h]

theorem encP_shape (k e s l : Nat) (b : List UInt8) : encP k e s l b = UInt8.ofNat k :: UInt8.ofNat b.length :: (leB e 4 ++ (leB s 8 ++ (leB l 4 ++ (b ++ List.replicate (60 - (18 + b.length)) 0)))) := by
  unfold encP
  rw [encH_len]
  simp [encH]
theorem encB_shape (k e s l : Nat) (b : List UInt8) : encB k e s l b = UInt8.ofNat k :: UInt8.ofNat b.length :: (leB e 4 ++ (leB s 8 ++ (leB l 4 ++ (b ++ (List.replicate (60 - (18 + b.length)) 0 ++ leB (crcOf (encP k e s l b)) 4))))) := by
  unfold encB
  rw [encP_shape]
  simp
theorem drop_pre {α : Type} (a b : List α) (n : Nat) (h : a.length = n) : (a ++ b).drop n = b := by subst h; simp
theorem take_pre {α : Type} (a b : List α) (n : Nat) (h : a.length = n) : (a ++ b).take n = a := by subst h; simp

theorem cut_enc {k e s l : Nat} {b : List UInt8} (h : encOk k e s l) (hb : b.length ≤ 40) : cutB (encB k e s l b) = (k, e, s, l, b) := by
  obtain ⟨⟨k0, k1⟩, he, hs, hl⟩ := h
  unfold cutB
  have h0 : (encB k e s l b)[0]? = some (UInt8.ofNat k) := by rw [encB_shape]; rfl
  have h1 : (encB k e s l b)[1]? = some (UInt8.ofNat b.length) := by rw [encB_shape]; rfl
  rw [h0, h1]
  simp only [Option.getD_some, UInt8.toNat_ofNat']
  have d2 : (encB k e s l b).drop 2 = leB e 4 ++ (leB s 8 ++ (leB l 4 ++ (b ++ (List.replicate (60 - (18 + b.length)) 0 ++ leB (crcOf (encP k e s l b)) 4)))) := by rw [encB_shape]; rfl
  have d6 : (encB k e s l b).drop 6 = leB s 8 ++ (leB l 4 ++ (b ++ (List.replicate (60 - (18 + b.length)) 0 ++ leB (crcOf (encP k e s l b)) 4))) := by
    rw [show 6 = 2 + 4 from rfl, ← List.drop_drop, d2, drop_pre _ _ 4 (leB_length e 4)]
  have d14 : (encB k e s l b).drop 14 = leB l 4 ++ (b ++ (List.replicate (60 - (18 + b.length)) 0 ++ leB (crcOf (encP k e s l b)) 4)) := by
    rw [show 14 = 6 + 8 from rfl, ← List.drop_drop, d6, drop_pre _ _ 8 (leB_length s 8)]
  have d18 : (encB k e s l b).drop 18 = b ++ (List.replicate (60 - (18 + b.length)) 0 ++ leB (crcOf (encP k e s l b)) 4) := by
    rw [show 18 = 14 + 4 from rfl, ← List.drop_drop, d14, drop_pre _ _ 4 (leB_length l 4)]
  rw [d2, d6, d14, getR_leB (by omega), getR_leB (by omega), getR_leB (by omega)]
  have hbl : b.length % 2 ^ 8 = b.length := Nat.mod_eq_of_lt (by omega)
  have hkl : k % 2 ^ 8 = k := Nat.mod_eq_of_lt (by omega)
  rw [hbl, hkl, List.drop_take, d18, Nat.add_sub_cancel_left, take_pre _ _ _ rfl]
theorem dec_enc {k e s l : Nat} {b : List UInt8} (h : encOk k e s l) (hb : b.length ≤ 40) : decOk (encB k e s l b) := by
  unfold decOk
  rw [cut_enc h hb]
  refine ⟨encB_len k e s l b hb, ?_, h.2.2.1, h, rfl⟩
  have h1 : (encB k e s l b)[1]? = some (UInt8.ofNat b.length) := by rw [encB_shape]; rfl
  rw [h1, Option.getD_some, UInt8.toNat_ofNat', Nat.mod_eq_of_lt (by omega)]
  exact hb
theorem enc_first (k e s l : Nat) (b : List UInt8) (hk : k < 256) : ((encB k e s l b)[0]?.getD 0).toNat = k := by
  have h0 : (encB k e s l b)[0]? = some (UInt8.ofNat k) := by rw [encB_shape]; rfl
  rw [h0, Option.getD_some, UInt8.toNat_ofNat', Nat.mod_eq_of_lt (by omega)]

end Go.SL
namespace Go.SL
open Go.Proofs

def allPuts (l : List TV) : List PV := l.flatMap (·.2)
theorem allPuts_cons (t : TV) (l : List TV) : allPuts (t :: l) = t.2 ++ allPuts l := rfl
theorem encPuts_eq (ep num : Nat) : ∀ l : List TV, encPuts ep num l = (allPuts l).map fun p => encB 1 ep num p.1.toNat p.2
  | [] => rfl
  | t :: l => by rw [encPuts_cons, allPuts_cons, List.map_append, encPuts_eq ep num l]
def goodPut (p : PV) : Prop := (0 ≤ p.1 ∧ p.1 ≤ 1048576) ∧ p.2.length = 40
theorem row_puts {ep num : Nat} (he : ep ≤ 4294967295) (hn : num ≤ 1099511627776) (R : List (List UInt8)) : ∀ (qs : List PV) (i : Nat) (f : Nat × Nat) (acc : List PV), (∀ p ∈ qs, goodPut p) → (i = 0 ∨ f = (ep, num)) →
    rowGo i f acc (qs.map (fun p => encB 1 ep num p.1.toNat p.2) ++ R) = rowGo (i + qs.length) (if qs = [] then f else (ep, num)) (acc ++ qs) R
  | [], i, f, acc, _, _ => by simp
  | p :: qs, i, f, acc, hg, hf => by
    obtain ⟨⟨h0, h1⟩, h40⟩ := hg p (List.mem_cons_self ..)
    have hok : encOk 1 ep num p.1.toNat := ⟨by decide, he, hn, by omega⟩
    rw [List.map_cons, List.cons_append, rowGo, if_neg (fun h => h (dec_enc hok (by omega))), cut_enc hok (by omega)]
    dsimp only
    have h2 : ¬ (i ≠ 0 ∧ (ep ≠ f.1 ∨ num ≠ f.2)) := by
      rintro ⟨hi, hx⟩
      rcases hf with h | h
      · exact hi h
      · subst h; simp at hx
    rw [if_neg h2, if_neg (by decide)]
    have h3 : (if i = 0 then (ep, num) else f) = (ep, num) := by
      split
      · rfl
      · rename_i hi; rcases hf with h | h
        · exact absurd h hi
        · exact h
    rw [h3, row_puts he hn R qs (i + 1) (ep, num) _ (fun q hq => hg q (List.mem_cons_of_mem _ hq)) (.inr rfl)]
    have h4 : (((p.1.toNat : Nat) : Int), p.2) = p := by rw [Int.toNat_of_nonneg h0]
    rw [h4]
    have h5 : (if qs = [] then (ep, num) else (ep, num)) = (ep, num) := by split <;> rfl
    rw [h5, if_neg (by simp), List.append_assoc]
    simp only [List.length_cons, List.singleton_append]
    rw [show i + 1 + qs.length = i + (qs.length + 1) from by omega]
theorem row_end {ep num n : Nat} {body : List UInt8} (hok : encOk 2 ep num n) (hb : body.length ≤ 40) (R : List (List UInt8)) (i : Nat) (f : Nat × Nat) (acc : List PV) (hf : i = 0 ∨ f = (ep, num)) :
    rowGo i f acc (encB 2 ep num n body :: R) = (acc, (2, ep, num, n, body), true) := by
  rw [rowGo, if_neg (fun h => h (dec_enc hok hb)), cut_enc hok hb]
  dsimp only
  have h2 : ¬ (i ≠ 0 ∧ (ep ≠ f.1 ∨ num ≠ f.2)) := by
    rintro ⟨hi, hx⟩
    rcases hf with h | h
    · exact hi h
    · subst h; simp at hx
  rw [if_neg h2, if_pos (by decide)]

def Chain : Int → List TV → Prop
  | _, [] => True
  | q, t :: ts => (q ≤ t.1 ∧ t.1 - q ≤ 65535) ∧ t.2.length ≤ 16 ∧ Chain t.1 ts
theorem stepB_len : ∀ (q : Int) (l : List TV), (stepB q l).length = 2 * l.length
  | _, [] => rfl
  | q, t :: l => by rw [stepB, List.length_cons, List.length_cons, stepB_len t.1 l, List.length_cons]; omega
theorem chain_of : ∀ {l : List TV} {q z : Int}, stepsGo q l = true → orderOk z l = true → (∀ t, l.head? = some t → q ≤ t.1) → Chain q l
  | [], _, _, _, _, _ => trivial
  | t :: ts, q, z, hs, ho, hq => by
    rw [stepsGo] at hs
    rw [orderOk] at ho
    split at hs
    · cases hs
    split at ho
    · cases ho
    rw [Bool.and_eq_true] at ho
    rename_i h1 h2
    refine ⟨⟨hq t rfl, by omega⟩, by omega, chain_of hs ho.2 (fun u hu => ?_)⟩
    cases ts with
    | nil => cases hu
    | cons v vs =>
      simp only [List.head?_cons, Option.some.injEq] at hu
      subst hu
      have h3 := ho.2
      rw [orderOk] at h3
      split at h3
      · cases h3
      · omega
theorem cut_txs : ∀ (r : List TV) (i : Nat) (q : Nat) (sp cp : List UInt8) (acc : List TV), sp.length = 2 * i → cp.length = i → Chain q r → (∀ t ∈ r, 0 ≤ t.1) → (i = 0 → ∀ t, r.head? = some t → t.1 = q) →
    cutTxs r.length i q (sp ++ stepB q r) (cp ++ r.map fun t => UInt8.ofNat t.2.length) (allPuts r) acc = some (acc ++ r, [])
  | [], i, q, sp, cp, acc, _, _, _, _, _ => by simp [cutTxs, allPuts]
  | t :: r, i, q, sp, cp, acc, hs, hc, ⟨⟨hq, hd⟩, h16, hch⟩, h0, hi => by
    rw [List.length_cons, cutTxs]
    have hci : (cp ++ (t :: r).map fun t => UInt8.ofNat t.2.length)[i]? = some (UInt8.ofNat t.2.length) := by
      rw [List.getElem?_append_right (by omega), hc, Nat.sub_self]; rfl
    have hs0 : (sp ++ stepB q (t :: r))[2 * i]? = some (UInt8.ofNat (t.1 - q).toNat) := by
      rw [List.getElem?_append_right (by omega), hs, Nat.sub_self]; rfl
    have hs1 : (sp ++ stepB q (t :: r))[2 * i + 1]? = some (UInt8.ofNat ((t.1 - q).toNat / 256)) := by
      rw [List.getElem?_append_right (by omega), hs, Nat.add_sub_cancel_left]; rfl
    have hcn : (UInt8.ofNat t.2.length).toNat = t.2.length := by rw [UInt8.toNat_ofNat', Nat.mod_eq_of_lt (by omega)]
    have hcond : ¬ ((allPuts (t :: r)).length < (UInt8.ofNat t.2.length).toNat ∨ (i = 0 ∧ (((sp ++ stepB q (t :: r))[0]?.getD 0) ||| ((sp ++ stepB q (t :: r))[1]?.getD 0)) ≠ 0)) := by
      rintro (h | ⟨hi0, h⟩)
      · rw [hcn, allPuts_cons, List.length_append] at h; omega
      · subst hi0
        have hz := hi rfl t rfl
        rw [Nat.mul_zero] at hs0 hs1
        rw [hs0, hs1, hz] at h
        simp at h
    rw [hci, hs0, hs1, Option.getD_some, Option.getD_some, Option.getD_some, if_neg hcond, hcn]
    have htm : q + (UInt8.ofNat (t.1 - q).toNat).toNat + 256 * (UInt8.ofNat ((t.1 - q).toNat / 256)).toNat = t.1.toNat := by
      rw [UInt8.toNat_ofNat', UInt8.toNat_ofNat']; omega
    have ht0 := h0 t (List.mem_cons_self ..)
    rw [htm, allPuts_cons, List.drop_left, List.take_left]
    have e1 : ((t.1.toNat : Nat) : Int) = t.1 := Int.toNat_of_nonneg ht0
    have ih := cut_txs r (i + 1) t.1.toNat (sp ++ [UInt8.ofNat (t.1 - q).toNat, UInt8.ofNat ((t.1 - q).toNat / 256)]) (cp ++ [UInt8.ofNat t.2.length]) (acc ++ [t]) (by simp; omega) (by simp; omega) (by rw [e1]; exact hch)
      (fun u hu => h0 u (List.mem_cons_of_mem _ hu)) (by omega)
    rw [e1] at ih ⊢
    have e2 : sp ++ stepB q (t :: r) = sp ++ [UInt8.ofNat (t.1 - q).toNat, UInt8.ofNat ((t.1 - q).toNat / 256)] ++ stepB t.1 r := by rw [stepB]; simp
    rw [e2, List.map_cons]
    simp only [List.append_assoc, List.singleton_append] at ih ⊢
    exact ih

theorem body_len {l : List TV} : (bodyOf l).length = 9 + 3 * l.length := by
  unfold bodyOf
  simp only [List.length_append, leB_length, List.length_cons, List.length_nil, stepB_len, List.length_map]; omega
theorem checkB_parts {num : Int} {l : List TV} (h : checkB num l = true) : orderOk 0 l = true ∧ stepsGo (firstOf l) l = true := by
  have h1 : ¬ (num < 1 ∨ 1099511627776 < num ∨ l.length = 0 ∨ 8 < l.length ∨ orderOk 0 l = false ∨ 33 < blocksN l) := by
    intro hc; rw [checkB, if_pos hc] at h; cases h
  rw [checkB, if_neg h1] at h
  refine ⟨?_, h⟩
  cases hc : orderOk 0 l with
  | true => rfl
  | false => exact absurd (.inr (.inr (.inr (.inr (.inl hc))))) h1
theorem allPuts_mem {l : List TV} {p : PV} (h : p ∈ allPuts l) : ∃ t ∈ l, p ∈ t.2 := by simpa [allPuts] using h
theorem batch_of {num : Nat} {l : List TV} (h : checkB num l = true) (ep : Nat) : batchOf (2, ep, num, (allPuts l).length, bodyOf l) (allPuts l) = some l := by
  have g := checkB_good h
  obtain ⟨ho, hs⟩ := checkB_parts h
  have hl0 := g.len0
  have hl8 := g.len1
  obtain ⟨t, r, rfl⟩ : ∃ t r, l = t :: r := by cases l with
    | nil => simp at hl0
    | cons t r => exact ⟨t, r, rfl⟩
  have hft : firstOf (t :: r) = t.1 := rfl
  have htt := g.time t (List.mem_cons_self ..)
  have h8 : (bodyOf (t :: r))[8]?.getD 0 = UInt8.ofNat (t :: r).length := by
    unfold bodyOf
    rw [List.getElem?_append_left (by simp [leB_length, stepB_len]), List.getElem?_append_left (by simp [leB_length]), List.getElem?_append_right (by simp [leB_length]), leB_length]; rfl
  have h8n : (UInt8.ofNat (t :: r).length).toNat = (t :: r).length := by rw [UInt8.toNat_ofNat', Nat.mod_eq_of_lt (by omega)]
  unfold batchOf
  dsimp only
  rw [if_neg (by rw [body_len]; simp), h8, h8n, body_len, if_neg (by simp)]
  have hN : leN (bodyOf (t :: r)) 8 = t.1.toNat := by
    rw [leN_congr (b := leB t.1.toNat 8) 8 (fun i hi => by
      unfold bodyOf
      rw [List.getElem?_append_left (by simp [leB_length, stepB_len]; omega), List.getElem?_append_left (by simp [leB_length]; omega), List.getElem?_append_left (by simp [leB_length]; omega)]; rfl), leN_leB (by omega)]
  have e1 : ((bodyOf (t :: r)).take (9 + 2 * (t :: r).length)).drop 9 = stepB t.1 (t :: r) := by
    unfold bodyOf
    rw [take_pre _ _ _ (by simp only [List.length_append, leB_length, List.length_cons, List.length_nil, stepB_len]), drop_pre _ _ 9 (by simp [leB_length])]; rfl
  have e2 : (bodyOf (t :: r)).drop (9 + 2 * (t :: r).length) = (t :: r).map fun t => UInt8.ofNat t.2.length := by
    unfold bodyOf
    rw [drop_pre _ _ _ (by simp only [List.length_append, leB_length, List.length_cons, List.length_nil, stepB_len])]
  have hmin : min (leN (bodyOf (t :: r)) 8) 4611686018427387904 = t.1.toNat := by rw [hN]; omega
  rw [hmin, e1, e2]
  have e3 : ((t.1.toNat : Nat) : Int) = t.1 := Int.toNat_of_nonneg (by omega)
  have hcut := cut_txs (t :: r) 0 t.1.toNat [] [] [] rfl rfl (by rw [e3]; exact chain_of hs ho (fun u hu => by cases hu; exact Int.le_refl _)) (fun u hu => by have := g.time u hu; omega) (fun _ u hu => by cases hu; rw [e3])
  rw [e3] at hcut
  simp only [List.nil_append] at hcut
  rw [hcut]
  dsimp only
  rw [if_pos ⟨rfl, h⟩]
theorem enc_len_le {l : List TV} (h : blocksN l ≤ 33) : (allPuts l).length ≤ 32 := by
  have : (allPuts l).length = (l.map (·.2.length)).sum := by
    unfold allPuts; rw [List.length_flatMap]
  unfold blocksN at h
  omega
theorem decode_enc {ep num : Nat} {l : List TV} (h : checkB num l = true) (he : ep ≤ 4294967295) (R : List (List UInt8)) : decodeOf (encBatch ep num l ++ R) = some (num, ep, (encBatch ep num l).length, l) := by
  have g := checkB_good h
  have hl8 := g.len1
  have hn := g.num1
  have hp := enc_len_le g.blocks
  have hlen : (encPuts ep num l).length = (allPuts l).length := by rw [encPuts_eq, List.length_map]
  have hok : encOk 2 ep num (allPuts l).length := ⟨by decide, he, by omega, by omega⟩
  have hrow : rowGo 0 (0, 0) [] (encBatch ep num l ++ R) = (allPuts l, (2, ep, num, (allPuts l).length, bodyOf l), true) := by
    unfold encBatch
    rw [hlen, encPuts_eq, List.append_assoc, row_puts he (by omega) _ (allPuts l) 0 (0, 0) [] (fun p hp => by
      obtain ⟨t, ht, hpt⟩ := allPuts_mem hp
      exact (g.puts t ht).2 p hpt) (.inl rfl)]
    rw [List.nil_append, List.singleton_append, row_end hok (by rw [body_len]; omega)]
    by_cases hq : allPuts l = []
    · rw [hq]; exact .inl rfl
    · rw [if_neg hq]; exact .inr rfl
  unfold decodeOf
  rw [hrow, if_neg (by simp)]
  dsimp only
  rw [batch_of h ep, Option.map_some]
  unfold encBatch
  rw [List.length_append, hlen]; rfl
end Go.SL
namespace Go.SL
open Go.Proofs
set_option synthInstance.maxSize 4000
set_option synthInstance.maxHeartbeats 400000
set_option maxRecDepth 4000
set_option maxHeartbeats 2000000

def nowOf (vs : List (Int × List PV)) (k : Int) : Option (List UInt8) := (vget vs k).map fun l => (l.getLast?.getD (0, [])).2
/-- A list by key says what the newest versions say. -/
structure Same (vs : List (Int × List UInt8)) (es : List (Int × List PV)) : Prop where
  n1 : (vs.map (·.1)).Nodup
  n2 : (es.map (·.1)).Nodup
  eq : ∀ k, nowOf es k = vget vs k
theorem vget_none {α : Type} {vs : List (Int × α)} {k : Int} : vget vs k = none ↔ k ∉ vs.map (·.1) := by
  constructor
  · intro h hm
    obtain ⟨x, hx, _⟩ := vget_mem hm
    rw [h] at hx; cases hx
  · intro h
    cases hg : vget vs k with
    | none => rfl
    | some x => exact absurd (List.mem_map.2 ⟨_, vget_memE hg, rfl⟩) h
theorem Same.keys {vs : List (Int × List UInt8)} {es : List (Int × List PV)} (h : Same vs es) : (vs.map (·.1)).Perm (es.map (·.1)) := by
  rw [List.perm_ext_iff_of_nodup h.n1 h.n2]
  intro k
  have h1 := h.eq k
  have h2 : vget vs k = none ↔ vget es k = none := by
    rw [← h1]; unfold nowOf; cases vget es k <;> simp
  rw [vget_none, vget_none] at h2
  constructor
  · intro hk; apply Classical.byContradiction; intro hc; exact (h2.2 hc) hk
  · intro hk; apply Classical.byContradiction; intro hc; exact (h2.1 hc) hk
theorem sortI_perm {a b : List Int} (h : a.Perm b) : sortI a = sortI b := by
  have e : ∀ l : List Int, (sortI l).Pairwise (fun a b => decide (a ≤ b) = true) := fun l => List.pairwise_mergeSort (fun a b c h1 h2 => by simp at h1 h2 ⊢; omega) (fun a b => by simp; omega) l
  refine List.Perm.eq_of_pairwise (fun a b _ _ h1 h2 => ?_) (e a) (e b) (((List.mergeSort_perm a _).trans h).trans (List.mergeSort_perm b _).symm)
  simp at h1 h2; omega
theorem Same.dump {vs : List (Int × List UInt8)} {E : Em} (h : Same vs E.vs) (hb : 1 ≤ E.blocks) : E.dump = putsOf vs := by
  unfold Em.dump putsOf
  rw [if_neg (by omega), sortI_perm h.keys.symm]
  apply List.map_congr_left
  intro k hk
  have h1 := h.eq k
  unfold nowOf at h1
  rw [← h1]
  cases hg : vget E.vs k with
  | none => 
    have hm := (vget_none.1 hg)
    exact absurd ((h.keys.mem_iff).1 (sortI_mem.1 hk)) hm
  | some l => rfl
theorem nowOf_vput (vs : List (Int × List PV)) (k j : Int) (x : PV) : nowOf (vput vs k x) j = if j = k then some x.2 else nowOf vs j := by
  unfold nowOf vput
  rw [vget_vset_eq]
  split
  · rw [Option.map_some, List.getLast?_append]; simp
  · rfl
theorem Same.put {vs : List (Int × List UInt8)} {es : List (Int × List PV)} (h : Same vs es) (k : Int) (t : Int) (d : List UInt8) : Same (vset vs k d) (vput es k (t, d)) :=
  ⟨vset_nodup _ _ h.n1, vset_nodup _ _ h.n2, fun j => by rw [nowOf_vput, vget_vset_eq, h.eq]⟩
theorem Same.puts (t : Int) : ∀ (ps : List PV) {vs : List (Int × List UInt8)} {es : List (Int × List PV)}, Same vs es → Same (ps.foldl (fun vs p => vset vs p.1 p.2) vs) (ps.foldl (fun vs p => vput vs p.1 (t, p.2)) es)
  | [], _, _, h => h
  | p :: ps, _, _, h => Same.puts t ps (h.put p.1 t p.2)
/-- Lists that say the same. -/
structure Alike (a b : List (Int × List UInt8)) : Prop where
  n1 : (a.map (·.1)).Nodup
  n2 : (b.map (·.1)).Nodup
  eq : ∀ k, vget a k = vget b k
theorem Alike.same {a b : List (Int × List UInt8)} {es : List (Int × List PV)} (h : Alike a b) (s : Same b es) : Same a es := ⟨h.n1, s.n2, fun k => by rw [s.eq, h.eq]⟩
theorem putsOf_keys (vs : List (Int × List UInt8)) : (putsOf vs).map (·.1) = sortI (vs.map (·.1)) := by unfold putsOf; rw [List.map_map]; exact List.map_id _
theorem sortI_nodup {l : List Int} (h : l.Nodup) : (sortI l).Nodup := (List.mergeSort_perm l _).nodup_iff.2 h
theorem vget_map_keys {f : Int → List UInt8} : ∀ (ks : List Int) (k : Int), k ∈ ks → vget (ks.map fun k => (k, f k)) k = some (f k)
  | [], _, h => by cases h
  | a :: ks, k, h => by
    unfold vget
    rw [List.map_cons, List.find?_cons]
    by_cases hk : a = k
    · subst hk; simp
    · have : ((a, f a).1 == k) = false := by simpa using hk
      rw [this]
      rcases List.mem_cons.1 h with rfl | h
      · exact absurd rfl hk
      · exact vget_map_keys ks k h
theorem putsOf_alike {vs : List (Int × List UInt8)} (h : (vs.map (·.1)).Nodup) : Alike (putsOf vs) vs := by
  refine ⟨by rw [putsOf_keys]; exact sortI_nodup h, h, fun k => ?_⟩
  by_cases hk : k ∈ vs.map (·.1)
  · obtain ⟨x, hx, _⟩ := vget_mem hk
    unfold putsOf
    rw [vget_map_keys _ k (sortI_mem.2 hk), hx]; rfl
  · rw [vget_none.2 hk, vget_none, putsOf_keys]
    exact fun h => hk (sortI_mem.1 h)
/-- A list put together element by element. -/
theorem put_all : ∀ (l vs : List (Int × List UInt8)), (l.map (·.1)).Nodup → (vs.map (·.1)).Nodup → ((l.foldl (fun vs p => vset vs p.1 p.2) vs).map (·.1)).Nodup ∧ ∀ k, vget (l.foldl (fun vs p => vset vs p.1 p.2) vs) k = (vget l k).or (vget vs k)
  | [], vs, _, hn => ⟨hn, fun k => rfl⟩
  | p :: l, vs, hl, hn => by
    rw [List.map_cons, List.nodup_cons] at hl
    have ih := put_all l (vset vs p.1 p.2) hl.2 (vset_nodup _ _ hn)
    rw [List.foldl_cons]
    refine ⟨ih.1, fun k => ?_⟩
    rw [ih.2, vget_vset_eq]
    by_cases hk : k = p.1
    · subst hk
      have h0 : vget l p.1 = none := vget_none.2 hl.1
      have h1 : vget (p :: l) p.1 = some p.2 := by unfold vget; simp
      rw [h0, h1, if_pos rfl]; rfl
    · rw [if_neg hk]
      have h1 : vget (p :: l) k = vget l k := by
        unfold vget
        rw [List.find?_cons]
        have : (p.1 == k) = false := by simpa using Ne.symm hk
        rw [this]
      rw [h1]
theorem put_alike {l : List (Int × List UInt8)} (h : (l.map (·.1)).Nodup) : Alike (l.foldl (fun vs p => vset vs p.1 p.2) []) l := by
  have := put_all l [] h (by simp)
  exact ⟨this.1, h, fun k => by rw [this.2]; cases vget l k <;> rfl⟩

end Go.SL
namespace Go.SL
open Go.Proofs

def encF (f : Fr) : List UInt8 := encB f.1 f.2.1 f.2.2.1 f.2.2.2.1 f.2.2.2.2
def slotX (n : Nat) (text : List UInt8) : List (List UInt8) := (framesOf n text).map encF
def chunkF (n : Nat) (text : List UInt8) (i : Nat) : Fr := (1, 0, n, 0, (text.drop (40 * i)).take 40)
theorem slotX_shape (n : Nat) (text : List UInt8) : slotX n text = encF (3, 0, n, 0, []) :: (((List.range ((text.length + 39) / 40)).map fun i => encF (chunkF n text i)) ++ [encF (2, 0, n, (text.length + 39) / 40, tailOf text)]) := by
  unfold slotX framesOf
  rw [List.cons_append, List.map_cons, List.map_append, List.map_map]; rfl
theorem tailOf_len (t : List UInt8) : (tailOf t).length = 8 := by simp [tailOf, leB_length]
theorem chunk_len (n : Nat) (text : List UInt8) (i : Nat) : (chunkF n text i).2.2.2.2.length ≤ 40 := by simp [chunkF]; omega
theorem slotX_kind {n : Nat} {text : List UInt8} {p : List UInt8} (h : p ∈ slotX n text) : p.length = 64 ∧ 1 ≤ (p[0]?.getD 0).toNat ∧ (p[0]?.getD 0).toNat ≤ 3 := by
  rw [slotX_shape] at h
  simp only [List.mem_cons, List.mem_append, List.mem_map, List.not_mem_nil, or_false] at h
  rcases h with rfl | ⟨i, -, rfl⟩ | rfl
  · exact ⟨encB_len _ _ _ _ _ (by simp), by unfold encF; dsimp only; rw [enc_first _ _ _ _ _ (by decide)]; decide⟩
  · exact ⟨encB_len _ _ _ _ _ (chunk_len n text i), by unfold encF chunkF; dsimp only; rw [enc_first _ _ _ _ _ (by decide)]; decide⟩
  · exact ⟨encB_len _ _ _ _ _ (by rw [tailOf_len]; decide), by unfold encF; dsimp only; rw [enc_first _ _ _ _ _ (by decide)]; decide⟩

theorem read_head {n : Nat} (hn : n ≤ 1099511627776) (R : List (List UInt8)) : readGo 0 0 [] (encF (3, 0, n, 0, []) :: R) = readGo 1 n [] R := by
  have hok : encOk 3 0 n 0 := ⟨by decide, by decide, hn, by decide⟩
  unfold encF
  rw [readGo_cons (dec_enc hok (by simp)) (cut_enc hok (by simp)), if_pos ⟨rfl, rfl⟩]
theorem read_chunks {n : Nat} (hn : n ≤ 1099511627776) (text : List UInt8) (R : List (List UInt8)) : ∀ (m j : Nat),
    readGo (1 + j) n (text.take (40 * j)) (((List.range' j m).map fun i => encF (chunkF n text i)) ++ R) = readGo (1 + j + m) n (text.take (40 * (j + m))) R
  | 0, j => by simp
  | m + 1, j => by
    have hok : encOk 1 0 n 0 := ⟨by decide, by decide, hn, by decide⟩
    rw [List.range'_succ, List.map_cons, List.cons_append]
    unfold encF chunkF
    rw [readGo_cons (dec_enc hok (by simp; omega)) (cut_enc hok (by simp; omega)), if_neg (by simp), if_neg (by omega), if_pos rfl]
    have e : text.take (40 * j) ++ (text.drop (40 * j)).take 40 = text.take (40 * (j + 1)) := by
      rw [show 40 * (j + 1) = 40 * j + 40 from by omega, List.take_add]
    rw [e]
    have ih := read_chunks hn text R m (j + 1)
    unfold encF chunkF at ih
    rw [show 1 + j + 1 = 1 + (j + 1) from by omega, ih, show 1 + (j + 1) + m = 1 + j + (m + 1) from by omega, show j + 1 + m = j + (m + 1) from by omega]
theorem read_slot {n : Nat} (hn : n ≤ 1099511627776) {text : List UInt8} (ht : text.length ≤ 1000000) (R : List (List UInt8)) : readGo 0 0 [] (slotX n text ++ R) = some (text, n) := by
  rw [slotX_shape, List.cons_append, read_head hn, List.append_assoc, List.singleton_append, List.range_eq_range']
  have h := read_chunks hn text (encF (2, 0, n, (text.length + 39) / 40, tailOf text) :: R) ((text.length + 39) / 40) 0
  rw [Nat.mul_zero, List.take_zero, Nat.add_zero, Nat.zero_add] at h
  rw [h]
  have hok : encOk 2 0 n ((text.length + 39) / 40) := ⟨by decide, by decide, hn, by omega⟩
  unfold encF
  rw [readGo_cons (dec_enc hok (by rw [tailOf_len]; decide)) (cut_enc hok (by rw [tailOf_len]; decide)), if_neg (by simp), if_neg (by omega), if_neg (by decide)]
  rw [List.take_of_length_le (show text.length ≤ 40 * ((text.length + 39) / 40) from by omega)]
  rw [if_pos ⟨rfl, by omega, rfl⟩]
end Go.SL
namespace Go.SL
open Go.Proofs

/-- The zones from a on hold a row, in order, as much in each as goes in. -/
def laid (D : Dv) (a n : Nat) (X : List (List UInt8)) : Prop := X.length ≤ n * D.S ∧ ∀ i, i < n → zoneOf D (a + i) = (X.drop (i * D.S)).take D.S
def Dv.live (D : Dv) : Prop := D.off = false ∧ D.cut = false
def Dv.good (D : Dv) : Prop := ∀ z ∈ D.zs, z.2 = z.1.length

theorem begin_live {D : Dv} (h : D.live) : D.begin = (true, { D with ops := D.ops + 1 }) := by
  unfold Dv.begin
  rw [if_neg (by rw [h.1, h.2]; simp), h.2]
  simp
theorem zoneOf_set (D : Dv) (j z : Nat) (x : List (List UInt8) × Nat) (hj : j < D.zs.length) (o : Int) : zoneOf { D with ops := o, zs := D.zs.set j x } z = if z = j then x.1 else zoneOf D z := by
  unfold zoneOf
  dsimp only
  by_cases h : z = j
  · subst h; rw [if_pos rfl, List.getElem?_set_self hj]; rfl
  · rw [if_neg h, List.getElem?_set_ne (Ne.symm h)]
/-- A block is laid in a zone that has room. -/
theorem append_live {D : Dv} (h : D.live) (ok : D.ok) {j : Nat} (hj : j < D.Z) {p : List UInt8} (hp : p.length = 64) (hr : (zoneOf D j).length < D.S) :
    ∃ g, D.append (j : Int) p = (((zoneOf D j).length : Int), 0, { D with ops := D.ops + 1, zs := D.zs.set j (zoneOf D j ++ [p], g) }) := by
  unfold Dv.append
  rw [begin_live h, if_pos (by omega), if_neg (by omega), if_neg (by simp)]
  simp only [Int.toNat_natCast]
  rw [if_neg (show ¬ D.S ≤ (D.zs[j]?.getD ([], 0)).1.length from by unfold zoneOf at hr; omega)]
  exact ⟨_, rfl⟩
theorem laid_snoc {D : Dv} {a n : Nat} {X : List (List UInt8)} (hl : laid D a n X) (h : D.live) (ok : D.ok) {p : List UInt8} (hp : p.length = 64) (hn : a + n ≤ D.Z) (hr : X.length < n * D.S) :
    ∃ D', D.append ((a + X.length / D.S : Nat) : Int) p = ((D.append ((a + X.length / D.S : Nat) : Int) p).1, 0, D') ∧ D'.live ∧ D'.ok ∧ (D'.Z = D.Z ∧ D'.S = D.S ∧ D'.reads = D.reads) ∧ laid D' a n (X ++ [p]) ∧ (∀ z, (z < a ∨ a + n ≤ z) → zoneOf D' z = zoneOf D z) := by
  have s0 := ok.s0
  have hS : 0 < D.S := by omega
  have hq : X.length / D.S < n := (Nat.div_lt_iff_lt_mul hS).2 hr
  have hdm := Nat.div_add_mod X.length D.S
  have hmod := Nat.mod_lt X.length hS
  generalize hk : X.length / D.S = k at hq hdm ⊢
  have hks : k * D.S = D.S * k := Nat.mul_comm _ _
  have hzk := hl.2 k hq
  have hzl : (X.drop (k * D.S)).length = X.length % D.S := by rw [List.length_drop]; omega
  have hz2 : zoneOf D (a + k) = X.drop (k * D.S) := by rw [hzk, List.take_of_length_le (by omega)]
  have hjn : a + k < D.zs.length := by have := ok.n; omega
  obtain ⟨g, he⟩ := append_live h ok (j := a + k) (by omega) hp (by rw [hz2, hzl]; exact hmod)
  refine ⟨{ D with ops := D.ops + 1, zs := D.zs.set (a + k) (zoneOf D (a + k) ++ [p], g) }, by rw [he], h, ?_, ⟨rfl, rfl, rfl⟩, ⟨?_, fun i hi => ?_⟩, fun z hz => ?_⟩
  · have := Dv.append_ok ok ((a + k : Nat) : Int) p
    rw [he] at this; exact this
  · show (X ++ [p]).length ≤ n * D.S
    rw [List.length_append, List.length_singleton]; omega
  · show zoneOf _ (a + i) = ((X ++ [p]).drop (i * D.S)).take D.S
    rw [zoneOf_set D (a + k) (a + i) _ hjn]
    by_cases hik : i = k
    · subst hik
      rw [if_pos rfl, hz2, List.drop_append_of_le_length (by omega)]
      rw [List.take_of_length_le (by rw [List.length_append, hzl, List.length_singleton]; omega)]
    · rw [if_neg (by omega), hl.2 i hi]
      by_cases hlt : i < k
      · have h1 : (i + 1) * D.S ≤ k * D.S := Nat.mul_le_mul_right _ hlt
        rw [Nat.add_mul, Nat.one_mul] at h1
        rw [List.drop_append_of_le_length (by omega), List.take_append_of_le_length (by rw [List.length_drop]; omega)]
      · have h1 : (k + 1) * D.S ≤ i * D.S := Nat.mul_le_mul_right _ (by omega)
        rw [Nat.add_mul, Nat.one_mul] at h1
        rw [List.drop_of_length_le (by omega), List.drop_of_length_le (by rw [List.length_append, List.length_singleton]; omega)]
  · rw [zoneOf_set D (a + k) z _ hjn, if_neg (by omega)]

/-- What a row of frames leaves. -/
structure Kept (D D' : Dv) (a n : Nat) : Prop where
  live : D'.live
  ok : D'.ok
  Z : D'.Z = D.Z
  S : D'.S = D.S
  reads : D'.reads = D.reads
  rest : ∀ z, (z < a ∨ a + n ≤ z) → zoneOf D' z = zoneOf D z
theorem Kept.trans {D D' D'' : Dv} {a n : Nat} (h : Kept D D' a n) (k : Kept D' D'' a n) : Kept D D'' a n :=
  ⟨k.live, k.ok, k.Z.trans h.Z, k.S.trans h.S, k.reads.trans h.reads, fun z hz => (k.rest z hz).trans (h.rest z hz)⟩
theorem laid_nil {D : Dv} {a n : Nat} (h : ∀ z, a ≤ z → z < a + n → zoneOf D z = []) : laid D a n [] := ⟨Nat.zero_le _, fun i hi => by rw [h (a + i) (by omega) (by omega)]; simp⟩
theorem flush_live {D : Dv} (h : D.live) : ∃ D', D.flush = (0, D') ∧ D'.good ∧ (D.ok → Kept D D' 0 0) := by
  refine ⟨D.flush.2, ?_, ?_, fun ok => ⟨?_, Dv.flush_ok ok, ?_, ?_, ?_, fun z _ => ?_⟩⟩ <;> unfold Dv.flush <;> rw [begin_live h, if_neg (by simp)]
  · intro z hz
    obtain ⟨y, hy, rfl⟩ := List.mem_map.1 hz
    rfl
  · exact h
  · unfold zoneOf
    dsimp only
    rw [List.getElem?_map]
    cases D.zs[z]? <;> rfl
/-- What stands in the zones is read as it was laid. -/
theorem blocksFrom_laid {D : Dv} : ∀ (n a : Nat) (X : List (List UInt8)), laid D a n X → blocksFrom D D.S n a = X
  | 0, a, X, h => by
    have := h.1
    rw [Nat.zero_mul] at this
    rw [List.eq_nil_of_length_eq_zero (by omega : X.length = 0)]; rfl
  | n + 1, a, X, h => by
    have h0 := h.2 0 (by omega)
    rw [Nat.zero_mul, List.drop_zero, Nat.add_zero] at h0
    have hx := h.1
    rw [Nat.add_mul, Nat.one_mul] at hx
    rw [blocksFrom, h0]
    by_cases hl : X.length < D.S
    · rw [if_pos (by rw [List.length_take]; omega), List.append_nil, List.take_of_length_le (by omega)]
    · rw [if_neg (by rw [List.length_take]; omega)]
      rw [blocksFrom_laid n (a + 1) (X.drop D.S) ⟨by rw [List.length_drop]; omega, fun i hi => ?_⟩, List.take_append_drop]
      rw [show a + 1 + i = a + (i + 1) from by omega, h.2 (i + 1) (by omega), List.drop_drop, Nat.add_mul, Nat.one_mul, Nat.add_comm D.S]
/-- Behind a crash of what is for good all is there. -/
theorem crashZ_good (picks torn : List Int) (k : Nat) (z : List (List UInt8) × Nat) (h : z.2 = z.1.length) : crashZ picks torn k z = z := by
  obtain ⟨l, g⟩ := z
  dsimp only at h
  subst h
  have hn : crashN picks k l.length l.length = l.length := by
    unfold crashN
    split
    · have := restOf_lt (pickOf picks k).1 ((l.length : Int) - l.length + 1) (by omega)
      omega
    · rfl
  have hl : crashL torn k l.length l = l := by
    unfold crashL
    rw [if_neg (by simp), List.take_length, List.append_nil]
  unfold crashZ
  dsimp only
  rw [hn, hl]
theorem crash_good {D : Dv} (h : D.good) (picks torn : List Int) : D.crash picks torn = { D with ops := 0, reads := 0, cut := false, left := 0, off := false } := by
  unfold Dv.crash
  have e : D.zs.mapIdx (crashZ picks torn) = D.zs := by
    apply List.ext_getElem (by simp)
    intro i h1 h2
    rw [List.getElem_mapIdx]
    exact crashZ_good picks torn i _ (h _ (List.getElem_mem h2))
  rw [e]
end Go.SL
namespace Go.SL
open Go.Proofs

theorem appGo_live {hi n : Nat} : ∀ (l : List (List UInt8)) (D : Dv) (X : List (List UInt8)) (pos i : Nat), X.length = pos + i → laid D hi n X → D.live → D.ok → (∀ p ∈ l, p.length = 64) → hi + n ≤ D.Z → X.length + l.length ≤ n * D.S →
    ∃ D', appGo hi pos D i l = (0, D') ∧ laid D' hi n (X ++ l) ∧ Kept D D' hi n
  | [], D, X, pos, i, _, hl, h, ok, _, _, _ => ⟨D, rfl, by simpa using hl, h, ok, rfl, rfl, rfl, fun _ _ => rfl⟩
  | p :: l, D, X, pos, i, hx, hl, h, ok, hf, hn, hr => by
    rw [List.length_cons] at hr
    obtain ⟨D1, he, h1, ok1, ⟨hZ, hS, hre⟩, hl1, hrest⟩ := laid_snoc hl h ok (hf p (List.mem_cons_self ..)) hn (by omega)
    obtain ⟨D2, he2, hl2, k2⟩ := appGo_live l D1 (X ++ [p]) pos (i + 1) (by rw [List.length_append, List.length_singleton]; omega) hl1 h1 ok1 (fun g hg => hf g (List.mem_cons_of_mem _ hg)) (by omega) (by rw [List.length_append, List.length_singleton, hS]; omega)
    refine ⟨D2, ?_, by simpa using hl2, ⟨k2.live, k2.ok, k2.Z.trans hZ, k2.S.trans hS, k2.reads.trans hre, fun z hz => (k2.rest z hz).trans (hrest z hz)⟩⟩
    have e : (hi : Int) + ((pos : Int) + i) / (D.S : Int) = ((hi + X.length / D.S : Nat) : Int) := by
      rw [hx]; push_cast; rfl
    rw [appGo, e, he, if_neg (by simp)]
    exact he2

theorem logOf_gap {D : Dv} : ∀ (n a : Nat), (∀ z, a ≤ z → z < a + n → zoneOf D z = []) → logOf D n a true = ([], [])
  | 0, _, _ => rfl
  | n + 1, a, h => by rw [logOf, h a (Nat.le_refl _) (by omega)]; simp [logOf_gap n (a + 1) (fun z h1 h2 => h z (by omega) (by omega))]
theorem logOf_laid {D : Dv} (hS : 0 < D.S) : ∀ (n a : Nat) (X : List (List UInt8)), laid D a n X → logOf D n a false = (X, [])
  | 0, a, X, h => by
    have := h.1
    rw [Nat.zero_mul] at this
    rw [List.eq_nil_of_length_eq_zero (by omega : X.length = 0)]; rfl
  | n + 1, a, X, h => by
    have h0 := h.2 0 (by omega)
    rw [Nat.zero_mul, List.drop_zero, Nat.add_zero] at h0
    have hx := h.1
    rw [Nat.add_mul, Nat.one_mul] at hx
    rw [logOf, h0]
    simp only [Bool.false_eq_true, if_false, Bool.false_or, List.nil_append]
    by_cases hl : X.length < D.S
    · rw [decide_eq_true (by rw [List.length_take]; omega), logOf_gap, List.append_nil, List.take_of_length_le (by omega)]
      intro z h1 h2
      have := h.2 (z - a) (by omega)
      rw [show a + (z - a) = z from by omega] at this
      have hm : 1 * D.S ≤ (z - a) * D.S := Nat.mul_le_mul_right _ (by omega)
      rw [this, List.drop_of_length_le (by omega)]; simp
    · rw [decide_eq_false (by rw [List.length_take]; omega)]
      rw [logOf_laid hS n (a + 1) (X.drop D.S) ⟨by rw [List.length_drop]; omega, fun i hi => ?_⟩, List.take_append_drop]
      rw [show a + 1 + i = a + (i + 1) from by omega, h.2 (i + 1) (by omega), List.drop_drop, Nat.add_mul, Nat.one_mul, Nat.add_comm D.S]

end Go.SL
namespace Go.SL
open Go.Proofs
set_option synthInstance.maxSize 4000
set_option synthInstance.maxHeartbeats 400000
set_option maxRecDepth 4000
set_option maxHeartbeats 2000000

theorem contains_stray (t : Sl (Sl UInt8)) (hl : t.xs.length ≤ 1000000) (h64 : ∀ j (h : j < t.xs.length), t.xs[j].xs.length = 64) :
    Spec Tryz.prog 42 #[t.val, .func (.func 43) #[] #[]] [roS t] (fun v L => v = .bool ((raws t.xs).any strayOf) ∧ L = []) :=
  contains_func t 43 strayOf hl (fun j hj => st_strange t.xs[j] (by rw [h64 j hj]; decide))

theorem logOf_mem {D : Dv} (ok : D.ok) : ∀ (n z : Nat) (g : Bool), (∀ b ∈ (logOf D n z g).1, b.length = 64) ∧ (∀ b ∈ (logOf D n z g).2, b.length = 64)
  | 0, _, _ => by simp [logOf]
  | n + 1, z, g => by
    have ih := logOf_mem ok n (z + 1) (g || decide ((zoneOf D z).length < D.S))
    rw [logOf]
    refine ⟨fun b hb => ?_, fun b hb => ?_⟩
    · rcases List.mem_append.1 hb with h | h
      · split at h
        · cases h
        · exact zoneOf_mem ok h
      · exact ih.1 b h
    · rcases List.mem_append.1 hb with h | h
      · split at h
        · exact zoneOf_mem ok h
        · cases h
      · exact ih.2 b h
theorem logOf_len {D : Dv} (ok : D.ok) : ∀ (n z : Nat) (g : Bool), (logOf D n z g).1.length + (logOf D n z g).2.length ≤ 192 * n
  | 0, _, _ => by simp [logOf]
  | n + 1, z, g => by
    have ih := logOf_len ok n (z + 1) (g || decide ((zoneOf D z).length < D.S))
    have hz := zoneOf_len ok z
    rw [logOf, List.length_append, List.length_append]
    cases g <;> simp at ih ⊢ <;> omega
def MPost (d Z S : Nat) (R : Mo) : Value → List HProp → Prop := fun v L =>
  (R.e ≠ 0 ∧ v = .tuple #[.pointer none, .int .i64 R.e] ∧ ∃ n, L = [devO d { R.D with reads := n }]) ∨
  (R.e = 0 ∧ ∃ p, v = .tuple #[.pointer (some ⟨p, 0, none⟩), .int .i64 0] ∧ L = [stO p d Z S R.T, devO d R.D])

theorem cap_ok {D : Dv} (ok : D.ok) : 1 ≤ capOf D.Z D.S ∧ capOf D.Z D.S ≤ 4200 := by
  have z0 := ok.z0
  have z1 := ok.z1
  have s0 := ok.s0
  have s1 := ok.s1
  have hm : midOf D.Z ≤ 24 := by unfold midOf; omega
  have hm2 : 3 ≤ midOf D.Z := by unfold midOf; omega
  have hp : midOf D.Z * D.S ≤ 24 * 192 := Nat.mul_le_mul hm (by omega)
  have hp2 : 3 * 96 ≤ midOf D.Z * D.S := Nat.mul_le_mul hm2 (by omega)
  unfold capOf
  omega
theorem chk_sp {D : Dv} {x : SP} {t : Sl UInt8} (ht : t.xs = x.text) (text new : Sl UInt8) (hnew : new.xs = text.xs) :
    ∃ t', chkOf D (x.sr D.Z D.S t) text new = ⟨(chkP D x text.xs).e, (chkP D x text.xs).x.sr D.Z D.S t', (chkP D x text.xs).D, decide ((chkP D x text.xs).e ≠ 0)⟩ ∧ t'.xs = (chkP D x text.xs).x.text := by
  obtain ⟨h1, t', h2, h3⟩ := save_sp (D := D) ht text new hnew
  have hW : chkW (saveOf (x.sr D.Z D.S t) D text new) (D.Z - 2 * midOf D.Z) (2 * midOf D.Z) = chW (savP D x text.xs) (D.Z - 2 * midOf D.Z) (2 * midOf D.Z) := by rw [h1]; rfl
  refine ⟨t', ?_, ?_⟩
  · rw [chk_eq, hW, h2]
    unfold chkP
    split
    · rfl
    · rfl
  · unfold chkP
    split <;> exact h3
theorem st_mount (d : Nat) (D : Dv) (ok : D.ok) (hc : ∀ s, openAt D 0 (midOf D.Z) (2 * midOf D.Z) 2 = some s → s.2.2 < 1099511627776) :
    Spec Tryz.prog 12 #[.pointer (some ⟨d, 0, none⟩)] [devO d D] (MPost d D.Z D.S (mountOf D)) := by
  have z0 := ok.z0
  have z1 := ok.z1
  have s0 := ok.s0
  have s1 := ok.s1
  have hmid : 2 * midOf D.Z < D.Z ∧ 3 ≤ midOf D.Z := by unfold midOf; omega
  have hlay : 0 < midOf D.Z ∧ midOf D.Z < 2 * midOf D.Z ∧ 2 * midOf D.Z ≤ D.Z := by omega
  refine enter1 Tryz.func12 rfl (by decide) (by decide) ?_
  intro B F
  dsimp only [lcA, lnA]
  repeat' first | refine adv ?_ | refine Side.go ?_ | refine Giv.mk fun _ => ?_ | refine All.mk fun q => ?_ | refine Fork.mk ?_ ?_ | (refine Two.mk (fun h => ?_) (fun h => ?_) <;> try first | contradiction | (exfalso; omega))
  refine CallG.use (dev_geometry d D ok) ?_
  rintro r M ⟨rfl, rfl⟩
  dsimp only [lcA, lnA]
  repeat' first | refine adv ?_ | refine Side.go ?_ | refine Giv.mk fun _ => ?_ | refine All.mk fun q => ?_ | refine Fork.mk ?_ ?_ | (refine Two.mk (fun h => ?_) (fun h => ?_) <;> try first | contradiction | (exfalso; omega))
  refine CallG.use (space_split D.Z D.S ⟨⟨by omega, by omega⟩, by omega, by omega⟩) ?_
  rintro r M ⟨rfl, rfl⟩
  dsimp only [lcA, lnA]
  repeat' first | refine adv ?_ | refine Side.go ?_ | refine Giv.mk fun _ => ?_ | refine All.mk fun q => ?_ | refine Fork.mk ?_ ?_ | (refine Two.mk (fun h => ?_) (fun h => ?_) <;> try first | contradiction | (exfalso; omega))
  obtain ⟨p, hp⟩ : ∃ b, b = q := ⟨q, rfl⟩
  subst hp
  refine CallG.use (slot_open d D ok 0 (midOf D.Z) (2 * midOf D.Z) hlay) ?_
  rintro v M (⟨hn, rfl, n, rfl⟩ | ⟨x, hx, ⟨hf, rfl, rfl⟩ | ⟨hf, s, t, ht, rfl, rfl⟩⟩)
  · dsimp only [lcA, lnA]
    repeat' first | refine adv ?_ | refine Side.go ?_ | refine Giv.mk fun _ => ?_ | refine All.mk fun q => ?_ | refine Fork.mk ?_ ?_ | (refine Two.mk (fun h => ?_) (fun h => ?_) <;> try first | contradiction | (exfalso; omega))
    have e : mountOf D = ⟨13, D, noSt⟩ := by rw [mountOf, hn]
    rw [e]
    refine endQ.twoW Tryz.results12 (.inl ⟨show (13 : Int) ≠ 0 by decide, rfl, n, rfl⟩) (fun w h => goes w h)
  · dsimp only [lcA, lnA]
    have e : mountOf D = ⟨({ D with reads := readsAt D 0 (midOf D.Z) (2 * midOf D.Z) 2 } : Dv).flush.1, ({ D with reads := readsAt D 0 (midOf D.Z) (2 * midOf D.Z) 2 } : Dv).flush.2, noSt⟩ := by
      rw [mountOf, hx]; dsimp only; rw [if_pos hf]
    rw [e]
    generalize ({ D with reads := readsAt D 0 (midOf D.Z) (2 * midOf D.Z) 2 } : Dv).flush = G at hf ⊢
    repeat' first | refine adv ?_ | refine Side.go ?_ | refine Giv.mk fun _ => ?_ | refine All.mk fun q => ?_ | refine Fork.mk ?_ ?_ | (refine Two.mk (fun h => ?_) (fun h => ?_) <;> try first | contradiction | (exfalso; omega))
    exact endQ.twoW Tryz.results12 (.inl ⟨hf, rfl, G.2.reads, rfl⟩) (fun w h => goes w h)
  · dsimp only [lcA, lnA]
    have hx2 := open_len ok hlay 2 (Nat.le_refl _) hx
    have hxc := hc x hx
    obtain ⟨inn, text, cn⟩ := x
    dsimp only at ht hx2 hxc ⊢
    have e : mountOf D = mountIn ({ D with reads := readsAt D 0 (midOf D.Z) (2 * midOf D.Z) 2 } : Dv).flush.2 ⟨inn, t.xs, cn, false⟩ := by
      rw [mountOf, hx]; dsimp only; rw [if_neg (by omega), ht]
    have ok1 := Dv.flush_ok (ok.reads (readsAt D 0 (midOf D.Z) (2 * midOf D.Z) 2))
    have hZS := Dv.flush_geo { D with reads := readsAt D 0 (midOf D.Z) (2 * midOf D.Z) 2 }
    rw [e]
    clear e hx hc
    generalize ({ D with reads := readsAt D 0 (midOf D.Z) (2 * midOf D.Z) 2 } : Dv).flush = G at hf ok1 hZS ⊢
    dsimp only at hZS
    have hf0 : G.1 = 0 := by omega
    rw [← hZS.1, ← hZS.2]
    rw [← hZS.1] at z0 z1 hmid hlay
    rw [← hZS.2] at s0 s1
    generalize G.2 = D1 at ok1 z0 z1 s0 s1 hmid hlay ⊢
    dsimp only [slotC]
    repeat' first | refine adv ?_ | refine Side.go ?_ | refine Giv.mk fun _ => ?_ | refine All.mk fun q => ?_ | refine Fork.mk ?_ ?_ | (refine Two.mk (fun h => ?_) (fun h => ?_) <;> try first | contradiction | (exfalso; omega))
    refine CallG.use (slot_load s d ⟨0, midOf D1.Z, 2 * midOf D1.Z, D1.S, inn, t, cn, false⟩) ?_
    rintro r M ⟨a0, c0, rfl, rfl⟩
    dsimp only [lcA, lnA]
    dsimp only [slotC]
    repeat' first | refine adv ?_ | refine Side.go ?_ | refine Giv.mk fun _ => ?_ | refine All.mk fun q => ?_ | refine Fork.mk ?_ ?_ | (refine Two.mk (fun h => ?_) (fun h => ?_) <;> try first | contradiction | (exfalso; omega))
    refine CallG.freeze (⟨a0, c0, t.xs⟩ : Sl UInt8) ?_
    refine CallG.use (st_parse (⟨a0, c0, t.xs⟩ : Sl UInt8)) ?_
    rintro v M (⟨hp0, rfl, rfl⟩ | ⟨S, b, hp0, rfl, rfl⟩)
    · dsimp only at hp0
      have e : mountIn D1 ⟨inn, t.xs, cn, false⟩ = ⟨13, D1, noSt⟩ := by rw [mountIn]; dsimp only; rw [hp0]
      rw [e]
      dsimp only [lcA, lnA]
      repeat' first | refine adv ?_ | refine Side.go ?_ | refine Giv.mk fun _ => ?_ | refine All.mk fun q => ?_ | refine Fork.mk ?_ ?_ | (refine Two.mk (fun h => ?_) (fun h => ?_) <;> try first | contradiction | (exfalso; omega))
      exact endQ.twoW Tryz.results12 (.inl ⟨show (13 : Int) ≠ 0 by decide, rfl, D1.reads, rfl⟩) (fun w h => goes w h)
    dsimp only at hp0
    have hbd := parse_bd hp0
    have e : mountIn D1 ⟨inn, t.xs, cn, false⟩ = mountLog { D1 with reads := D1.reads + ((logOf D1 (D1.Z - 2 * midOf D1.Z) (2 * midOf D1.Z) false).1.length : Int) + ((logOf D1 (D1.Z - 2 * midOf D1.Z) (2 * midOf D1.Z) false).2.length : Int) } ⟨inn, t.xs, cn, false⟩ (logOf D1 (D1.Z - 2 * midOf D1.Z) (2 * midOf D1.Z) false).1 (logOf D1 (D1.Z - 2 * midOf D1.Z) (2 * midOf D1.Z) false).2 S := by
      rw [mountIn]; dsimp only; rw [hp0]
    rw [e]
    clear e
    dsimp only [lcA, lnA]
    repeat' first | refine adv ?_ | refine Side.go ?_ | refine Giv.mk fun _ => ?_ | refine All.mk fun q => ?_ | refine Fork.mk ?_ ?_ | (refine Two.mk (fun h => ?_) (fun h => ?_) <;> try first | contradiction | (exfalso; omega))
    have e2m : ((2 * midOf D1.Z : Nat) : Int) = 2 * (midOf D1.Z : Int) := by omega
    have e0n : ((0 : Nat) : Int) = 0 := rfl
    refine CallG_conv (L' := stC p d D1.Z (.pointer none) (.pointer (some ⟨s, 0, none⟩)) 0 0 false :: devO d D1 :: staO b S :: slotC s d ⟨0, midOf D1.Z, 2 * midOf D1.Z, D1.S, inn, t, cn, false⟩ :: roS t :: F) (fun B w h => by dsimp only [stC, slotC]; simp only [e2m, e0n] at h ⊢; exact goes w h) ?_
    refine CallG.use (st_log p d D1 (.pointer none) (.pointer (some ⟨s, 0, none⟩)) 0 0 false ok1) ?_
    rintro r M ⟨l, u, hl, hu, rfl, rfl⟩
    dsimp only [lcA, lnA]
    have hlm := logOf_mem ok1 (D1.Z - 2 * midOf D1.Z) (2 * midOf D1.Z) false
    have hll := logOf_len ok1 (D1.Z - 2 * midOf D1.Z) (2 * midOf D1.Z) false
    have hlx : (logOf D1 (D1.Z - 2 * midOf D1.Z) (2 * midOf D1.Z) false).1.length = l.xs.length := by rw [← hl, raws_len]
    have hux : (logOf D1 (D1.Z - 2 * midOf D1.Z) (2 * midOf D1.Z) false).2.length = u.xs.length := by rw [← hu, raws_len]
    rw [hlx, hux]
    rw [hlx, hux] at hll
    rw [← hl, ← hu] at hlm ⊢
    clear hl hu hlx hux
    have ok2 := ok1.reads (D1.reads + (l.xs.length : Int) + (u.xs.length : Int))
    obtain ⟨D2, hD2⟩ : ∃ D2, D2 = ({ D1 with reads := D1.reads + (l.xs.length : Int) + (u.xs.length : Int) } : Dv) := ⟨_, rfl⟩
    have hZ2 : D1.Z = D2.Z := by rw [hD2]
    have hS2 : D1.S = D2.S := by rw [hD2]
    rw [← hD2] at ok2 ⊢
    rw [hZ2, hS2]
    rw [hZ2] at z0 z1 hmid hlay hll e2m
    rw [hS2] at s0 s1
    clear hD2 hZ2 hS2 ok1
    have h64l : ∀ j (h : j < l.xs.length), l.xs[j].xs.length = 64 := fun j hj => hlm.1 _ (List.mem_map.2 ⟨_, List.getElem_mem hj, rfl⟩)
    have h64u : ∀ j (h : j < u.xs.length), u.xs[j].xs.length = 64 := fun j hj => hlm.2 _ (List.mem_map.2 ⟨_, List.getElem_mem hj, rfl⟩)
    repeat' first | refine adv ?_ | refine Side.go ?_ | refine Giv.mk fun _ => ?_ | refine All.mk fun q => ?_ | refine Fork.mk ?_ ?_ | (refine Two.mk (fun h => ?_) (fun h => ?_) <;> try first | contradiction | (exfalso; omega))
    refine CallG.freeze l ?_
    refine CallG.use (contains_stray l (by omega) h64l) ?_
    rintro r M ⟨rfl, rfl⟩
    dsimp only [lcA, lnA]
    cases hs1 : (raws l.xs).any strayOf with
    | true =>
      have e : mountLog D2 ⟨inn, t.xs, cn, false⟩ (raws l.xs) (raws u.xs) S = ⟨13, D2, noSt⟩ := by rw [mountLog, if_pos (.inl hs1)]
      rw [e]
      repeat' first | refine adv ?_ | refine Side.go ?_ | refine Giv.mk fun _ => ?_ | refine All.mk fun q => ?_ | refine Fork.mk ?_ ?_ | (refine Two.mk (fun h => ?_) (fun h => ?_) <;> try first | contradiction | (exfalso; omega))
      exact endQ.twoW Tryz.results12 (.inl ⟨show (13 : Int) ≠ 0 by decide, rfl, D2.reads, rfl⟩) (fun w h => goes w h)
    | false =>
    repeat' first | refine adv ?_ | refine Side.go ?_ | refine Giv.mk fun _ => ?_ | refine All.mk fun q => ?_ | refine Fork.mk ?_ ?_ | (refine Two.mk (fun h => ?_) (fun h => ?_) <;> try first | contradiction | (exfalso; omega))
    refine CallG.freeze u ?_
    refine CallG.use (contains_stray u (by omega) h64u) ?_
    rintro r M ⟨rfl, rfl⟩
    dsimp only [lcA, lnA]
    cases hs2 : (raws u.xs).any strayOf with
    | true =>
      have e : mountLog D2 ⟨inn, t.xs, cn, false⟩ (raws l.xs) (raws u.xs) S = ⟨13, D2, noSt⟩ := by rw [mountLog, if_pos (.inr hs2)]
      rw [e]
      repeat' first | refine adv ?_ | refine Side.go ?_ | refine Giv.mk fun _ => ?_ | refine All.mk fun q => ?_ | refine Fork.mk ?_ ?_ | (refine Two.mk (fun h => ?_) (fun h => ?_) <;> try first | contradiction | (exfalso; omega))
      exact endQ.twoW Tryz.results12 (.inl ⟨show (13 : Int) ≠ 0 by decide, rfl, D2.reads, rfl⟩) (fun w h => goes w h)
    | false =>
    repeat' first | refine adv ?_ | refine Side.go ?_ | refine Giv.mk fun _ => ?_ | refine All.mk fun q => ?_ | refine Fork.mk ?_ ?_ | (refine Two.mk (fun h => ?_) (fun h => ?_) <;> try first | contradiction | (exfalso; omega))
    refine CallG.use (st_replay p d s b D2.Z (.pointer none) ⟨0, midOf D2.Z, 2 * midOf D2.Z, D2.S, inn, t, cn, false⟩ 0 0 false S l (by omega) (Nat.zero_le _) (Nat.le_refl _)) ?_
    rintro v M ⟨rfl, rfl⟩
    have hrb := replay_bd (raws l.xs) cn (l.xs.length + 1) 0 0 S _ hbd
    rw [raws_len] at hrb
    have e : mountLog D2 ⟨inn, t.xs, cn, false⟩ (raws l.xs) (raws u.xs) S = if ((Mg.new (capOf D2.Z D2.S) (replayGo (raws l.xs) cn (l.xs.length + 1) 0 0 S).S.last).load (putsOf (replayGo (raws l.xs) cn (l.xs.length + 1) 0 0 S).S.vs)).1 ≠ 0 then ⟨13, D2, noSt⟩
        else mountEnd D2 ⟨inn, t.xs, cn, false⟩ ((Mg.new (capOf D2.Z D2.S) (replayGo (raws l.xs) cn (l.xs.length + 1) 0 0 S).S.last).load (putsOf (replayGo (raws l.xs) cn (l.xs.length + 1) 0 0 S).S.vs)).2
          (replayGo (raws l.xs) cn (l.xs.length + 1) 0 0 S).pos (replayGo (raws l.xs) cn (l.xs.length + 1) 0 0 S).num ((replayGo (raws l.xs) cn (l.xs.length + 1) 0 0 S).torn || decide (0 < u.xs.length)) := by
      rw [mountLog, if_neg (by rw [hs1, hs2]; simp), raws_len, raws_len]
    rw [e]
    clear e
    dsimp only [lcA, lnA]
    rw [show l.xs.length + 1 - 0 = l.xs.length + 1 from rfl]
    generalize replayGo (raws l.xs) cn (l.xs.length + 1) 0 0 S = r at hrb ⊢
    obtain ⟨rpos, rnum, rS, rt⟩ := r
    dsimp only at hrb ⊢
    obtain ⟨⟨hrl, hrv, hrn, hrk⟩, hrp, hrm⟩ := hrb
    have hcap := cap_ok ok2
    have hpl : (putsOf rS.vs).length = rS.vs.length := by unfold putsOf; rw [List.length_map, sortI_len, List.length_map]
    have hld := load_ok (n := capOf D2.Z D2.S) ⟨hcap.1, by omega⟩ rS.last (putsOf rS.vs)
    rw [hpl] at hld
    have htx : t.xs.length ≤ 800000 := by rw [ht]; omega
    have hrv2 : rS.vs.length ≤ 1000000 := by omega
    refine SyO_all (staO_pick (p := b) (S := rS)) (fun rr => ?_)
    obtain ⟨⟨rm, vs⟩, hr⟩ := rr
    dsimp only at hr ⊢
    cases rt with
    | true =>
      rw [Bool.true_or]
      dsimp only [stC, slotC]
      repeat' first | refine adv ?_ | refine Side.go ?_ | refine Giv.mk fun _ => ?_ | refine All.mk fun q => ?_ | refine Fork.mk ?_ ?_ | (refine Two.mk (fun h => ?_) (fun h => ?_) <;> try first | contradiction | (exfalso; omega))
      refine CallG.use (dev_geometry d D2 ok2) ?_
      rintro r M ⟨rfl, rfl⟩
      dsimp only [lcA, lnA]
      repeat' first | refine adv ?_ | refine Side.go ?_ | refine Giv.mk fun _ => ?_ | refine All.mk fun q => ?_ | refine Fork.mk ?_ ?_ | (refine Two.mk (fun h => ?_) (fun h => ?_) <;> try first | contradiction | (exfalso; omega))
      refine CallG.use (space_capacity D2.Z D2.S ⟨⟨by omega, by omega⟩, by omega, by omega⟩) ?_
      rintro r M ⟨rfl, rfl⟩
      dsimp only [lcA, lnA]
      repeat' first | refine adv ?_ | refine Side.go ?_ | refine Giv.mk fun _ => ?_ | refine All.mk fun q => ?_ | refine Fork.mk ?_ ?_ | (refine Two.mk (fun h => ?_) (fun h => ?_) <;> try first | contradiction | (exfalso; omega))
      refine CallG.use (tx_new (capOf D2.Z D2.S) ⟨hcap.1, by omega⟩ rS.last hrl) ?_
      rintro r M ⟨m, rfl, rfl⟩
      dsimp only [lcA, lnA]
      repeat' first | refine adv ?_ | refine Side.go ?_ | refine Giv.mk fun _ => ?_ | refine All.mk fun q => ?_ | refine Fork.mk ?_ ?_ | (refine Two.mk (fun h => ?_) (fun h => ?_) <;> try first | contradiction | (exfalso; omega))
      refine CallG_conv (L' := staO b rS :: mgO m (Mg.new (capOf D2.Z D2.S) rS.last) :: stC p d D2.Z (.pointer (some ⟨m, 0, none⟩)) (.pointer (some ⟨s, 0, none⟩)) rpos rnum false :: slotC s d ⟨0, midOf D2.Z, 2 * midOf D2.Z, D2.S, inn, t, cn, false⟩ :: roS t :: devO d D2 :: F) (fun B w h => staO_close rS rm vs hr (by dsimp only [stC, slotC]; exact goes w h)) ?_
      refine CallG.use (st_puts b rS (fun e he => by have := hrk e he; exact ⟨by omega, by omega⟩) hrv2) ?_
      rintro r M ⟨ps, hps, rfl, rfl⟩
      dsimp only [lcA, lnA]
      dsimp only [stC, slotC]
      repeat' first | refine adv ?_ | refine Side.go ?_ | refine Giv.mk fun _ => ?_ | refine All.mk fun q => ?_ | refine Fork.mk ?_ ?_ | (refine Two.mk (fun h => ?_) (fun h => ?_) <;> try first | contradiction | (exfalso; omega))
      refine CallG.freeze ps ?_
      refine CallG.use (tx_load m (Mg.new (capOf D2.Z D2.S) rS.last) ps (by simp [Mg.new]) (by have := congrArg List.length hps; rw [List.length_map, hpl] at this; omega)) ?_
      rintro r M ⟨rfl, rfl⟩
      dsimp only [lcA, lnA]
      rw [hps]
      generalize (Mg.new (capOf D2.Z D2.S) rS.last).load (putsOf rS.vs) = Ld at hld ⊢
      repeat' first | refine adv ?_ | refine Side.go ?_ | refine Giv.mk fun _ => ?_ | refine All.mk fun q => ?_ | refine Fork.mk ?_ ?_ | (refine Two.mk (fun h => ?_) (fun h => ?_) <;> try first | contradiction | (exfalso; omega))
      case refine_1 => exact endQ.twoW Tryz.results12 (.inl ⟨by rw [if_pos (by assumption)]; exact (show (13 : Int) ≠ 0 by decide), by rw [if_pos (by assumption)], D2.reads, by rw [if_pos (by assumption)]⟩) (fun w h => goes w h)
      rw [if_neg (by omega), mountEnd, if_pos rfl]
      refine CallG.use (st_checkpoint p d m s D2 ok2 Ld.2 ⟨0, midOf D2.Z, 2 * midOf D2.Z, D2.S, inn, t, cn, false⟩ rpos rnum ⟨rfl, rfl, rfl, rfl⟩ hx2.1 hxc (hld.1.hk (by omega)) (by have := hld.1.len; omega) (by rw [hld.2.2]; exact hrl) hld.1.hd (by have := hld.1.dumpLen; omega)) ?_
      rintro v M ⟨tx, new, htx2, hnew, rfl, rfl⟩
      obtain ⟨t2, hck, ht2⟩ := chk_sp (D := D2) (x := ⟨inn, t.xs, cn, false⟩) (t := t) rfl tx new hnew
      rw [show (⟨0, midOf D2.Z, 2 * midOf D2.Z, D2.S, inn, t, cn, false⟩ : SR) = SP.sr D2.Z D2.S ⟨inn, t.xs, cn, false⟩ t from rfl, hck]
      rw [htx2] at hck ht2 ⊢
      clear hck
      generalize chkP D2 ⟨inn, t.xs, cn, false⟩ (textOf Ld.2.last Ld.2.E.dump) = C at ht2 ⊢
      dsimp only [lcA, lnA]
      repeat' first | refine adv ?_ | refine Side.go ?_ | refine Giv.mk fun _ => ?_ | refine All.mk fun q => ?_ | refine Fork.mk ?_ ?_ | (refine Two.mk (fun h => ?_) (fun h => ?_) <;> try first | contradiction | (exfalso; omega))
      · rw [if_pos (by assumption)]
        exact endQ.twoW Tryz.results12 (.inl ⟨by assumption, rfl, C.D.reads, rfl⟩) (fun w h => goes w h)
      · have hC0 : C.e = 0 := by omega
        rw [if_neg (by omega)]
        refine endQ.twoW Tryz.results12 (.inr ⟨rfl, p, rfl, rfl⟩) (fun w h => ?_)
        refine stO_close ⟨C.x, Ld.2, 0, 0, false⟩ m s t2 ht2 ?_
        rw [hC0] at h
        rw [if_pos rfl, if_pos rfl, show decide ((0 : Int) ≠ 0) = false from rfl] at h
        dsimp only [stC, slotC, SP.sr] at h ⊢
        exact goes w h
    | false =>
      rw [Bool.false_or]
      dsimp only [stC, slotC]
      repeat' first | refine adv ?_ | refine Side.go ?_ | refine Giv.mk fun _ => ?_ | refine All.mk fun q => ?_ | refine Fork.mk ?_ ?_ | (refine Two.mk (fun h => ?_) (fun h => ?_) <;> try first | contradiction | (exfalso; omega))
      refine CallG.use (dev_geometry d D2 ok2) ?_
      rintro r M ⟨rfl, rfl⟩
      dsimp only [lcA, lnA]
      repeat' first | refine adv ?_ | refine Side.go ?_ | refine Giv.mk fun _ => ?_ | refine All.mk fun q => ?_ | refine Fork.mk ?_ ?_ | (refine Two.mk (fun h => ?_) (fun h => ?_) <;> try first | contradiction | (exfalso; omega))
      refine CallG.use (space_capacity D2.Z D2.S ⟨⟨by omega, by omega⟩, by omega, by omega⟩) ?_
      rintro r M ⟨rfl, rfl⟩
      dsimp only [lcA, lnA]
      repeat' first | refine adv ?_ | refine Side.go ?_ | refine Giv.mk fun _ => ?_ | refine All.mk fun q => ?_ | refine Fork.mk ?_ ?_ | (refine Two.mk (fun h => ?_) (fun h => ?_) <;> try first | contradiction | (exfalso; omega))
      refine CallG.use (tx_new (capOf D2.Z D2.S) ⟨hcap.1, by omega⟩ rS.last hrl) ?_
      rintro r M ⟨m, rfl, rfl⟩
      dsimp only [lcA, lnA]
      repeat' first | refine adv ?_ | refine Side.go ?_ | refine Giv.mk fun _ => ?_ | refine All.mk fun q => ?_ | refine Fork.mk ?_ ?_ | (refine Two.mk (fun h => ?_) (fun h => ?_) <;> try first | contradiction | (exfalso; omega))
      refine CallG_conv (L' := staO b rS :: mgO m (Mg.new (capOf D2.Z D2.S) rS.last) :: stC p d D2.Z (.pointer (some ⟨m, 0, none⟩)) (.pointer (some ⟨s, 0, none⟩)) rpos rnum false :: slotC s d ⟨0, midOf D2.Z, 2 * midOf D2.Z, D2.S, inn, t, cn, false⟩ :: roS t :: devO d D2 :: F) (fun B w h => staO_close rS rm vs hr (by dsimp only [stC, slotC]; exact goes w h)) ?_
      refine CallG.use (st_puts b rS (fun e he => by have := hrk e he; exact ⟨by omega, by omega⟩) hrv2) ?_
      rintro r M ⟨ps, hps, rfl, rfl⟩
      dsimp only [lcA, lnA]
      dsimp only [stC, slotC]
      repeat' first | refine adv ?_ | refine Side.go ?_ | refine Giv.mk fun _ => ?_ | refine All.mk fun q => ?_ | refine Fork.mk ?_ ?_ | (refine Two.mk (fun h => ?_) (fun h => ?_) <;> try first | contradiction | (exfalso; omega))
      refine CallG.freeze ps ?_
      refine CallG.use (tx_load m (Mg.new (capOf D2.Z D2.S) rS.last) ps (by simp [Mg.new]) (by have := congrArg List.length hps; rw [List.length_map, hpl] at this; omega)) ?_
      rintro r M ⟨rfl, rfl⟩
      dsimp only [lcA, lnA]
      rw [hps]
      generalize (Mg.new (capOf D2.Z D2.S) rS.last).load (putsOf rS.vs) = Ld at hld ⊢
      repeat' first | refine adv ?_ | refine Side.go ?_ | refine Giv.mk fun _ => ?_ | refine All.mk fun q => ?_ | refine Fork.mk ?_ ?_ | (refine Two.mk (fun h => ?_) (fun h => ?_) <;> try first | contradiction | (exfalso; omega))
      case refine_1 => exact endQ.twoW Tryz.results12 (.inl ⟨by rw [if_pos (by assumption)]; exact (show (13 : Int) ≠ 0 by decide), by rw [if_pos (by assumption)], D2.reads, by rw [if_pos (by assumption)]⟩) (fun w h => goes w h)
      · rw [decide_eq_true (show 0 < u.xs.length from by omega)]
        rw [if_neg (by omega), mountEnd, if_pos rfl]
        refine CallG.use (st_checkpoint p d m s D2 ok2 Ld.2 ⟨0, midOf D2.Z, 2 * midOf D2.Z, D2.S, inn, t, cn, false⟩ rpos rnum ⟨rfl, rfl, rfl, rfl⟩ hx2.1 hxc (hld.1.hk (by omega)) (by have := hld.1.len; omega) (by rw [hld.2.2]; exact hrl) hld.1.hd (by have := hld.1.dumpLen; omega)) ?_
        rintro v M ⟨tx, new, htx2, hnew, rfl, rfl⟩
        obtain ⟨t2, hck, ht2⟩ := chk_sp (D := D2) (x := ⟨inn, t.xs, cn, false⟩) (t := t) rfl tx new hnew
        rw [show (⟨0, midOf D2.Z, 2 * midOf D2.Z, D2.S, inn, t, cn, false⟩ : SR) = SP.sr D2.Z D2.S ⟨inn, t.xs, cn, false⟩ t from rfl, hck]
        rw [htx2] at hck ht2 ⊢
        clear hck
        generalize chkP D2 ⟨inn, t.xs, cn, false⟩ (textOf Ld.2.last Ld.2.E.dump) = C at ht2 ⊢
        dsimp only [lcA, lnA]
        repeat' first | refine adv ?_ | refine Side.go ?_ | refine Giv.mk fun _ => ?_ | refine All.mk fun q => ?_ | refine Fork.mk ?_ ?_ | (refine Two.mk (fun h => ?_) (fun h => ?_) <;> try first | contradiction | (exfalso; omega))
        · rw [if_pos (by assumption)]
          exact endQ.twoW Tryz.results12 (.inl ⟨by assumption, rfl, C.D.reads, rfl⟩) (fun w h => goes w h)
        · have hC0 : C.e = 0 := by omega
          rw [if_neg (by omega)]
          refine endQ.twoW Tryz.results12 (.inr ⟨rfl, p, rfl, rfl⟩) (fun w h => ?_)
          refine stO_close ⟨C.x, Ld.2, 0, 0, false⟩ m s t2 ht2 ?_
          rw [hC0] at h
          rw [if_pos rfl, if_pos rfl, show decide ((0 : Int) ≠ 0) = false from rfl] at h
          dsimp only [stC, slotC, SP.sr] at h ⊢
          exact goes w h
      · rw [if_neg (by omega), decide_eq_false (show ¬ 0 < u.xs.length from by omega), mountEnd, if_neg (by simp)]
        refine endQ.twoW Tryz.results12 (.inr ⟨rfl, p, rfl, rfl⟩) (fun w h => ?_)
        refine stO_close ⟨⟨inn, t.xs, cn, false⟩, Ld.2, rpos, rnum, false⟩ m s t rfl ?_
        dsimp only [stC, slotC, SP.sr]
        exact goes w h
end Go.SL
