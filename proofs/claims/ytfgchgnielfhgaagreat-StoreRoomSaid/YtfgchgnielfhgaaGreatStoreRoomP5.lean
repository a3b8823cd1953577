/- Parts of the proof of StoreRoom: a logic of memory, contracts of functions, plain laws (Tx2, Tx3, Tx4, Tx5, SlY, Iv4, Val2, Val3, Iv5, Tx6, Tx7, Sto, Sto2, Sto3, Sto4, Sto5, Sto6, Sto7, Sto8, PuF). Conditions: those that each theorem names. -/
import Derived.Test.YtfgchgnielfhgaaGreatStoreRoomP4
set_option linter.unusedSimpArgs false
set_option linter.unusedVariables false
namespace Go.SL
open Go.Proofs
set_option synthInstance.maxSize 4000
set_option synthInstance.maxHeartbeats 400000
set_option maxRecDepth 4000
set_option maxHeartbeats 2000000

def openT (M : Mg) (h : Int) : Option Tr := match vget M.all h with | some T => if T.st = 1 then some T else none | none => none

/-- One that was taken out, put back. -/
theorem back_tr {B : World} {L R : List HProp} {em t b v : Nat} {ts : List (Int × TrP)} {k : Int} {T : Tr} (hn : (ts.map (·.1)).Nodup) (hg : vget ts k = some (t, T))
    [p : Picks [cells true t 0 [.int .i64 T.st, .int .i64 T.time, .int .i64 T.code, .int .i64 T.at_, .pointer (some ⟨b, 0, none⟩), .pointer (some ⟨v, 0, none⟩)], wbO b T.W, viewO v em b T.at_ T.S, bigS (trF em) (vdel ts k)] L R] :
    ∀ w, sat B L w → sat B (bigS (trF em) ts :: R) w := fun w h => untake_f (trF em) hn hg (trO_close T b v (by have := p.out B [] w (by rw [List.append_nil]; exact h); rw [List.append_nil] at this; exact this))
theorem back_tr' {B : World} {L R : List HProp} {em t b v : Nat} {ts : List (Int × TrP)} {k st time code : Int} {T : Tr} {W : Wb} (hn : (ts.map (·.1)).Nodup) (hg : vget ts k = some (t, T))
    [p : Picks [cells true t 0 [.int .i64 st, .int .i64 time, .int .i64 code, .int .i64 T.at_, .pointer (some ⟨b, 0, none⟩), .pointer (some ⟨v, 0, none⟩)], wbO b W, viewO v em b T.at_ T.S, bigS (trF em) (vdel ts k)] L R] :
    ∀ w, sat B L w → sat B (bigS (trF em) (vset ts k (t, ⟨st, time, code, T.at_, W, T.S⟩)) :: R) w :=
  fun w h => put_f (trF em) hn (trO_close ⟨st, time, code, T.at_, W, T.S⟩ b v (by have := p.out B [] w (by rw [List.append_nil]; exact h); rw [List.append_nil] at this; exact this))
/-- The map of addresses stays where one is changed. -/
theorem vmap_same {ts : List (Int × TrP)} {k : Int} {t : Nat} {T : Tr} (T' : Tr) (hn : (ts.map (·.1)).Nodup) (hg : vget ts k = some (t, T)) : vmap trV (vset ts k (t, T')) = vmap trV ts := by
  have h1 : vset (gmap trV ts) k (trV (t, T')) = gmap trV (vset ts k (t, T')) := vset_gmap trV ts k (t, T')
  have h2 : vget (gmap trV ts) k = some (trV (t, T')) := by rw [vget_gmap, hg]; rfl
  have h3 : vset (gmap trV ts) k (trV (t, T')) = gmap trV ts := vset_same (by rw [gmap_keys]; exact hn) h2
  exact h1.symm.trans h3
theorem tv_set (ts : List (Int × TrP)) (k : Int) (t : Nat) (T : Tr) : tv (vset ts k (t, T)) = vset (tv ts) k T := (vset_gmap (fun x : TrP => x.2) ts k (t, T)).symm

/-- A transaction that is open, as its address; the manager lies open. -/
theorem tx_open (m : Nat) (M : Mg) (r : MgR) (h : Int) :
    Spec Tryz.prog 96 #[.pointer (some ⟨m, 0, none⟩), .int .i64 h] (mgL m M r) (fun v L => v = (match vget r.ts h with | some x => if x.2.st = 1 then trV x else .pointer none | none => .pointer none) ∧ L = mgL m M r) := by
  refine enter2 Tryz.func96 rfl (by decide) (by decide) ?_
  intro B F
  dsimp only [lcA, lnA]
  dsimp only [mgL, List.cons_append, List.nil_append]
  refine Sy_know (fun B w h => map_nodup (r := r.rm) (es := vmap trV r.ts) B w h) (fun hn => ?_)
  rw [vmap_keys] at hn
  repeat' first | refine adv ?_ | refine Side.go ?_ | refine Giv.mk fun _ => ?_ | refine All.mk fun q => ?_ | refine Fork.mk ?_ ?_ | (refine Two.mk (fun h => ?_) (fun h => ?_) <;> try first | contradiction | (exfalso; omega))
  refine CallG.use (tx_gone m r.em (.pointer (some ⟨r.bk, 0, none⟩)) (.map (some r.rm)) (.slice r.qa M.queue.length r.qc) (.int .i64 M.out) (.int .i64 M.num) (.int .i64 M.base) (.int .i64 M.last) (.int .i64 M.given) (.bool M.ro)) ?_
  rintro r M ⟨rfl, rfl⟩
  dsimp only [lcA, lnA]
  cases hg : vget r.ts h with
  | none =>
    haveI := mn_vmap (f := trV) hg
    repeat' first | refine adv ?_ | refine Side.go ?_ | refine Giv.mk fun _ => ?_ | refine All.mk fun q => ?_ | refine Fork.mk ?_ ?_ | (refine Two.mk (fun h => ?_) (fun h => ?_) <;> try first | contradiction | (exfalso; omega))
    exact endQ.oneW Tryz.results96 ⟨rfl, rfl⟩ (fun w h => goes w h)
  | some x =>
    haveI := mg_vmap (f := trV) hg
    obtain ⟨t, T⟩ := x
    refine SyO_conv (take_f (trF r.em) hn hg) ?_
    dsimp only [trF]
    refine SyO_all (fun w h => trO_open h) (fun q => ?_)
    obtain ⟨b, v⟩ := q
    dsimp only
    repeat' first | refine adv ?_ | refine Side.go ?_ | refine Giv.mk fun _ => ?_ | refine All.mk fun q => ?_ | refine Fork.mk ?_ ?_ | (refine Two.mk (fun h => ?_) (fun h => ?_) <;> try first | contradiction | (exfalso; omega))
    · refine endQ_conv (back_tr (em := r.em) (t := t) (b := b) (v := v) hn hg) (endQ.oneW Tryz.results96 ⟨by rw [if_neg (by assumption)], rfl⟩ (fun w h => goes w h))
    · refine endQ_conv (back_tr (em := r.em) (t := t) (b := b) (v := v) hn hg) (endQ.oneW Tryz.results96 ⟨by rw [if_pos (by omega)], rfl⟩ (fun w h => goes w h))

def Mg.write (M : Mg) (h : Int) (ps : List PV) : Int × Mg := match openT M h with | some T => ((T.W.write ps).1, { M with all := vset M.all h { T with W := (T.W.write ps).2 } }) | none => (5, M)
theorem tx_write (m : Nat) (M : Mg) (h : Int) (ps : Sl PutR) (hi : ∀ x ∈ ps.xs, I64 x.lba) (hW : ∀ e ∈ M.all, e.2.W.vs.length ≤ 1000000) :
    Spec Tryz.prog 52 #[.pointer (some ⟨m, 0, none⟩), .int .i64 h, ps.val] [mgO m M, roS ps] (fun v L => v = .int .i64 (M.write h (ps.xs.map PutR.v)).1 ∧ L = [mgO m (M.write h (ps.xs.map PutR.v)).2]) := by
  refine enter3 Tryz.func52 rfl (by decide) (by decide) ?_
  intro B F
  dsimp only [lcA, lnA]
  refine Sy_all (fun w h => mgO_open h) (fun r => ?_)
  obtain ⟨r, hr⟩ := r
  dsimp only [mgL, List.cons_append, List.nil_append] at hr ⊢
  refine Sy_know (fun B w h => map_nodup (r := r.rm) (es := vmap trV r.ts) B w h) (fun hn => ?_)
  rw [vmap_keys] at hn
  repeat' first | refine adv ?_ | refine Side.go ?_ | refine Giv.mk fun _ => ?_ | refine All.mk fun q => ?_ | refine Fork.mk ?_ ?_ | (refine Two.mk (fun h => ?_) (fun h => ?_) <;> try first | contradiction | (exfalso; omega))
  refine CallG.use (tx_open m M r h) ?_
  rintro r M ⟨rfl, rfl⟩
  dsimp only [lcA, lnA]
  have hgM : vget M.all h = (vget r.ts h).map (·.2) := by rw [← hr, vget_tv]
  cases hg : vget r.ts h with
  | none =>
    have e : M.write h (ps.xs.map PutR.v) = (5, M) := by rw [hg] at hgM; simp only [Mg.write, openT, hgM, Option.map_none]
    rw [e]
    repeat' first | refine adv ?_ | refine Side.go ?_ | refine Giv.mk fun _ => ?_ | refine All.mk fun q => ?_ | refine Fork.mk ?_ ?_ | (refine Two.mk (fun h => ?_) (fun h => ?_) <;> try first | contradiction | (exfalso; omega))
    exact endQ.oneW Tryz.results52 ⟨rfl, rfl⟩ (fun w h => mgO_close M r hr (goes w h))
  | some x =>
    obtain ⟨t, T⟩ := x
    dsimp only
    by_cases hst : T.st = 1
    · have e : M.write h (ps.xs.map PutR.v) = ((T.W.write (ps.xs.map PutR.v)).1, { M with all := vset M.all h { T with W := (T.W.write (ps.xs.map PutR.v)).2 } }) := by
        rw [hg] at hgM; simp only [Mg.write, openT, hgM, Option.map_some, if_pos hst]
      have hTW : T.W.vs.length ≤ 1000000 := by
        obtain ⟨y, hy, hym⟩ := vget_mem (vs := r.ts) (k := h) ((vget_perm hn hg).symm.map _ |>.mem_iff.1 (by simp))
        rw [hg] at hy; cases hy
        exact hW (h, T) (by rw [← hr]; exact List.mem_map.2 ⟨_, hym, rfl⟩)
      rw [if_pos hst, e]
      refine SyO_conv (take_f (trF r.em) hn hg) ?_
      dsimp only [trF]
      refine SyO_all (fun w h => trO_open h) (fun q => ?_)
      obtain ⟨b, v⟩ := q
      dsimp only [trV]
      repeat' first | refine adv ?_ | refine Side.go ?_ | refine Giv.mk fun _ => ?_ | refine All.mk fun q => ?_ | refine Fork.mk ?_ ?_ | (refine Two.mk (fun h => ?_) (fun h => ?_) <;> try first | contradiction | (exfalso; omega))
      refine CallG.use (wb_write b T.W ps hi hTW) ?_
      rintro r M ⟨rfl, rfl⟩
      dsimp only [lcA, lnA]
      repeat' first | refine adv ?_ | refine Side.go ?_ | refine Giv.mk fun _ => ?_ | refine All.mk fun q => ?_ | refine Fork.mk ?_ ?_ | (refine Two.mk (fun h => ?_) (fun h => ?_) <;> try first | contradiction | (exfalso; omega))
      refine endQ_conv (back_tr' (em := r.em) (t := t) (b := b) (v := v) (st := T.st) (time := T.time) (code := T.code) (W := (T.W.write (ps.xs.map PutR.v)).2) hn hg) (endQ.oneW Tryz.results52 ⟨rfl, rfl⟩ (fun w s => mgO_close { M with all := vset M.all h { T with W := (T.W.write (ps.xs.map PutR.v)).2 } } { r with ts := vset r.ts h (t, { T with W := (T.W.write (ps.xs.map PutR.v)).2 }) } ?_ ?_))
      · dsimp only; rw [tv_set, hr]
      · dsimp only
        rw [vmap_same _ hn hg]
        exact goes w s
    · have e : M.write h (ps.xs.map PutR.v) = (5, M) := by rw [hg] at hgM; simp only [Mg.write, openT, hgM, Option.map_some, if_neg hst]
      rw [if_neg hst, e]
      repeat' first | refine adv ?_ | refine Side.go ?_ | refine Giv.mk fun _ => ?_ | refine All.mk fun q => ?_ | refine Fork.mk ?_ ?_ | (refine Two.mk (fun h => ?_) (fun h => ?_) <;> try first | contradiction | (exfalso; omega))
      exact endQ.oneW Tryz.results52 ⟨rfl, rfl⟩ (fun w h => mgO_close M r hr (goes w h))

/-- The end of one. -/
def Mg.end (M : Mg) (h st code : Int) : Mg := match vget M.all h with
  | some T => { M with all := vset M.all h { T with st := st, code := code, time := if st = 4 then 0 else T.time }, K := { M.K with ts := verase M.K.ts h } }
  | none => M
theorem tx_end (m : Nat) (M : Mg) (k st code : Int) (T : Tr) (hT : vget M.all k = some T) :
    Spec Tryz.prog 99 #[.pointer (some ⟨m, 0, none⟩), .int .i64 k, .int .i64 st, .int .i64 code] [mgO m M] (fun v L => v = .tuple #[] ∧ L = [mgO m (M.end k st code)]) := by
  refine enter4 Tryz.func99 rfl (by decide) (by decide) ?_
  intro B F
  dsimp only [lcA, lnA]
  refine Sy_all (fun w h => mgO_open h) (fun r => ?_)
  obtain ⟨r, hr⟩ := r
  dsimp only [mgL, List.cons_append, List.nil_append] at hr ⊢
  refine Sy_know (fun B w h => map_nodup (r := r.rm) (es := vmap trV r.ts) B w h) (fun hn => ?_)
  rw [vmap_keys] at hn
  have e : M.end k st code = { M with all := vset M.all k { T with st := st, code := code, time := if st = 4 then 0 else T.time }, K := { M.K with ts := verase M.K.ts k } } := by simp only [Mg.end, hT]
  rw [e]
  obtain ⟨t, hg⟩ : ∃ t, vget r.ts k = some (t, T) := by
    rw [← hr, vget_tv] at hT
    obtain ⟨x, hx, rfl⟩ := Option.map_eq_some_iff.1 hT
    exact ⟨x.1, hx⟩
  haveI := mg_vmap (f := trV) hg
  refine Sy_conv (take_f (trF r.em) hn hg) ?_
  dsimp only [trF]
  refine Sy_all (fun w h => trO_open h) (fun q => ?_)
  obtain ⟨b, v⟩ := q
  dsimp only
  repeat' first | refine adv ?_ | refine Side.go ?_ | refine Giv.mk fun _ => ?_ | refine All.mk fun q => ?_ | refine Fork.mk ?_ ?_ | (refine Two.mk (fun h => ?_) (fun h => ?_) <;> try first | contradiction | (exfalso; omega))
  · refine CallG.use (hz_close r.bk M.K k) ?_
    rintro r M ⟨rfl, rfl⟩
    dsimp only [lcA, lnA]
    rw [if_pos h]
    repeat' first | refine adv ?_ | refine Side.go ?_ | refine Giv.mk fun _ => ?_ | refine All.mk fun q => ?_ | refine Fork.mk ?_ ?_ | (refine Two.mk (fun h => ?_) (fun h => ?_) <;> try first | contradiction | (exfalso; omega))
    refine endQ_conv (back_tr' (em := r.em) (t := t) (b := b) (v := v) (st := st) (time := 0) (code := code) (W := T.W) hn hg) (endQ.noneW Tryz.results99 ⟨rfl, rfl⟩ (fun w s => mgO_close _ { r with ts := vset r.ts k (t, ⟨st, 0, code, T.at_, T.W, T.S⟩) } ?_ ?_))
    · dsimp only; rw [tv_set, hr]
    · dsimp only
      rw [vmap_same _ hn hg]
      exact goes w s
  · refine CallG.use (hz_close r.bk M.K k) ?_
    rintro r M ⟨rfl, rfl⟩
    dsimp only [lcA, lnA]
    rw [if_neg h]
    repeat' first | refine adv ?_ | refine Side.go ?_ | refine Giv.mk fun _ => ?_ | refine All.mk fun q => ?_ | refine Fork.mk ?_ ?_ | (refine Two.mk (fun h => ?_) (fun h => ?_) <;> try first | contradiction | (exfalso; omega))
    refine endQ_conv (back_tr' (em := r.em) (t := t) (b := b) (v := v) (st := st) (time := T.time) (code := code) (W := T.W) hn hg) (endQ.noneW Tryz.results99 ⟨rfl, rfl⟩ (fun w s => mgO_close _ { r with ts := vset r.ts k (t, ⟨st, T.time, code, T.at_, T.W, T.S⟩) } ?_ ?_))
    · dsimp only; rw [tv_set, hr]
    · dsimp only
      rw [vmap_same _ hn hg]
      exact goes w s
end Go.SL
namespace Go.SL
open Go.Proofs
set_option synthInstance.maxSize 4000
set_option synthInstance.maxHeartbeats 400000
set_option maxRecDepth 4000
set_option maxHeartbeats 2000000

theorem drop_f {β : Type} {B : World} {L : List HProp} {w : World} {vs : List (Int × β)} (k : Int) (f : Int × β → HProp) (hn : (vs.map (·.1)).Nodup) (h : sat B (bigS f vs :: L) w) : sat B (bigS f (vdel vs k) :: L) w := by
  cases hg : vget vs k with
  | none => rw [vdel_none hg]; exact h
  | some x => exact (sat_bigS_cons.1 (bigS_perm (vget_perm hn hg) h)).tail

theorem ext_blocksO (m : Nat) (E : Em) : Spec Tryz.prog 93 #[.pointer (some ⟨m, 0, none⟩)] [emO m E] (fun v L => v = .int .i64 E.blocks ∧ L = [emO m E]) := by
  refine enter1 Tryz.func93 rfl (by decide) (by decide) ?_
  intro B F
  dsimp only [lcA, lnA]
  refine Sy_all (fun w h => emO_open h) (fun r => ?_)
  obtain ⟨r, hr⟩ := r
  dsimp only [emL, List.cons_append, List.nil_append]
  repeat' first | refine adv ?_ | refine Side.go ?_ | refine Giv.mk fun _ => ?_ | refine All.mk fun q => ?_ | refine Fork.mk ?_ ?_ | (refine Two.mk (fun h => ?_) (fun h => ?_) <;> try first | contradiction | (exfalso; omega))
  exact endQ.oneW Tryz.results93 ⟨rfl, rfl⟩ (fun w h => emO_close E r hr (goes w h))

theorem new_tr {B : World} {L R : List HProp} {em t b v : Nat} {ts : List (Int × TrP)} {k st time code at_ : Int} {W : Wb} {S : Iv} (hn : (ts.map (·.1)).Nodup)
    [p : Picks [cells true t 0 [.int .i64 st, .int .i64 time, .int .i64 code, .int .i64 at_, .pointer (some ⟨b, 0, none⟩), .pointer (some ⟨v, 0, none⟩)], wbO b W, viewO v em b at_ S, bigS (trF em) ts] L R] :
    ∀ w, sat B L w → sat B (bigS (trF em) (vset ts k (t, ⟨st, time, code, at_, W, S⟩)) :: R) w := fun w h => by
  have h1 := p.out B [] w (by rw [List.append_nil]; exact h)
  rw [List.append_nil] at h1
  have h2 : sat B (trO t em ⟨st, time, code, at_, W, S⟩ :: bigS (trF em) ts :: R) w := trO_close ⟨st, time, code, at_, W, S⟩ b v h1
  have h3 := drop_f k (trF em) hn (h2.perm (.swap _ _ _))
  exact put_f (trF em) hn (h3.perm (.swap _ _ _))

def Tr.new (blocks : Nat) (at_ : Int) : Tr := ⟨1, 0, 0, at_, ⟨blocks, 16, []⟩, ⟨64, []⟩⟩
def Mg.begin (M : Mg) : Int × Int × Mg :=
  if (M.K.open M.last).2.1 = 0 then ((M.K.open M.last).1, 0, { M with K := (M.K.open M.last).2.2, all := vset M.all (M.K.open M.last).1 (Tr.new M.E.blocks M.last) })
  else (0, (M.K.open M.last).2.1, { M with K := (M.K.open M.last).2.2 })
theorem tx_begin (m : Nat) (M : Mg) (hb : 1 ≤ M.E.blocks ∧ M.E.blocks ≤ 1048576) (hi : ∀ e ∈ M.K.ts, I64 e.1) (hl : M.K.ts.length ≤ 1000000) (hla : M.K.last ≤ 1000000000) :
    Spec Tryz.prog 50 #[.pointer (some ⟨m, 0, none⟩)] [mgO m M] (fun v L => v = .tuple #[.int .i64 M.begin.1, .int .i64 M.begin.2.1] ∧ L = [mgO m M.begin.2.2]) := by
  refine enter1 Tryz.func50 rfl (by decide) (by decide) ?_
  intro B F
  dsimp only [lcA, lnA]
  refine Sy_all (fun w h => mgO_open h) (fun r => ?_)
  obtain ⟨r, hr⟩ := r
  dsimp only [mgL, List.cons_append, List.nil_append] at hr ⊢
  refine Sy_know (fun B w h => map_nodup (r := r.rm) (es := vmap trV r.ts) B w h) (fun hn => ?_)
  rw [vmap_keys] at hn
  repeat' first | refine adv ?_ | refine Side.go ?_ | refine Giv.mk fun _ => ?_ | refine All.mk fun q => ?_ | refine Fork.mk ?_ ?_ | (refine Two.mk (fun h => ?_) (fun h => ?_) <;> try first | contradiction | (exfalso; omega))
  refine CallG.use (tx_gone m r.em (.pointer (some ⟨r.bk, 0, none⟩)) (.map (some r.rm)) (.slice r.qa M.queue.length r.qc) (.int .i64 M.out) (.int .i64 M.num) (.int .i64 M.base) (.int .i64 M.last) (.int .i64 M.given) (.bool M.ro)) ?_
  rintro r M ⟨rfl, rfl⟩
  dsimp only [lcA, lnA]
  repeat' first | refine adv ?_ | refine Side.go ?_ | refine Giv.mk fun _ => ?_ | refine All.mk fun q => ?_ | refine Fork.mk ?_ ?_ | (refine Two.mk (fun h => ?_) (fun h => ?_) <;> try first | contradiction | (exfalso; omega))
  refine CallG.use (hz_open r.bk M.K M.last hi hl hla) ?_
  rintro r M ⟨rfl, rfl⟩
  dsimp only [lcA, lnA]
  rw [Mg.begin]
  generalize hko : M.K.open M.last = ko
  obtain ⟨hh, e, K'⟩ := ko
  dsimp only
  repeat' first | refine adv ?_ | refine Side.go ?_ | refine Giv.mk fun _ => ?_ | refine All.mk fun q => ?_ | refine Fork.mk ?_ ?_ | (refine Two.mk (fun h => ?_) (fun h => ?_) <;> try first | contradiction | (exfalso; omega))
  · rw [if_neg h]
    dsimp only
    exact endQ.twoW Tryz.results50 ⟨rfl, rfl⟩ (fun w h => mgO_close { M with K := K' } r hr (goes w h))
  have he : e = 0 := by omega
  subst he
  rw [if_pos rfl]
  refine CallG.use (ext_blocksO r.em M.E) ?_
  rintro r M ⟨rfl, rfl⟩
  dsimp only [lcA, lnA]
  repeat' first | refine adv ?_ | refine Side.go ?_ | refine Giv.mk fun _ => ?_ | refine All.mk fun q => ?_ | refine Fork.mk ?_ ?_ | (refine Two.mk (fun h => ?_) (fun h => ?_) <;> try first | contradiction | (exfalso; omega))
  refine CallG.use (wb_new M.E.blocks 16 hb) ?_
  rintro r M ⟨b, rfl, rfl⟩
  dsimp only [lcA, lnA]
  repeat' first | refine adv ?_ | refine Side.go ?_ | refine Giv.mk fun _ => ?_ | refine All.mk fun q => ?_ | refine Fork.mk ?_ ?_ | (refine Two.mk (fun h => ?_) (fun h => ?_) <;> try first | contradiction | (exfalso; omega))
  refine CallG.use (rs_new r.em b M.last) ?_
  rintro r M ⟨v, rfl, rfl⟩
  dsimp only [lcA, lnA]
  repeat' first | refine adv ?_ | refine Side.go ?_ | refine Giv.mk fun _ => ?_ | refine All.mk fun q => ?_ | refine Fork.mk ?_ ?_ | (refine Two.mk (fun h => ?_) (fun h => ?_) <;> try first | contradiction | (exfalso; omega))
  refine endQ_conv (new_tr (em := r.em) (t := q) (b := b) (v := v) (ts := r.ts) (k := hh) (st := 1) (time := 0) (code := 0) (at_ := M.last) (W := ⟨M.E.blocks, 16, []⟩) (S := ⟨64, []⟩) hn) (endQ.twoW Tryz.results50 ⟨rfl, rfl⟩ (fun w s =>
    mgO_close { M with K := K', all := vset M.all hh (Tr.new M.E.blocks M.last) } { r with ts := vset r.ts hh (q, Tr.new M.E.blocks M.last) } ?_ ?_))
  · dsimp only; rw [tv_set, hr]
  · dsimp only
    rw [← mset_vmap]
    dsimp only [Tr.new, trV]
    exact goes w s

/-- What waits, with what it writes. -/
def Mg.waits (M : Mg) : List TV := M.queue.filterMap fun h => (vget M.all h).map fun T => (T.time, T.W.puts)
theorem tx_waiting (m : Nat) (M : Mg) (r : MgR) (hr : tv r.ts = M.all) (hq : ∀ h ∈ M.queue, ∃ T, vget M.all h = some T) (hql : M.queue.length ≤ 1000000) (hW : ∀ e ∈ M.all, e.2.W.vs.length ≤ 1000000 ∧ ∀ x ∈ e.2.W.vs, I64 x.1) :
    Spec Tryz.prog 101 #[.pointer (some ⟨m, 0, none⟩)] (mgL m M r) (fun v L => ∃ t : Sl TxR, t.xs.map TxR.v = M.waits ∧ v = t.val ∧ L = ownS t :: mgL m M r) := by
  refine enter1 Tryz.func101 rfl (by decide) (by decide) ?_
  intro B F
  dsimp only [lcA, lnA]
  dsimp only [mgL, List.cons_append, List.nil_append]
  refine Sy_know (fun B w h => map_nodup (r := r.rm) (es := vmap trV r.ts) B w h) (fun hn => ?_)
  rw [vmap_keys] at hn
  repeat' first | refine adv ?_ | refine Side.go ?_ | refine Giv.mk fun _ => ?_ | refine All.mk fun q => ?_ | refine Fork.mk ?_ ?_ | (refine Two.mk (fun h => ?_) (fun h => ?_) <;> try first | contradiction | (exfalso; omega))
  refine Sy_loop (ι := {st : Nat × Sl TxR // (st.1 ≤ M.queue.length ∧ st.2.xs.length ≤ st.1) ∧ st.2.xs.map TxR.v = (M.queue.take st.1).filterMap fun h => (vget M.all h).map fun T => (T.time, T.W.puts)})
    (fun st => [(11, .int .i64 st.1.1), (10, .int .i64 M.queue.length), (9, .slice r.qa M.queue.length r.qc), (2, st.1.2.val), (0, .pointer (some ⟨m, 0, none⟩))])
    (fun st => ownS st.1.2 :: cells true m 0 [.pointer (some ⟨r.em, 0, none⟩), .pointer (some ⟨r.bk, 0, none⟩), .map (some r.rm), .slice r.qa M.queue.length r.qc, .int .i64 M.out, .int .i64 M.num, .int .i64 M.base, .int .i64 M.last, .int .i64 M.given, .bool M.ro] ::
      emO r.em M.E :: bkO r.bk M.K :: mapO r.rm (vmap trV r.ts) :: ownS (⟨r.qa, r.qc, M.queue⟩ : Sl Int) :: bigS (trF r.em) r.ts :: F)
    (fun st => M.queue.length - st.1.1) ⟨(0, ⟨none, 0, []⟩), ⟨Nat.zero_le _, Nat.le_refl _⟩, rfl⟩ (evs rfl (evs rfl (evs rfl (evs rfl (evs rfl .nil))))) (fun w h => goes w (sat_true (own_nil (α := TxR)) h)) ?_
  rintro ⟨⟨j, t⟩, ⟨hj, htl⟩, ht⟩ env
  dsimp only [upds] at hj htl ht ⊢
  by_cases hj2 : j < M.queue.length
  · obtain ⟨T, hT⟩ := hq _ (List.getElem_mem hj2)
    obtain ⟨x, hg⟩ : ∃ x, vget r.ts M.queue[j] = some (x, T) := by
      rw [← hr, vget_tv] at hT
      obtain ⟨y, hy, rfl⟩ := Option.map_eq_some_iff.1 hT
      exact ⟨y.1, hy⟩
    haveI := mg_vmap (f := trV) hg
    have hTW := hW (M.queue[j], T) (by rw [← hr]; obtain ⟨y, hy, hym⟩ := vget_mem (vs := r.ts) (k := M.queue[j]) ((vget_perm hn hg).symm.map _ |>.mem_iff.1 (by simp)); rw [hg] at hy; cases hy; exact List.mem_map.2 ⟨_, hym, rfl⟩)
    refine Sy_conv (take_f (trF r.em) hn hg) ?_
    dsimp only [trF]
    refine Sy_all (fun w h => trO_open h) (fun q => ?_)
    obtain ⟨b, v⟩ := q
    dsimp only
    repeat' first | refine adv ?_ | refine Side.go ?_ | refine Giv.mk fun _ => ?_ | refine All.mk fun q => ?_ | refine Fork.mk ?_ ?_ | (refine Two.mk (fun h => ?_) (fun h => ?_) <;> try first | contradiction | (exfalso; omega))
    refine CallG.use (wb_puts b T.W hTW.2 hTW.1) ?_
    rintro r M ⟨u, hu, rfl, rfl⟩
    dsimp only [lcA, lnA]
    repeat' first | refine adv ?_ | refine Side.go ?_ | refine Giv.mk fun _ => ?_ | refine All.mk fun q => ?_ | refine Fork.mk ?_ ?_ | (refine Two.mk (fun h => ?_) (fun h => ?_) <;> try first | contradiction | (exfalso; omega))
    refine AppG.oneT t ⟨T.time, u⟩ (by omega) (fun a2 c2 => ?_)
    repeat' first | refine adv ?_ | refine Side.go ?_ | refine Giv.mk fun _ => ?_ | refine All.mk fun q => ?_ | refine Fork.mk ?_ ?_ | (refine Two.mk (fun h => ?_) (fun h => ?_) <;> try first | contradiction | (exfalso; omega))
    refine loopQ.next ⟨(j + 1, ⟨a2, c2, t.xs ++ [⟨T.time, u⟩]⟩), ⟨by dsimp only; omega, by simp; omega⟩, ?_⟩ (by simp only []; omega) (evs rfl (evs rfl (evs rfl (evs rfl (evs rfl .nil))))) (fun w s => by
      have h2 := back_tr (em := r.em) (t := x) (b := b) (v := v) hn hg w s
      exact goes w h2)
    dsimp only
    rw [List.map_append, ht, List.take_succ_eq_append_getElem hj2, List.filterMap_append, List.filterMap_cons, hT]
    simp [TxR.v, hu]
  · have hj3 : j = M.queue.length := by omega
    subst hj3
    rw [List.take_length] at ht
    repeat' first | refine adv ?_ | refine Side.go ?_ | refine Giv.mk fun _ => ?_ | refine All.mk fun q => ?_ | refine Fork.mk ?_ ?_ | (refine Two.mk (fun h => ?_) (fun h => ?_) <;> try first | contradiction | (exfalso; omega))
    exact endQ.oneW Tryz.results101 ⟨t, ht, rfl, rfl⟩ (fun w h => goes w h)
end Go.SL
namespace Go.SL
open Go.Proofs
set_option synthInstance.maxSize 4000
set_option synthInstance.maxHeartbeats 400000
set_option maxRecDepth 4000
set_option maxHeartbeats 2000000

def Mg.mayC (M : Mg) (T : Tr) (k : Int) : Int :=
  if M.ro = true then 10 else if checkE M.E T.at_ ⟨64, []⟩ ⟨1, [⟨k, 1⟩]⟩ ≠ 0 then checkE M.E T.at_ ⟨64, []⟩ ⟨1, [⟨k, 1⟩]⟩ else if 1099511627776 ≤ M.given then 11 else 0
theorem tx_waiting0 (m e b rm : Nat) (a : Option Addr) (c : Nat) (x4 x5 x6 x7 x8 x9 : Value) :
    Spec Tryz.prog 101 #[.pointer (some ⟨m, 0, none⟩)] [cells true m 0 [.pointer (some ⟨e, 0, none⟩), .pointer (some ⟨b, 0, none⟩), .map (some rm), .slice a 0 c, x4, x5, x6, x7, x8, x9]]
      (fun v L => v = .slice none 0 0 ∧ L = [cells true m 0 [.pointer (some ⟨e, 0, none⟩), .pointer (some ⟨b, 0, none⟩), .map (some rm), .slice a 0 c, x4, x5, x6, x7, x8, x9]]) := by
  refine enter1 Tryz.func101 rfl (by decide) (by decide) ?_
  intro B F
  dsimp only [lcA, lnA]
  repeat' first | refine adv ?_ | refine Side.go ?_ | refine Giv.mk fun _ => ?_ | refine All.mk fun q => ?_ | refine Fork.mk ?_ ?_ | (refine Two.mk (fun h => ?_) (fun h => ?_) <;> try first | contradiction | (exfalso; omega))
  refine Sy_loop (ι := Unit) (fun _ => [(11, .int .i64 0), (10, .int .i64 0), (2, .slice none 0 0)])
    (fun _ => cells true m 0 [.pointer (some ⟨e, 0, none⟩), .pointer (some ⟨b, 0, none⟩), .map (some rm), .slice a 0 c, x4, x5, x6, x7, x8, x9] :: F) (fun _ => 0) () (evs rfl (evs rfl (evs rfl .nil))) (fun w h => goes w h) ?_
  rintro ⟨⟩ env
  dsimp only [upds]
  repeat' first | refine adv ?_ | refine Side.go ?_ | refine Giv.mk fun _ => ?_ | refine All.mk fun q => ?_ | refine Fork.mk ?_ ?_ | (refine Two.mk (fun h => ?_) (fun h => ?_) <;> try first | contradiction | (exfalso; omega))
  exact endQ.oneW Tryz.results101 ⟨rfl, rfl⟩ (fun w h => goes w h)

theorem tx_may1 (m : Nat) (M : Mg) (r : MgR) (h : Int) (t : Nat) (T : Tr) (k : Int) (d : List UInt8) (hr : tv r.ts = M.all) (hg : vget r.ts h = some (t, T)) (hq : M.queue = []) (hS : T.S.l = []) (hW : T.W.vs = [(k, d)]) (hk : 0 ≤ k ∧ k ≤ 1048575)
    (hE : ∀ e ∈ M.E.vs, I64 e.1 ∧ 0 < e.2.length ∧ e.2.length ≤ 2000000) (hall : ∀ e ∈ M.all, e.2.W.vs.length ≤ 1000000 ∧ ∀ x ∈ e.2.W.vs, I64 x.1) :
    Spec Tryz.prog 100 #[.pointer (some ⟨m, 0, none⟩), .pointer (some ⟨t, 0, none⟩)] (mgL m M r) (fun v L => v = .int .i64 (M.mayC T k) ∧ L = mgL m M r) := by
  refine enter2 Tryz.func100 rfl (by decide) (by decide) ?_
  intro B F
  dsimp only [lcA, lnA]
  dsimp only [mgL, List.cons_append, List.nil_append]
  refine Sy_know (fun B w h => map_nodup (r := r.rm) (es := vmap trV r.ts) B w h) (fun hn => ?_)
  rw [vmap_keys] at hn
  have hwt : M.waits = [] := by rw [Mg.waits, hq]; rfl
  rw [hq]
  refine Sy_conv (take_f (trF r.em) hn hg) ?_
  dsimp only [trF]
  refine Sy_all (fun w h => trO_open h) (fun q => ?_)
  obtain ⟨b, v⟩ := q
  dsimp only [List.length_nil]
  cases hro : M.ro with
  | true =>
    repeat' first | refine adv ?_ | refine Side.go ?_ | refine Giv.mk fun _ => ?_ | refine All.mk fun q => ?_ | refine Fork.mk ?_ ?_ | (refine Two.mk (fun h => ?_) (fun h => ?_) <;> try first | contradiction | (exfalso; omega))
    exact endQ_conv (back_tr (em := r.em) (t := t) (b := b) (v := v) hn hg) (endQ.oneW Tryz.results100 ⟨by rw [Mg.mayC, if_pos hro], rfl⟩ (fun w h => goes w h))
  | false =>
  repeat' first | refine adv ?_ | refine Side.go ?_ | refine Giv.mk fun _ => ?_ | refine All.mk fun q => ?_ | refine Fork.mk ?_ ?_ | (refine Two.mk (fun h => ?_) (fun h => ?_) <;> try first | contradiction | (exfalso; omega))
  refine CallG.use (tx_waiting0 m r.em r.bk r.rm r.qa r.qc (.int .i64 M.out) (.int .i64 M.num) (.int .i64 M.base) (.int .i64 M.last) (.int .i64 M.given) (.bool false)) ?_
  rintro r M ⟨rfl, rfl⟩
  dsimp only [lcA, lnA]
  repeat' first | refine adv ?_ | refine Side.go ?_ | refine Giv.mk fun _ => ?_ | refine All.mk fun q => ?_ | refine Fork.mk ?_ ?_ | (refine Two.mk (fun h => ?_) (fun h => ?_) <;> try first | contradiction | (exfalso; omega))
  refine CallG.use (rs_set v r.em b T.at_ T.S hS) ?_
  rintro r M ⟨s1, rfl, rfl⟩
  dsimp only [lcA, lnA]
  repeat' first | refine adv ?_ | refine Side.go ?_ | refine Giv.mk fun _ => ?_ | refine All.mk fun q => ?_ | refine Fork.mk ?_ ?_ | (refine Two.mk (fun h => ?_) (fun h => ?_) <;> try first | contradiction | (exfalso; omega))
  refine CallG.use (wb_set1 b T.W k d hW hk) ?_
  rintro r M ⟨s2, rfl, rfl⟩
  dsimp only [lcA, lnA]
  repeat' first | refine adv ?_ | refine Side.go ?_ | refine Giv.mk fun _ => ?_ | refine All.mk fun q => ?_ | refine Fork.mk ?_ ?_ | (refine Two.mk (fun h => ?_) (fun h => ?_) <;> try first | contradiction | (exfalso; omega))
  refine CallG.use (valid_check r.em s1 s2 M.E ⟨64, []⟩ ⟨1, [⟨k, 1⟩]⟩ T.at_ none 0 hE (by simp) (by simp) (by intro e he; cases he) (by intro e he; rw [List.mem_singleton.1 he]; dsimp only; omega)) ?_
  rintro r M ⟨rfl, rfl⟩
  dsimp only [lcA, lnA]
  repeat' first | refine adv ?_ | refine Side.go ?_ | refine Giv.mk fun _ => ?_ | refine All.mk fun q => ?_ | refine Fork.mk ?_ ?_ | (refine Two.mk (fun h => ?_) (fun h => ?_) <;> try first | contradiction | (exfalso; omega))
  · exact endQ_conv (back_tr (em := r.em) (t := t) (b := b) (v := v) hn hg) (endQ.oneW Tryz.results100 ⟨by rw [Mg.mayC, if_neg (by rw [hro]; decide), if_pos (by assumption)], rfl⟩ (fun w h => goes w h))
  · exact endQ_conv (back_tr (em := r.em) (t := t) (b := b) (v := v) hn hg) (endQ.oneW Tryz.results100 ⟨by rw [Mg.mayC, if_neg (by rw [hro]; decide), if_neg (by assumption), if_pos (by assumption)], rfl⟩ (fun w h => goes w h))
  · exact endQ_conv (back_tr (em := r.em) (t := t) (b := b) (v := v) hn hg) (endQ.oneW Tryz.results100 ⟨by rw [Mg.mayC, if_neg (by rw [hro]; decide), if_neg (by assumption), if_neg (by assumption)], rfl⟩ (fun w h => goes w h))

/-- Commit of one that writes a single block, where nothing waits. -/
def Mg.commit1 (M : Mg) (hd : Int) (T : Tr) (k : Int) : Int × Mg :=
  if M.mayC T k ≠ 0 then (M.mayC T k, M.end hd 4 (M.mayC T k))
  else (0, { M with given := M.given + 1, all := vset M.all hd { T with st := 2, time := M.given + 1 }, queue := [hd] })
theorem tx_commit1 (m : Nat) (M : Mg) (hd : Int) (T : Tr) (k : Int) (d : List UInt8) (hT : vget M.all hd = some T) (hst : T.st = 1) (hq : M.queue = []) (hS : T.S.l = []) (hW : T.W.vs = [(k, d)]) (hk : 0 ≤ k ∧ k ≤ 1048575)
    (hE : ∀ e ∈ M.E.vs, I64 e.1 ∧ 0 < e.2.length ∧ e.2.length ≤ 2000000) (hall : ∀ e ∈ M.all, e.2.W.vs.length ≤ 1000000 ∧ ∀ x ∈ e.2.W.vs, I64 x.1) (hgv : (0 : Int) ≤ M.given) :
    Spec Tryz.prog 53 #[.pointer (some ⟨m, 0, none⟩), .int .i64 hd] [mgO m M] (fun v L => v = .int .i64 (M.commit1 hd T k).1 ∧ L = [mgO m (M.commit1 hd T k).2]) := by
  refine enter2 Tryz.func53 rfl (by decide) (by decide) ?_
  intro B F
  dsimp only [lcA, lnA]
  refine Sy_all (fun w h => mgO_open h) (fun r => ?_)
  obtain ⟨r, hr⟩ := r
  dsimp only [mgL, List.cons_append, List.nil_append] at hr ⊢
  refine Sy_know (fun B w h => map_nodup (r := r.rm) (es := vmap trV r.ts) B w h) (fun hn => ?_)
  rw [vmap_keys] at hn
  obtain ⟨t, hg⟩ : ∃ t, vget r.ts hd = some (t, T) := by
    have hT2 := hT
    rw [← hr, vget_tv] at hT2
    obtain ⟨x, hx, rfl⟩ := Option.map_eq_some_iff.1 hT2
    exact ⟨x.1, hx⟩
  repeat' first | refine adv ?_ | refine Side.go ?_ | refine Giv.mk fun _ => ?_ | refine All.mk fun q => ?_ | refine Fork.mk ?_ ?_ | (refine Two.mk (fun h => ?_) (fun h => ?_) <;> try first | contradiction | (exfalso; omega))
  refine CallG.use (tx_open m M r hd) ?_
  rintro r M ⟨rfl, rfl⟩
  dsimp only [lcA, lnA]
  rw [hg]
  dsimp only
  rw [if_pos hst]
  refine SyO_conv (take_f (trF r.em) hn hg) ?_
  dsimp only [trF, trV]
  refine SyO_all (fun w h => trO_open h) (fun q => ?_)
  obtain ⟨b, v⟩ := q
  dsimp only
  repeat' first | refine adv ?_ | refine Side.go ?_ | refine Giv.mk fun _ => ?_ | refine All.mk fun q => ?_ | refine Fork.mk ?_ ?_ | (refine Two.mk (fun h => ?_) (fun h => ?_) <;> try first | contradiction | (exfalso; omega))
  refine CallG.use (wb_len b T.W (by rw [hW]; intro e he; rw [List.mem_singleton.1 he]; constructor <;> dsimp only <;> omega) (by rw [hW]; simp)) ?_
  rintro r M ⟨rfl, rfl⟩
  dsimp only [lcA, lnA]
  rw [hW]
  repeat' first | refine adv ?_ | refine Side.go ?_ | refine Giv.mk fun _ => ?_ | refine All.mk fun q => ?_ | refine Fork.mk ?_ ?_ | (refine Two.mk (fun h => ?_) (fun h => ?_) <;> try first | contradiction | (exfalso; omega))
  · exfalso
    simp only [List.length_cons, List.length_nil] at h
    omega
  refine CallG_conv (fun B => back_tr (em := r.em) (t := t) (b := b) (v := v) hn hg) ?_
  refine CallG.use (tx_may1 m M r hd t T k d hr hg hq hS hW hk hE hall) ?_
  rintro r M ⟨rfl, rfl⟩
  dsimp only [lcA, lnA]
  by_cases hc : M.mayC T k = 0
  · have hgl : M.given < 1099511627776 := by
      rw [Mg.mayC] at hc
      split at hc
      · exact absurd hc (by decide)
      split at hc
      · contradiction
      split at hc
      · exact absurd hc (by decide)
      · omega
    rw [Mg.commit1, if_neg (by omega), hc]
    refine SyO_conv (take_f (trF r.em) hn hg) ?_
    dsimp only [trF]
    refine SyO_all (fun w h => trO_open h) (fun q => ?_)
    obtain ⟨b', v'⟩ := q
    dsimp only
    repeat' first | refine adv ?_ | refine Side.go ?_ | refine Giv.mk fun _ => ?_ | refine All.mk fun q => ?_ | refine Fork.mk ?_ ?_ | (refine Two.mk (fun h => ?_) (fun h => ?_) <;> try first | contradiction | (exfalso; omega))
    refine AppG.one' (⟨r.qa, r.qc, M.queue⟩ : Sl Int) hd (fun _ => trivial) (by dsimp only; rw [hq]; simp) (fun a2 c2 => ?_)
    repeat' first | refine adv ?_ | refine Side.go ?_ | refine Giv.mk fun _ => ?_ | refine All.mk fun q => ?_ | refine Fork.mk ?_ ?_ | (refine Two.mk (fun h => ?_) (fun h => ?_) <;> try first | contradiction | (exfalso; omega))
    refine endQ_conv (back_tr' (em := r.em) (t := t) (b := b') (v := v') (st := 2) (time := M.given + 1) (code := T.code) (W := T.W) hn hg) (endQ.oneW Tryz.results53 ⟨rfl, rfl⟩ (fun w s =>
      mgO_close { M with given := M.given + 1, all := vset M.all hd { T with st := 2, time := M.given + 1 }, queue := [hd] } { r with qa := a2, qc := c2, ts := vset r.ts hd (t, ⟨2, M.given + 1, T.code, T.at_, T.W, T.S⟩) } ?_ ?_))
    · dsimp only; rw [tv_set, hr]
    · dsimp only
      rw [vmap_same _ hn hg]
      rw [hq] at s
      dsimp only [List.nil_append] at s
      exact goes w s
  · repeat' first | refine adv ?_ | refine Side.go ?_ | refine Giv.mk fun _ => ?_ | refine All.mk fun q => ?_ | refine Fork.mk ?_ ?_ | (refine Two.mk (fun h => ?_) (fun h => ?_) <;> try first | contradiction | (exfalso; omega))
    · refine CallG_conv (L' := mgO m M :: F) (fun B w s => mgO_close M r hr (goes w s)) ?_
      refine CallG.use (tx_end m M hd 4 (M.mayC T k) T hT) ?_
      rintro r M ⟨rfl, rfl⟩
      dsimp only [lcA, lnA]
      repeat' first | refine adv ?_ | refine Side.go ?_ | refine Giv.mk fun _ => ?_ | refine All.mk fun q => ?_ | refine Fork.mk ?_ ?_ | (refine Two.mk (fun h => ?_) (fun h => ?_) <;> try first | contradiction | (exfalso; omega))
      exact endQ.oneW Tryz.results53 ⟨by rw [Mg.commit1, if_pos (by assumption)], by rw [Mg.commit1, if_pos (by assumption)]⟩ (fun w h => goes w h)
end Go.SL
namespace Go.SL
open Go.Proofs
set_option synthInstance.maxSize 4000
set_option synthInstance.maxHeartbeats 400000
set_option maxRecDepth 4000
set_option maxHeartbeats 2000000

def Mg.batch (M : Mg) : Int × Mg × Int × List TV :=
  if 0 < M.out then (16, M, 0, []) else if M.queue = [] then (14, M, 0, [])
  else (0, { M with out := formGo 0 0 M.waits }, (M.num : Int) + 1, M.waits.take (formGo 0 0 M.waits))
theorem tx_batch (m : Nat) (M : Mg) (hq : ∀ h ∈ M.queue, ∃ T, vget M.all h = some T) (hql : M.queue.length ≤ 1000000) (hW : ∀ e ∈ M.all, e.2.W.vs.length ≤ 1000000 ∧ ∀ x ∈ e.2.W.vs, I64 x.1) (hnum : M.num ≤ 1000000000)
    (hform : formGo 0 0 M.waits ≤ M.waits.length) :
    Spec Tryz.prog 54 #[.pointer (some ⟨m, 0, none⟩)] [mgO m M] (fun v L => ∃ t : Sl TxR, t.xs.map TxR.v = M.batch.2.2.2 ∧ v = .tuple #[.agg #[.int .i64 M.batch.2.2.1, t.val], .int .i64 M.batch.1] ∧ L = [mgO m M.batch.2.1, roS t]) := by
  refine enter1 Tryz.func54 rfl (by decide) (by decide) ?_
  intro B F
  dsimp only [lcA, lnA]
  refine Sy_all (fun w h => mgO_open h) (fun r => ?_)
  obtain ⟨r, hr⟩ := r
  dsimp only [mgL, List.cons_append, List.nil_append] at hr ⊢
  repeat' first | refine adv ?_ | refine Side.go ?_ | refine Giv.mk fun _ => ?_ | refine All.mk fun q => ?_ | refine Fork.mk ?_ ?_ | (refine Two.mk (fun h => ?_) (fun h => ?_) <;> try first | contradiction | (exfalso; omega))
  refine CallG.use (tx_gone m r.em (.pointer (some ⟨r.bk, 0, none⟩)) (.map (some r.rm)) (.slice r.qa M.queue.length r.qc) (.int .i64 M.out) (.int .i64 M.num) (.int .i64 M.base) (.int .i64 M.last) (.int .i64 M.given) (.bool M.ro)) ?_
  rintro r M ⟨rfl, rfl⟩
  dsimp only [lcA, lnA]
  repeat' first | refine adv ?_ | refine Side.go ?_ | refine Giv.mk fun _ => ?_ | refine All.mk fun q => ?_ | refine Fork.mk ?_ ?_ | (refine Two.mk (fun h => ?_) (fun h => ?_) <;> try first | contradiction | (exfalso; omega))
  · have e : M.batch = (16, M, 0, []) := by rw [Mg.batch, if_pos (by omega)]
    rw [e]
    exact endQ.resW Tryz.results54 ⟨⟨none, 0, []⟩, rfl, rfl, rfl⟩ (fun w s => mgO_close M r hr (goes w (sat_true (ro_nil (α := TxR)) s)))
  · have hq0 : M.queue = [] := List.eq_nil_of_length_eq_zero (by omega)
    have e : M.batch = (14, M, 0, []) := by rw [Mg.batch, if_neg (by omega), if_pos hq0]
    rw [e]
    exact endQ.resW Tryz.results54 ⟨⟨none, 0, []⟩, rfl, rfl, rfl⟩ (fun w s => mgO_close M r hr (goes w (sat_true (ro_nil (α := TxR)) s)))
  have hq0 : M.queue ≠ [] := fun x => by rw [x] at h; exact h rfl
  have e : M.batch = (0, { M with out := formGo 0 0 M.waits }, (M.num : Int) + 1, M.waits.take (formGo 0 0 M.waits)) := by rw [Mg.batch, if_neg (by omega), if_neg hq0]
  rw [e]
  refine CallG.use (tx_waiting m M r hr hq hql hW) ?_
  rintro r M ⟨t, ht, rfl, rfl⟩
  dsimp only [lcA, lnA]
  repeat' first | refine adv ?_ | refine Side.go ?_ | refine Giv.mk fun _ => ?_ | refine All.mk fun q => ?_ | refine Fork.mk ?_ ?_ | (refine Two.mk (fun h => ?_) (fun h => ?_) <;> try first | contradiction | (exfalso; omega))
  refine CallG.freeze t ?_
  refine CallG.use (batch_form t) ?_
  rintro r M ⟨rfl, rfl⟩
  dsimp only [lcA, lnA]
  rw [ht]
  have htl : t.xs.length = M.waits.length := by rw [← ht]; simp
  have hfl : formGo 0 0 M.waits ≤ t.xs.length := by omega
  repeat' first | refine adv ?_ | refine Side.go ?_ | refine Giv.mk fun _ => ?_ | refine All.mk fun q => ?_ | refine Fork.mk ?_ ?_ | (refine Two.mk (fun h => ?_) (fun h => ?_) <;> try first | contradiction | (exfalso; omega))
  exact endQ.resW Tryz.results54 ⟨⟨q, t.c - 0, List.drop 0 (List.take (formGo 0 0 M.waits) t.xs)⟩, by rw [List.drop_zero, List.map_take, ht], rfl, rfl⟩ (fun w s => mgO_close { M with out := formGo 0 0 M.waits } r hr (goes w s))

/-- One of the batch that is done. -/
def Mg.done1 (M : Mg) (code h : Int) (tx : TV) : Mg :=
  if code ≠ 0 then M.end h 4 code else ({ M with E := (M.E.apply tx.1 tx.2).2, last := tx.1 } : Mg).end h 3 0
def Mg.doneK (M : Mg) (code : Int) : Nat → Mg
  | 0 => M
  | k + 1 => (M.doneK code k).done1 code (M.queue[k]?.getD 0) (M.waits[k]?.getD (0, []))
def Mg.done (M : Mg) (code : Int) : Int × Mg :=
  if M.out = 0 then (14, M) else (0, { M.doneK code M.out with num := if code = 0 then M.num + 1 else M.num, queue := M.queue.drop M.out, out := 0 })

def Tr.ended (T : Tr) (st code : Int) : Tr := { T with st := st, code := code, time := if st = 4 then 0 else T.time }
theorem end_rest (M : Mg) (h st code : Int) : (M.end h st code).queue = M.queue ∧ (M.end h st code).out = M.out ∧ (M.end h st code).num = M.num ∧ (M.end h st code).base = M.base ∧ (M.end h st code).given = M.given ∧ (M.end h st code).ro = M.ro := by
  unfold Mg.end; split <;> exact ⟨rfl, rfl, rfl, rfl, rfl, rfl⟩
theorem doneK_rest (M : Mg) (code : Int) (k : Nat) : (M.doneK code k).queue = M.queue ∧ (M.doneK code k).out = M.out ∧ (M.doneK code k).num = M.num ∧ (M.doneK code k).base = M.base ∧ (M.doneK code k).given = M.given ∧ (M.doneK code k).ro = M.ro := by
  induction k with
  | zero => exact ⟨rfl, rfl, rfl, rfl, rfl, rfl⟩
  | succ k ih =>
    rw [Mg.doneK, Mg.done1]
    split
    · obtain ⟨h1, h2, h3, h4, h5, h6⟩ := end_rest (M.doneK code k) (M.queue[k]?.getD 0) 4 code
      exact ⟨h1.trans ih.1, h2.trans ih.2.1, h3.trans ih.2.2.1, h4.trans ih.2.2.2.1, h5.trans ih.2.2.2.2.1, h6.trans ih.2.2.2.2.2⟩
    · obtain ⟨h1, h2, h3, h4, h5, h6⟩ := end_rest { M.doneK code k with E := ((M.doneK code k).E.apply (M.waits[k]?.getD (0, [])).1 (M.waits[k]?.getD (0, [])).2).2, last := (M.waits[k]?.getD (0, [])).1 } (M.queue[k]?.getD 0) 3 0
      exact ⟨h1.trans ih.1, h2.trans ih.2.1, h3.trans ih.2.2.1, h4.trans ih.2.2.2.1, h5.trans ih.2.2.2.2.1, h6.trans ih.2.2.2.2.2⟩

theorem end_some {M : Mg} {h st code : Int} {T : Tr} (hT : vget M.all h = some T) : M.end h st code = { M with all := vset M.all h (T.ended st code), K := { M.K with ts := verase M.K.ts h } } := by
  simp only [Mg.end, hT, Tr.ended]
/-- The same, where the manager lies open. -/
theorem tx_end_r (m em bk rm : Nat) (x3 x4 x5 x6 x7 x8 x9 : Value) (K : Bk) (ts : List (Int × TrP)) (k st code : Int) (t : Nat) (T : Tr) (hg : vget ts k = some (t, T)) :
    Spec Tryz.prog 99 #[.pointer (some ⟨m, 0, none⟩), .int .i64 k, .int .i64 st, .int .i64 code] [cells true m 0 [.pointer (some ⟨em, 0, none⟩), .pointer (some ⟨bk, 0, none⟩), .map (some rm), x3, x4, x5, x6, x7, x8, x9], bkO bk K, mapO rm (vmap trV ts), bigS (trF em) ts]
      (fun v L => v = .tuple #[] ∧ L = [cells true m 0 [.pointer (some ⟨em, 0, none⟩), .pointer (some ⟨bk, 0, none⟩), .map (some rm), x3, x4, x5, x6, x7, x8, x9], bkO bk { K with ts := verase K.ts k }, mapO rm (vmap trV (vset ts k (t, T.ended st code))), bigS (trF em) (vset ts k (t, T.ended st code))]) := by
  refine enter4 Tryz.func99 rfl (by decide) (by decide) ?_
  intro B F
  dsimp only [lcA, lnA]
  refine Sy_know (fun B w h => map_nodup (r := rm) (es := vmap trV ts) B w h) (fun hn => ?_)
  rw [vmap_keys] at hn
  rw [vmap_same _ hn hg]
  haveI := mg_vmap (f := trV) hg
  refine Sy_conv (take_f (trF em) hn hg) ?_
  dsimp only [trF]
  refine Sy_all (fun w h => trO_open h) (fun q => ?_)
  obtain ⟨b, v⟩ := q
  dsimp only
  repeat' first | refine adv ?_ | refine Side.go ?_ | refine Giv.mk fun _ => ?_ | refine All.mk fun q => ?_ | refine Fork.mk ?_ ?_ | (refine Two.mk (fun h => ?_) (fun h => ?_) <;> try first | contradiction | (exfalso; omega))
  · refine CallG.use (hz_close bk K k) ?_
    rintro r M ⟨rfl, rfl⟩
    dsimp only [lcA, lnA]
    rw [Tr.ended, if_pos h]
    repeat' first | refine adv ?_ | refine Side.go ?_ | refine Giv.mk fun _ => ?_ | refine All.mk fun q => ?_ | refine Fork.mk ?_ ?_ | (refine Two.mk (fun h => ?_) (fun h => ?_) <;> try first | contradiction | (exfalso; omega))
    exact endQ_conv (back_tr' (em := em) (t := t) (b := b) (v := v) (st := st) (time := 0) (code := code) (W := T.W) hn hg) (endQ.noneW Tryz.results99 ⟨rfl, rfl⟩ (fun w s => goes w s))
  · refine CallG.use (hz_close bk K k) ?_
    rintro r M ⟨rfl, rfl⟩
    dsimp only [lcA, lnA]
    rw [Tr.ended, if_neg h]
    repeat' first | refine adv ?_ | refine Side.go ?_ | refine Giv.mk fun _ => ?_ | refine All.mk fun q => ?_ | refine Fork.mk ?_ ?_ | (refine Two.mk (fun h => ?_) (fun h => ?_) <;> try first | contradiction | (exfalso; omega))
    exact endQ_conv (back_tr' (em := em) (t := t) (b := b) (v := v) (st := st) (time := T.time) (code := code) (W := T.W) hn hg) (endQ.noneW Tryz.results99 ⟨rfl, rfl⟩ (fun w s => goes w s))

theorem tx_done (m : Nat) (M : Mg) (code : Int) (hq : ∀ h ∈ M.queue, ∃ T, vget M.all h = some T) (hql : M.queue.length ≤ 1000000) (hW : ∀ e ∈ M.all, e.2.W.vs.length ≤ 1000000 ∧ ∀ x ∈ e.2.W.vs, I64 x.1) (hnum : M.num ≤ 1000000000)
    (hwl : M.waits.length = M.queue.length) (hout : M.out ≤ M.queue.length) (hwp : ∀ x ∈ M.waits, x.2.length ≤ 1000000)
    (hE : ∀ k < M.out, ∀ e ∈ (M.doneK code k).E.vs, e.2.length ≤ 1000000) (hk : ∀ k (h : k < M.out), ∃ T, vget (M.doneK code k).all (M.queue[k]?.getD 0) = some T) :
    Spec Tryz.prog 56 #[.pointer (some ⟨m, 0, none⟩), .int .i64 code] [mgO m M] (fun v L => v = .int .i64 (M.done code).1 ∧ L = [mgO m (M.done code).2]) := by
  refine enter2 Tryz.func56 rfl (by decide) (by decide) ?_
  intro B F
  dsimp only [lcA, lnA]
  refine Sy_all (fun w h => mgO_open h) (fun r => ?_)
  obtain ⟨r, hr⟩ := r
  dsimp only [mgL, List.cons_append, List.nil_append] at hr ⊢
  repeat' first | refine adv ?_ | refine Side.go ?_ | refine Giv.mk fun _ => ?_ | refine All.mk fun q => ?_ | refine Fork.mk ?_ ?_ | (refine Two.mk (fun h => ?_) (fun h => ?_) <;> try first | contradiction | (exfalso; omega))
  refine CallG.use (tx_gone m r.em (.pointer (some ⟨r.bk, 0, none⟩)) (.map (some r.rm)) (.slice r.qa M.queue.length r.qc) (.int .i64 M.out) (.int .i64 M.num) (.int .i64 M.base) (.int .i64 M.last) (.int .i64 M.given) (.bool M.ro)) ?_
  rintro r M ⟨rfl, rfl⟩
  dsimp only [lcA, lnA]
  repeat' first | refine adv ?_ | refine Side.go ?_ | refine Giv.mk fun _ => ?_ | refine All.mk fun q => ?_ | refine Fork.mk ?_ ?_ | (refine Two.mk (fun h => ?_) (fun h => ?_) <;> try first | contradiction | (exfalso; omega))
  · have e : M.done code = (14, M) := by rw [Mg.done, if_pos (by omega)]
    rw [e]
    exact endQ.oneW Tryz.results56 ⟨rfl, rfl⟩ (fun w s => mgO_close M r hr (goes w s))
  refine CallG.use (tx_waiting m M r hr hq hql hW) ?_
  rintro r M ⟨t, ht, rfl, rfl⟩
  dsimp only [lcA, lnA]
  have htl : t.xs.length = M.queue.length := by rw [← hwl, ← ht]; simp
  have hto : M.out ≤ t.xs.length := by omega
  refine adv ?_
  refine RP_conv (L' := roS t :: roS (⟨r.qa, r.qc, M.queue⟩ : Sl Int) :: cells true m 0 [.pointer (some ⟨r.em, 0, none⟩), .pointer (some ⟨r.bk, 0, none⟩), .map (some r.rm), .slice r.qa M.queue.length r.qc, .int .i64 M.out, .int .i64 M.num, .int .i64 M.base, .int .i64 M.last, .int .i64 M.given, .bool M.ro] ::
      emO r.em M.E :: bkO r.bk M.K :: mapO r.rm (vmap trV r.ts) :: bigS (trF r.em) r.ts :: F) (fun w s => goes w s) ?_
  repeat' first | refine adv ?_ | refine Side.go ?_ | refine Giv.mk fun _ => ?_ | refine All.mk fun q => ?_ | refine Fork.mk ?_ ?_ | (refine Two.mk (fun h => ?_) (fun h => ?_) <;> try first | contradiction | (exfalso; omega))
  rename_i qt
  dsimp only
  have hys : (List.drop 0 (List.take M.out t.xs)) = t.xs.take M.out := rfl
  have hhs : (List.drop 0 (List.take M.out M.queue)) = M.queue.take M.out := rfl
  generalize List.drop 0 (List.take M.out t.xs) = ys at hys ⊢
  generalize List.drop 0 (List.take M.out M.queue) = hs at hhs ⊢
  have hsl : hs.length = M.out := by rw [hhs, List.length_take]; omega
  have ysl : ys.length = M.out := by rw [hys, List.length_take]; omega
  refine CallG.use (clone_ints (⟨q, r.qc - 0, hs⟩ : Sl Int) (by dsimp only; omega)) ?_
  rintro r M ⟨a, c, rfl, rfl⟩
  dsimp only [lcA, lnA]
  repeat' first | refine adv ?_ | refine Side.go ?_ | refine Giv.mk fun _ => ?_ | refine All.mk fun q => ?_ | refine Fork.mk ?_ ?_ | (refine Two.mk (fun h => ?_) (fun h => ?_) <;> try first | contradiction | (exfalso; omega))
  refine Sy_loop (ι := {st : Nat × List (Int × TrP) // st.1 ≤ M.out ∧ tv st.2 = (M.doneK code st.1).all})
    (fun st => [(35, .int .i64 st.1.1), (34, .int .i64 hs.length), (33, .slice a hs.length c), (5, .slice qt ys.length (t.c - 0)), (0, .pointer (some ⟨m, 0, none⟩)), (1, .int .i64 code)])
    (fun st => ownS (⟨a, c, hs⟩ : Sl Int) :: roS (⟨qt, t.c - 0, ys⟩ : Sl TxR) :: roS (⟨r.qa, r.qc, M.queue⟩ : Sl Int) ::
      cells true m 0 [.pointer (some ⟨r.em, 0, none⟩), .pointer (some ⟨r.bk, 0, none⟩), .map (some r.rm), .slice r.qa M.queue.length r.qc, .int .i64 M.out, .int .i64 M.num, .int .i64 M.base, .int .i64 (M.doneK code st.1.1).last, .int .i64 M.given, .bool M.ro] ::
      emO r.em (M.doneK code st.1.1).E :: bkO r.bk (M.doneK code st.1.1).K :: mapO r.rm (vmap trV st.1.2) :: bigS (trF r.em) st.1.2 :: F)
    (fun st => M.out - st.1.1) ⟨(0, r.ts), Nat.zero_le _, hr⟩ (evs rfl (evs rfl (evs rfl (evs rfl (evs rfl (evs rfl .nil)))))) (fun w h => by dsimp only [Mg.doneK]; exact goes w h) ?_
  rintro ⟨⟨k, ts⟩, hk1, hts⟩ env
  dsimp only [upds] at hk1 hts ⊢
  by_cases hk2 : k < M.out
  · have hhk : hs[k]'(by omega) = M.queue[k]?.getD 0 := by
      simp only [hhs, List.getElem_take, List.getElem?_eq_getElem (show k < M.queue.length from by omega), Option.getD_some]
    have hyk : (ys[k]'(by omega)).v = M.waits[k]?.getD (0, []) := by
      rw [← ht]
      simp only [hys, List.getElem_take, List.getElem?_map, List.getElem?_eq_getElem (show k < t.xs.length from by omega), Option.map_some, Option.getD_some]
    obtain ⟨T, hT⟩ := hk k hk2
    rw [← hts, vget_tv] at hT
    obtain ⟨⟨x, T'⟩, hg, rfl⟩ := Option.map_eq_some_iff.1 hT
    dsimp only at hT
    have hsk : k < hs.length := by omega
    have ysk : k < ys.length := by omega
    repeat' first | refine adv ?_ | refine Side.go ?_ | refine Giv.mk fun _ => ?_ | refine All.mk fun q => ?_ | refine Fork.mk ?_ ?_ | (refine Two.mk (fun h => ?_) (fun h => ?_) <;> try first | contradiction | (exfalso; omega))
    · have hTk : vget (M.doneK code k).all (M.queue[k]?.getD 0) = some T' := by rw [← hts, vget_tv, hg]; rfl
      have e1 : M.doneK code (k + 1) = { M.doneK code k with all := vset (M.doneK code k).all (M.queue[k]?.getD 0) (T'.ended 4 code), K := { (M.doneK code k).K with ts := verase (M.doneK code k).K.ts (M.queue[k]?.getD 0) } } := by
        rw [Mg.doneK, Mg.done1, if_pos (by assumption), end_some hTk]
      rw [← hhk] at hg e1
      refine CallG.use (tx_end_r m r.em r.bk r.rm (.slice r.qa M.queue.length r.qc) (.int .i64 M.out) (.int .i64 M.num) (.int .i64 M.base) (.int .i64 (M.doneK code k).last) (.int .i64 M.given) (.bool M.ro) (M.doneK code k).K ts hs[k] 4 code x T' hg) ?_
      rintro r M ⟨rfl, rfl⟩
      dsimp only [lcA, lnA]
      repeat' first | refine adv ?_ | refine Side.go ?_ | refine Giv.mk fun _ => ?_ | refine All.mk fun q => ?_ | refine Fork.mk ?_ ?_ | (refine Two.mk (fun h => ?_) (fun h => ?_) <;> try first | contradiction | (exfalso; omega))
      refine loopQ.next ⟨(k + 1, vset ts hs[k] (x, T'.ended 4 code)), by dsimp only; omega, ?_⟩ (by simp only []; omega) (evs rfl (evs rfl (evs rfl (evs rfl (evs rfl (evs rfl .nil)))))) (fun w h => ?_)
      · dsimp only
        rw [tv_set, hts, e1]
      · dsimp only
        rw [e1]
        exact goes w h
    · have hc0 : code = 0 := by omega
      subst hc0
      have hTk : vget (M.doneK 0 k).all (M.queue[k]?.getD 0) = some T' := by rw [← hts, vget_tv, hg]; rfl
      have e1 : M.doneK 0 (k + 1) = { M.doneK 0 k with all := vset (M.doneK 0 k).all (M.queue[k]?.getD 0) (T'.ended 3 0), E := ((M.doneK 0 k).E.apply ys[k].time (ys[k].ps.xs.map PutR.v)).2, last := ys[k].time, K := { (M.doneK 0 k).K with ts := verase (M.doneK 0 k).K.ts (M.queue[k]?.getD 0) } } := by
        rw [Mg.doneK, Mg.done1, if_neg (by omega), ← hyk]
        exact end_some (M := { M.doneK 0 k with E := ((M.doneK 0 k).E.apply ys[k].time (ys[k].ps.xs.map PutR.v)).2, last := ys[k].time }) hTk
      rw [← hhk] at hg e1
      have hpn : ys[k].ps.xs.length ≤ 1000000 := by
        have h1 := hwp (M.waits[k]?.getD (0, [])) (by
          have h2 : k < M.waits.length := by omega
          rw [List.getElem?_eq_getElem h2]
          exact List.getElem_mem h2)
        rw [← hyk] at h1
        simpa [TxR.v] using h1
      refine CallG.pull (fun B => pull_tx (⟨qt, t.c - 0, ys⟩ : Sl TxR) ysk) ?_
      refine CallG.use (ext_apply r.em (M.doneK 0 k).E ys[k].time ys[k].ps (hE k hk2) hpn) ?_
      rintro r M ⟨rfl, rfl⟩
      dsimp only [lcA, lnA]
      repeat' first | refine adv ?_ | refine Side.go ?_ | refine Giv.mk fun _ => ?_ | refine All.mk fun q => ?_ | refine Fork.mk ?_ ?_ | (refine Two.mk (fun h => ?_) (fun h => ?_) <;> try first | contradiction | (exfalso; omega))
      refine CallG.use (tx_end_r m r.em r.bk r.rm (.slice r.qa M.queue.length r.qc) (.int .i64 M.out) (.int .i64 M.num) (.int .i64 M.base) (.int .i64 ys[k].time) (.int .i64 M.given) (.bool M.ro) (M.doneK 0 k).K ts hs[k] 3 0 x T' hg) ?_
      rintro r M ⟨rfl, rfl⟩
      dsimp only [lcA, lnA]
      repeat' first | refine adv ?_ | refine Side.go ?_ | refine Giv.mk fun _ => ?_ | refine All.mk fun q => ?_ | refine Fork.mk ?_ ?_ | (refine Two.mk (fun h => ?_) (fun h => ?_) <;> try first | contradiction | (exfalso; omega))
      refine loopQ.next ⟨(k + 1, vset ts hs[k] (x, T'.ended 3 0)), by dsimp only; omega, ?_⟩ (by simp only []; omega) (evs rfl (evs rfl (evs rfl (evs rfl (evs rfl (evs rfl .nil)))))) (fun w h => ?_)
      · dsimp only
        rw [tv_set, hts, e1]
      · dsimp only
        rw [e1]
        exact goes w h
  · have hk3 : k = M.out := by omega
    subst hk3
    obtain ⟨hr1, hr2, hr3, hr4, hr5, hr6⟩ := doneK_rest M code M.out
    repeat' first | refine adv ?_ | refine Side.go ?_ | refine Giv.mk fun _ => ?_ | refine All.mk fun q => ?_ | refine Fork.mk ?_ ?_ | (refine Two.mk (fun h => ?_) (fun h => ?_) <;> try first | contradiction | (exfalso; omega))
    · dsimp only
      have hzs : List.drop M.out (List.take M.queue.length M.queue) = M.queue.drop M.out := by rw [List.take_length]
      rw [hzs]
      refine CallG.use (clone_ints (⟨q, r.qc - M.out, M.queue.drop M.out⟩ : Sl Int) (by dsimp only; rw [List.length_drop]; omega)) ?_
      rintro r M ⟨a2, c2, rfl, rfl⟩
      dsimp only [lcA, lnA]
      repeat' first | refine adv ?_ | refine Side.go ?_ | refine Giv.mk fun _ => ?_ | refine All.mk fun q => ?_ | refine Fork.mk ?_ ?_ | (refine Two.mk (fun h => ?_) (fun h => ?_) <;> try first | contradiction | (exfalso; omega))
      have e : M.done code = (0, { M.doneK code M.out with num := M.num + 1, queue := M.queue.drop M.out, out := 0 }) := by rw [Mg.done, if_neg (by omega), if_pos h]
      rw [e]
      refine endQ.oneW Tryz.results56 ⟨rfl, rfl⟩ (fun w s => mgO_close { M.doneK code M.out with num := M.num + 1, queue := M.queue.drop M.out, out := 0 } { r with qa := a2, qc := c2, ts := ts } hts ?_)
      dsimp only
      rw [hr4, hr5, hr6, show ((M.num + 1 : Nat) : Int) = (M.num : Int) + 1 from by omega, show ((0 : Nat) : Int) = 0 from rfl]
      exact goes w s
    · dsimp only
      have hzs : List.drop M.out (List.take M.queue.length M.queue) = M.queue.drop M.out := by rw [List.take_length]
      rw [hzs]
      refine CallG.use (clone_ints (⟨q, r.qc - M.out, M.queue.drop M.out⟩ : Sl Int) (by dsimp only; rw [List.length_drop]; omega)) ?_
      rintro r M ⟨a2, c2, rfl, rfl⟩
      dsimp only [lcA, lnA]
      repeat' first | refine adv ?_ | refine Side.go ?_ | refine Giv.mk fun _ => ?_ | refine All.mk fun q => ?_ | refine Fork.mk ?_ ?_ | (refine Two.mk (fun h => ?_) (fun h => ?_) <;> try first | contradiction | (exfalso; omega))
      have e : M.done code = (0, { M.doneK code M.out with num := M.num, queue := M.queue.drop M.out, out := 0 }) := by rw [Mg.done, if_neg (by omega), if_neg h]
      rw [e]
      refine endQ.oneW Tryz.results56 ⟨rfl, rfl⟩ (fun w s => mgO_close { M.doneK code M.out with num := M.num, queue := M.queue.drop M.out, out := 0 } { r with qa := a2, qc := c2, ts := ts } hts ?_)
      dsimp only
      rw [hr4, hr5, hr6, show ((0 : Nat) : Int) = 0 from rfl]
      exact goes w s
end Go.SL
namespace Go.SL

section
variable {L : List HProp}
class SetF (α : Type) [Rep α] (x : α) (f : Nat) (v : Value) (y : outParam α) : Prop where
  enc : Rep.enc y = (Rep.enc x).set f v
  lt : f < Rep.k α
  own : ∀ h, Rep.own x h → Rep.own y h
theorem flat_setF {α : Type} [Rep α] : ∀ (xs : List α) (j f : Nat) (y : α) (v : Value) (hj : j < xs.length), Rep.enc y = (Rep.enc xs[j]).set f v → f < Rep.k α → flat (xs.set j y) = (flat xs).set (j * Rep.k α + f) v
  | [], j, _, _, _, hj, _, _ => by simp at hj
  | x :: xs, 0, f, y, v, _, he, hf => by
    simp only [List.getElem_cons_zero] at he
    unfold flat
    simp only [List.set_cons_zero, List.flatMap_cons, Nat.zero_mul, Nat.zero_add]
    rw [he, List.set_append_left _ _ (by rw [Rep.len]; exact hf)]
  | x :: xs, j + 1, f, y, v, hj, he, hf => by
    simp only [List.getElem_cons_succ] at he
    have ih := flat_setF xs j f y v (by simpa using hj) he hf
    unfold flat at ih ⊢
    simp only [List.set_cons_succ, List.flatMap_cons]
    have hl : (Rep.enc x).length = Rep.k α := Rep.len x
    rw [ih, List.set_append_right _ _ (by rw [hl, Nat.add_mul]; omega), hl]
    congr 2
    rw [Nat.add_mul]; omega
instance (priority := low) stf_ownF {α : Type} [Rep α] (s : Sl α) (r o k j f : Nat) (v : Value) (y : α) [er : Eq1 (blk s.a) r] [kk : KIs α k] [q : Off2 o (offs s.a) k j f] [lt : Lt j s.xs.length] [d : SetF α (s.xs[j]'lt.h) f v y] :
    StF (ownS s :: L) r o v (ownS ⟨s.a, s.c, s.xs.set j y⟩ :: L) := ⟨fun B X w hs => by
  have hs' : sat B (ownS s :: (L ++ X)) w := hs
  obtain ⟨ok, room, hl, hc⟩ := ownS_cells hs'
  have hlt := lt.h
  have hf := d.lt
  have hin : j * Rep.k α + f < (flat s.xs).length := by
    rw [flat_length]
    have h1 : (j + 1) * Rep.k α ≤ s.xs.length * Rep.k α := Nat.mul_le_mul_right _ hlt
    rw [Nat.add_mul, Nat.one_mul] at h1
    omega
  have hj : j * Rep.k α + f < (flat s.xs ++ room).length := by rw [List.length_append]; omega
  have hcell := hc.cell (i := j * Rep.k α + f) (v := (flat s.xs ++ room)[j * Rep.k α + f]) (by simp [hj])
  have hfr := hc.notFrozen (i := j * Rep.k α + f) (v := (flat s.xs ++ room)[j * Rep.k α + f]) (by simp [hj])
  have eo : o = offs s.a + (j * Rep.k α + f) := by rw [q.h, kk.h]
  rw [← er.h, eo]
  refine ⟨⟨_, hcell⟩, hfr, ?_⟩
  have h2 := hc.set (v := v) hj
  have e : (flat s.xs ++ room).set (j * Rep.k α + f) v = flat (s.xs.set j y) ++ room := by
    rw [List.set_append_left _ _ hin, flat_setF s.xs j f y v hlt d.enc hf]
  rw [e] at h2
  refine ownS_of_cells (s := ⟨s.a, s.c, s.xs.set j y⟩) (room := room) ⟨ok.spot, by simpa using ok.cap, ok.null, by simpa using ok.len⟩ (by simpa using hl) ?_
  have h3 := h2.perm (.swap _ _ _)
  refine (h3.head (A' := fun h => ∀ x ∈ s.xs.set j y, Rep.own x h) fun h a x hx => ?_).perm (.swap _ _ _)
  rcases List.mem_or_eq_of_mem_set hx with hx | rfl
  · exact a x hx
  · exact d.own h (a _ (List.getElem_mem hlt))⟩
end
end Go.SL
namespace Go.SL
open Go.Proofs
set_option synthInstance.maxSize 4000
set_option synthInstance.maxHeartbeats 400000
set_option maxRecDepth 4000
set_option maxHeartbeats 2000000

def joinStep (out : List ExR) (e : ExR) : List ExR :=
  match out.getLast? with
  | none => [e]
  | some x => if e.f ≤ x.f + x.n then out.set (out.length - 1) ⟨x.f, max x.n (e.f + e.n - x.f)⟩ else out ++ [e]
def joinL (l : List ExR) : List ExR := l.foldl joinStep []
def ExB (e : ExR) : Prop := 0 ≤ e.f ∧ 0 ≤ e.n ∧ e.f + e.n ≤ 1048577
theorem may_exb {f n : Int} (h : mayB f n = true) : ExB ⟨f, n⟩ := by unfold mayB at h; simp at h; exact ⟨by dsimp only; omega, by dsimp only; omega, by dsimp only; omega⟩
theorem joinStep_exb {out : List ExR} {e : ExR} (ho : ∀ x ∈ out, ExB x) (he : ExB e) : ∀ x ∈ joinStep out e, ExB x := by
  unfold joinStep
  intro x hx
  split at hx
  · rw [List.mem_singleton.1 hx]; exact he
  · rename_i y hy
    have hy2 := ho y (List.mem_of_getLast? hy)
    split at hx
    · rcases List.mem_or_eq_of_mem_set hx with h | rfl
      · exact ho x h
      · obtain ⟨h1, h2, h3⟩ := hy2
        obtain ⟨h4, h5, h6⟩ := he
        exact ⟨h1, by dsimp only; omega, by dsimp only; omega⟩
    · rcases List.mem_append.1 hx with h | h
      · exact ho x h
      · rw [List.mem_singleton.1 h]; exact he
instance setf_ex1 (x : ExR) (n : Int) : SetF ExR x 1 (.int .i64 n) ⟨x.f, n⟩ := ⟨rfl, by decide, fun _ _ => trivial⟩

theorem iv_joined (s : Sl ExR) (hl : s.xs.length ≤ 1000000) (hb : ∀ e ∈ s.xs, ExB e) : Spec Tryz.prog 187 #[s.val] [roS s] (fun v L => ∃ ys : List ExR, ys.Perm s.xs ∧ (∀ i j (hi : i < ys.length) (hj : j < ys.length), i < j → ys[i].f ≤ ys[j].f) ∧ freshS (joinL ys) v L) := by
  refine enter1 Tryz.func187 rfl (by decide) (by decide) ?_
  intro B F
  dsimp only [lcA, lnA]
  repeat' first | refine adv ?_ | refine Side.go ?_ | refine Giv.mk fun _ => ?_ | refine All.mk fun q => ?_ | refine Fork.mk ?_ ?_ | (refine Two.mk (fun h => ?_) (fun h => ?_) <;> try first | contradiction | (exfalso; omega))
  refine CallG.use (clone_ex s (by omega)) ?_
  rintro r M ⟨a, c, rfl, rfl⟩
  dsimp only [lcA, lnA]
  repeat' first | refine adv ?_ | refine Side.go ?_ | refine Giv.mk fun _ => ?_ | refine All.mk fun q => ?_ | refine Fork.mk ?_ ?_ | (refine Two.mk (fun h => ?_) (fun h => ?_) <;> try first | contradiction | (exfalso; omega))
  refine CallG.use (sortfunc_ex ⟨a, c, s.xs⟩) ?_
  rintro r M ⟨ys, hp, hso, rfl, rfl⟩
  dsimp only [lcA, lnA]
  dsimp only at hp
  have hyl : ys.length = s.xs.length := hp.length_eq
  have hyb : ∀ e ∈ ys, ExB e := fun e he => hb e (hp.mem_iff.1 he)
  rw [← hyl]
  repeat' first | refine adv ?_ | refine Side.go ?_ | refine Giv.mk fun _ => ?_ | refine All.mk fun q => ?_ | refine Fork.mk ?_ ?_ | (refine Two.mk (fun h => ?_) (fun h => ?_) <;> try first | contradiction | (exfalso; omega))
  refine Sy_loop (ι := {st : Nat × Sl ExR // (st.1 ≤ ys.length ∧ st.2.xs.length ≤ st.1 ∧ ∀ x ∈ st.2.xs, ExB x) ∧ st.2.xs = joinL (ys.take st.1)})
    (fun st => [(12, .int .i64 st.1.1), (11, .int .i64 ys.length), (10, .slice a ys.length c), (2, st.1.2.val)])
    (fun st => ownS st.1.2 :: ownS (⟨a, c, ys⟩ : Sl ExR) :: F) (fun st => ys.length - st.1.1) ⟨(0, ⟨none, 0, []⟩), ⟨Nat.zero_le _, Nat.zero_le _, fun x hx => by cases hx⟩, rfl⟩ (evs rfl (evs rfl (evs rfl (evs rfl .nil)))) (fun w h => goes w (sat_true (own_nil (α := ExR)) h)) ?_
  rintro ⟨⟨k, out⟩, ⟨hk, hol, hob⟩, hout⟩ env
  dsimp only [upds] at hk hol hob hout ⊢
  by_cases hk2 : k < ys.length
  · have hj : joinL (ys.take (k + 1)) = joinStep out.xs ys[k] := by
      rw [List.take_succ_eq_append_getElem hk2, joinL, List.foldl_append, hout]; rfl
    have hyk := hyb ys[k] (List.getElem_mem hk2)
    by_cases ho0 : out.xs.length = 0
    · have hoe : out.xs = [] := List.eq_nil_of_length_eq_zero ho0
      repeat' first | refine adv ?_ | refine Side.go ?_ | refine Giv.mk fun _ => ?_ | refine All.mk fun q => ?_ | refine Fork.mk ?_ ?_ | (refine Two.mk (fun h => ?_) (fun h => ?_) <;> try first | contradiction | (exfalso; omega))
      refine AppG.one' out ys[k] (fun _ => trivial) (by omega) (fun a2 c2 => ?_)
      repeat' first | refine adv ?_ | refine Side.go ?_ | refine Giv.mk fun _ => ?_ | refine All.mk fun q => ?_ | refine Fork.mk ?_ ?_ | (refine Two.mk (fun h => ?_) (fun h => ?_) <;> try first | contradiction | (exfalso; omega))
      refine loopQ.next ⟨(k + 1, ⟨a2, c2, out.xs ++ [ys[k]]⟩), ⟨by dsimp only; omega, by simp; omega, fun x hx => ?_⟩, ?_⟩ (by simp only []; omega) (evs rfl (evs rfl (evs rfl (evs rfl .nil)))) (fun w h => goes w h)
      · dsimp only at hx
        rw [hoe] at hx
        rw [List.mem_singleton.1 hx]; exact hyk
      · dsimp only
        rw [hj, hoe]; rfl
    · haveI : ToNat ((out.xs.length : Int) - 1) (out.xs.length - 1) := ⟨by omega⟩
      have hlx : out.xs.length - 1 < out.xs.length := by omega
      obtain ⟨g1, g2, g3⟩ := hob (out.xs[out.xs.length - 1]'hlx) (List.getElem_mem hlx)
      obtain ⟨g4, g5, g6⟩ := hyk
      have hgl : out.xs.getLast? = some (out.xs[out.xs.length - 1]'hlx) := by rw [List.getLast?_eq_getElem?, List.getElem?_eq_getElem hlx]
      repeat' first | refine adv ?_ | refine Side.go ?_ | refine Giv.mk fun _ => ?_ | refine All.mk fun q => ?_ | refine Fork.mk ?_ ?_ | (refine Two.mk (fun h => ?_) (fun h => ?_) <;> try first | contradiction | (exfalso; omega))
      · have hjs : joinStep out.xs ys[k] = out.xs.set (out.xs.length - 1) ⟨(out.xs[out.xs.length - 1]'hlx).f, max (out.xs[out.xs.length - 1]'hlx).n (ys[k].f + ys[k].n - (out.xs[out.xs.length - 1]'hlx).f)⟩ := by
          unfold joinStep; rw [hgl]; dsimp only; rw [if_pos (by omega)]
        refine loopQ.next ⟨(k + 1, ⟨out.a, out.c, out.xs.set (out.xs.length - 1) ⟨(out.xs[out.xs.length - 1]'hlx).f, max (out.xs[out.xs.length - 1]'hlx).n (ys[k].f + ys[k].n - (out.xs[out.xs.length - 1]'hlx).f)⟩⟩), ⟨by dsimp only; omega, by dsimp only; rw [List.length_set]; omega, ?_⟩, ?_⟩ (by simp only []; omega) (evs rfl (evs rfl (evs rfl (evs (by dsimp only [Sl.val]; rw [List.length_set]) .nil)))) (fun w h => goes w h)
        · rw [← hjs]; exact joinStep_exb hob ⟨g4, g5, g6⟩
        · dsimp only; rw [hj, hjs]
      · have hjs : joinStep out.xs ys[k] = out.xs ++ [ys[k]] := by
          unfold joinStep; rw [hgl]; dsimp only; rw [if_neg (by omega)]
        refine AppG.one' out ys[k] (fun _ => trivial) (by omega) (fun a2 c2 => ?_)
        repeat' first | refine adv ?_ | refine Side.go ?_ | refine Giv.mk fun _ => ?_ | refine All.mk fun q => ?_ | refine Fork.mk ?_ ?_ | (refine Two.mk (fun h => ?_) (fun h => ?_) <;> try first | contradiction | (exfalso; omega))
        refine loopQ.next ⟨(k + 1, ⟨a2, c2, out.xs ++ [ys[k]]⟩), ⟨by dsimp only; omega, by simp; omega, ?_⟩, ?_⟩ (by simp only []; omega) (evs rfl (evs rfl (evs rfl (evs rfl .nil)))) (fun w h => goes w h)
        · rw [← hjs]; exact joinStep_exb hob ⟨g4, g5, g6⟩
        · dsimp only; rw [hj, hjs]
  · have hk3 : k = ys.length := by omega
    subst hk3
    rw [List.take_length] at hout
    repeat' first | refine adv ?_ | refine Side.go ?_ | refine Giv.mk fun _ => ?_ | refine All.mk fun q => ?_ | refine Fork.mk ?_ ?_ | (refine Two.mk (fun h => ?_) (fun h => ?_) <;> try first | contradiction | (exfalso; omega))
    exact endQ.one Tryz.results187 ⟨ys, hp, hso, by rw [← hout]; exact freshS.mk out.a out.c⟩

/-- Add: any extents into any set. -/
def Iv.addR (S : Iv) (l : List ExR) (v : Int) (S' : Iv) : Prop :=
  (allMay l = false ∧ v = 1 ∧ S' = S) ∨ (allMay l = true ∧ l = [] ∧ v = 0 ∧ S' = S) ∨
  (allMay l = true ∧ l ≠ [] ∧ ∃ ys : List ExR, ys.Perm (S.l ++ l) ∧ (∀ i j (hi : i < ys.length) (hj : j < ys.length), i < j → ys[i].f ≤ ys[j].f) ∧
    ((S.most < (joinL ys).length ∧ v = 7 ∧ S' = S) ∨ (¬ S.most < (joinL ys).length ∧ v = 0 ∧ S' = { S with l := joinL ys })))
theorem iv_add (p : Nat) (S : Iv) (hSl : S.l.length ≤ 100000) (hSb : ∀ e ∈ S.l, ExB e) (s : Sl ExR) (hl : s.xs.length ≤ 100000) :
    Spec Tryz.prog 160 #[.pointer (some ⟨p, 0, none⟩), s.val] [ivO p S, roS s] (fun v L => ∃ (e : Int) (S' : Iv), S.addR s.xs e S' ∧ v = .int .i64 e ∧ L = [ivO p S']) := by
  refine enter2 Tryz.func160 rfl (by decide) (by decide) ?_
  intro B F
  dsimp only [lcA, lnA]
  refine Sy_all (fun w h => ivO_open h) (fun q => ?_)
  obtain ⟨a0, c0⟩ := q
  dsimp only
  repeat' first | refine adv ?_ | refine Side.go ?_ | refine Giv.mk fun _ => ?_ | refine All.mk fun q => ?_ | refine Fork.mk ?_ ?_ | (refine Two.mk (fun h => ?_) (fun h => ?_) <;> try first | contradiction | (exfalso; omega))
  refine CallG.use (iv_all s) ?_
  rintro r M ⟨rfl, rfl⟩
  dsimp only [lcA, lnA]
  cases hall : allMay s.xs with
  | false =>
    repeat' first | refine adv ?_ | refine Side.go ?_ | refine Giv.mk fun _ => ?_ | refine All.mk fun q => ?_ | refine Fork.mk ?_ ?_ | (refine Two.mk (fun h => ?_) (fun h => ?_) <;> try first | contradiction | (exfalso; omega))
    refine endQ.oneW Tryz.results160 ⟨1, S, .inl ⟨hall, rfl, rfl⟩, rfl, rfl⟩ (fun w h => ivO_close S a0 c0 ?_)
    exact goes w h
  | true =>
    repeat' first | refine adv ?_ | refine Side.go ?_ | refine Giv.mk fun _ => ?_ | refine All.mk fun q => ?_ | refine Fork.mk ?_ ?_ | (refine Two.mk (fun h => ?_) (fun h => ?_) <;> try first | contradiction | (exfalso; omega))
    · refine endQ.oneW Tryz.results160 ⟨0, S, .inr (.inl ⟨hall, List.eq_nil_of_length_eq_zero (by omega), rfl, rfl⟩), rfl, rfl⟩ (fun w h => ivO_close S a0 c0 ?_)
      exact goes w h
    have hne : s.xs ≠ [] := fun e => by rw [e] at h; exact h rfl
    have hsb : ∀ e ∈ s.xs, ExB e := fun e he => by
      have h1 : mayB e.f e.n = true := by
        have h2 := hall
        unfold allMay at h2
        rw [Bool.not_eq_true', List.any_eq_false] at h2
        simpa using h2 e he
      exact may_exb h1
    refine CallG_conv (L' := roS (⟨some ⟨q, 0, none⟩, 2, [⟨a0, c0, S.l⟩, s]⟩ : Sl (Sl ExR)) :: cells true p 0 [.int .i64 S.most, .slice a0 S.l.length c0] :: roS (⟨a0, c0, S.l⟩ : Sl ExR) :: F) (fun B w h => ?_) ?_
    · have h2 : sat B (cells true q 0 ([(⟨a0, c0, S.l⟩ : Sl ExR), s].map Sl.val) :: ([(⟨a0, c0, S.l⟩ : Sl ExR), s].map roS ++ (cells true p 0 [.int .i64 S.most, .slice a0 S.l.length c0] :: roS (⟨a0, c0, S.l⟩ : Sl ExR) :: F))) w :=
        (goes w h : sat B (cells true q 0 [.slice a0 S.l.length c0, s.val] :: cells true p 0 [.int .i64 S.most, .slice a0 S.l.length c0] :: roS (⟨a0, c0, S.l⟩ : Sl ExR) :: roS s :: roS (⟨a0, c0, S.l⟩ : Sl ExR) :: F) w).perm (.cons _ (.trans (.swap _ _ _) (.cons _ (.swap _ _ _))))
      exact roS_pack _ (by simp) (by simp) h2
    have hcat : ([⟨a0, c0, S.l⟩, s] : List (Sl ExR)).flatMap (·.xs) = S.l ++ s.xs := by simp
    refine CallG.use (concat_ex ⟨some ⟨q, 0, none⟩, 2, [⟨a0, c0, S.l⟩, s]⟩ (by dsimp only; rw [hcat, List.length_append]; omega)) ?_
    rintro r M ⟨a1, c1, rfl, rfl⟩
    rw [hcat]
    dsimp only [lcA, lnA]
    repeat' first | refine adv ?_ | refine Side.go ?_ | refine Giv.mk fun _ => ?_ | refine All.mk fun q => ?_ | refine Fork.mk ?_ ?_ | (refine Two.mk (fun h => ?_) (fun h => ?_) <;> try first | contradiction | (exfalso; omega))
    refine CallG.use (iv_joined (⟨a1, c1, S.l ++ s.xs⟩ : Sl ExR) (by dsimp only; rw [List.length_append]; omega) (fun e he => (List.mem_append.1 he).elim (hSb e) (hsb e))) ?_
    rintro r M ⟨ys, hp, hso, a2, c2, rfl, rfl⟩
    dsimp only [lcA, lnA]
    repeat' first | refine adv ?_ | refine Side.go ?_ | refine Giv.mk fun _ => ?_ | refine All.mk fun q => ?_ | refine Fork.mk ?_ ?_ | (refine Two.mk (fun h => ?_) (fun h => ?_) <;> try first | contradiction | (exfalso; omega))
    · refine endQ.oneW Tryz.results160 ⟨7, S, .inr (.inr ⟨hall, hne, ys, hp, hso, .inl ⟨by omega, rfl, rfl⟩⟩), rfl, rfl⟩ (fun w h => ivO_close S a0 c0 ?_)
      exact goes w h
    · refine endQ.oneW Tryz.results160 ⟨0, { S with l := joinL ys }, .inr (.inr ⟨hall, hne, ys, hp, hso, .inr ⟨by omega, rfl, rfl⟩⟩), rfl, rfl⟩ (fun w h => ivO_close { S with l := joinL ys } a2 c2 ?_)
      exact goes w h
end Go.SL
namespace Go.SL
open Go.Proofs
set_option synthInstance.maxSize 4000
set_option synthInstance.maxHeartbeats 400000
set_option maxRecDepth 4000
set_option maxHeartbeats 2000000

theorem index_exH (s : Sl ExR) (g : FuncId) [TFunc Tryz.prog g] (cs : List Value) (H : List HProp) (pred : ExR → Bool)
    (hg : ∀ j (h : j < s.xs.length), Spec Tryz.prog g (.agg #[.int .i64 s.xs[j].f, .int .i64 s.xs[j].n] :: cs).toArray H (fun v L => v = .bool (pred s.xs[j]) ∧ L = H)) :
    Spec Tryz.prog 207 #[s.val, .func (.func g) #[] cs.toArray] (roS s :: H) (fun v L => ∃ n : Int, v = .int .i64 n ∧ (0 ≤ n ↔ s.xs.any pred = true) ∧ L = H) := by
  refine enter2 Tryz.func207 rfl (by decide) (by decide) ?_
  intro B F
  dsimp only [lcA, lnA]
  refine Sy_know (fun B w h => ro_ok s B w h) (fun hs => ?_)
  have hsl := hs.len
  repeat' first | refine adv ?_ | refine Side.go ?_ | refine Giv.mk fun _ => ?_ | refine All.mk fun q => ?_ | refine Fork.mk ?_ ?_ | (refine Two.mk (fun h => ?_) (fun h => ?_) <;> try first | contradiction | (exfalso; omega))
  refine Sy_loop (ι := {k : Nat // k ≤ s.xs.length ∧ (s.xs.take k).any pred = false}) (fun k => [(8, .int .i64 k.1), (7, .int .i64 s.xs.length), (0, s.val), (1, .func (.func g) #[] cs.toArray)]) (fun _ => roS s :: (H ++ F))
      (fun k => s.xs.length - k.1) ⟨0, Nat.zero_le _, rfl⟩ (evs rfl (evs rfl (evs rfl (evs rfl .nil)))) (fun _ h => h) ?_
  rintro ⟨k, hk, hp⟩ env
  dsimp only [upds]
  repeat' first | refine adv ?_ | refine Side.go ?_ | refine Giv.mk fun _ => ?_ | refine All.mk fun q => ?_ | refine Fork.mk ?_ ?_ | (refine Two.mk (fun h => ?_) (fun h => ?_) <;> try first | contradiction | (exfalso; omega))
  · have hk2 : k < s.xs.length := by omega
    refine CallG_conv (L' := H ++ (roS s :: F)) (fun B w h => h.perm List.perm_middle.symm) ?_
    refine CallG.use (R := roS s :: F) (p := ⟨fun _ _ _ h => h⟩) (hg k hk2) ?_
    rintro r M ⟨rfl, rfl⟩
    repeat' first | refine adv ?_ | refine Side.go ?_ | refine Giv.mk fun _ => ?_ | refine All.mk fun q => ?_ | refine Fork.mk ?_ ?_ | (refine Two.mk (fun h => ?_) (fun h => ?_) <;> try first | contradiction | (exfalso; omega))
    · refine endQ.oneW Tryz.results207 ⟨_, rfl, ⟨fun _ => ?_, fun _ => by omega⟩, rfl⟩ (fun w h => h.perm List.perm_middle |>.tail)
      rw [List.any_eq_true]
      exact ⟨s.xs[k], List.getElem_mem hk2, h⟩
    · refine loopQ.next ⟨k + 1, by omega, ?_⟩ (by simp only []; omega) (evs rfl (evs rfl (evs rfl (evs rfl .nil)))) (fun w h => h.perm List.perm_middle)
      rw [List.take_succ_eq_append_getElem hk2, List.any_append, hp]
      simpa using h
  · have hk3 : k = s.xs.length := by omega
    subst hk3
    rw [List.take_length] at hp
    refine endQ.oneW Tryz.results207 ⟨_, rfl, ⟨fun hn => by omega, fun hn => by rw [hp] at hn; cases hn⟩, rfl⟩ (fun w h => h.tail)
theorem contains_exH (s : Sl ExR) (g : FuncId) [TFunc Tryz.prog g] (cs : List Value) (H : List HProp) (pred : ExR → Bool)
    (hg : ∀ j (h : j < s.xs.length), Spec Tryz.prog g (.agg #[.int .i64 s.xs[j].f, .int .i64 s.xs[j].n] :: cs).toArray H (fun v L => v = .bool (pred s.xs[j]) ∧ L = H)) :
    Spec Tryz.prog 197 #[s.val, .func (.func g) #[] cs.toArray] (roS s :: H) (fun v L => v = .bool (s.xs.any pred) ∧ L = H) := by
  refine enter2 Tryz.func197 rfl (by decide) (by decide) ?_
  intro B F
  dsimp only [lcA, lnA]
  repeat' first | refine adv ?_ | refine Side.go ?_ | refine Giv.mk fun _ => ?_ | refine All.mk fun q => ?_ | refine Fork.mk ?_ ?_ | (refine Two.mk (fun h => ?_) (fun h => ?_) <;> try first | contradiction | (exfalso; omega))
  refine CallG.use (R := F) (p := ⟨fun _ _ _ h => h⟩) (index_exH s g cs H pred hg) ?_
  rintro r M ⟨n, rfl, hn, rfl⟩
  repeat' first | refine adv ?_ | refine Side.go ?_ | refine Giv.mk fun _ => ?_ | refine All.mk fun q => ?_ | refine Fork.mk ?_ ?_ | (refine Two.mk (fun h => ?_) (fun h => ?_) <;> try first | contradiction | (exfalso; omega))
  refine endQ.one Tryz.results197 ⟨?_, rfl⟩
  congr 1
  rw [Bool.eq_iff_iff, decide_eq_true_eq, hn]

def meetB (a b : ExR) : Bool := decide (a.f < b.f + b.n) && decide (b.f < a.f + a.n)
theorem iv_meet (a b : ExR) (ha : ExB a) (hb : ExB b) : Spec Tryz.prog 206 #[.agg #[.int .i64 a.f, .int .i64 a.n], .agg #[.int .i64 b.f, .int .i64 b.n]] [] (fun v L => v = .bool (meetB a b) ∧ L = []) := by
  obtain ⟨a1, a2, a3⟩ := ha
  obtain ⟨b1, b2, b3⟩ := hb
  refine enter2 Tryz.func206 rfl (by decide) (by decide) ?_
  intro B F
  dsimp only [lcA, lnA]
  repeat' first | refine adv ?_ | refine Side.go ?_ | refine Giv.mk fun _ => ?_ | refine All.mk fun q => ?_ | refine Fork.mk ?_ ?_ | (refine Two.mk (fun h => ?_) (fun h => ?_) <;> try first | contradiction | (exfalso; omega))
  all_goals refine endQ.one Tryz.results206 ⟨?_, rfl⟩
  all_goals unfold meetB
  · rw [decide_eq_true (by omega : a.f < b.f + b.n), Bool.true_and]
  · rw [decide_eq_false (by omega : ¬ a.f < b.f + b.n), Bool.false_and]
theorem iv_meets1 (x e : ExR) (hx : ExB x) (he : ExB e) (r : Nat) : Spec Tryz.prog 205 #[.agg #[.int .i64 x.f, .int .i64 x.n], .pointer (some ⟨r, 0, none⟩)] [cells true r 0 [.int .i64 e.f, .int .i64 e.n]] (fun v L => v = .bool (meetB x e) ∧ L = [cells true r 0 [.int .i64 e.f, .int .i64 e.n]]) := by
  refine enter2 Tryz.func205 rfl (by decide) (by decide) ?_
  intro B F
  dsimp only [lcA, lnA]
  repeat' first | refine adv ?_ | refine Side.go ?_ | refine Giv.mk fun _ => ?_ | refine All.mk fun q => ?_ | refine Fork.mk ?_ ?_ | (refine Two.mk (fun h => ?_) (fun h => ?_) <;> try first | contradiction | (exfalso; omega))
  refine CallG.use (iv_meet x e hx he) ?_
  rintro r M ⟨rfl, rfl⟩
  dsimp only [lcA, lnA]
  repeat' first | refine adv ?_ | refine Side.go ?_ | refine Giv.mk fun _ => ?_ | refine All.mk fun q => ?_ | refine Fork.mk ?_ ?_ | (refine Two.mk (fun h => ?_) (fun h => ?_) <;> try first | contradiction | (exfalso; omega))
  exact endQ.one Tryz.results205 ⟨rfl, rfl⟩
def Iv.meets (S : Iv) (e : ExR) : Bool := mayB e.f e.n && S.l.any (fun x => meetB x e)
theorem iv_meets (p : Nat) (S : Iv) (hS : ∀ x ∈ S.l, ExB x) (e : ExR) : Spec Tryz.prog 196 #[.pointer (some ⟨p, 0, none⟩), .agg #[.int .i64 e.f, .int .i64 e.n]] [ivO p S] (fun v L => v = .bool (S.meets e) ∧ L = [ivO p S]) := by
  refine enter2 Tryz.func196 rfl (by decide) (by decide) ?_
  intro B F
  dsimp only [lcA, lnA]
  refine Sy_all (fun w h => ivO_open h) (fun q => ?_)
  obtain ⟨a0, c0⟩ := q
  dsimp only
  repeat' first | refine adv ?_ | refine Side.go ?_ | refine Giv.mk fun _ => ?_ | refine All.mk fun q => ?_ | refine Fork.mk ?_ ?_ | (refine Two.mk (fun h => ?_) (fun h => ?_) <;> try first | contradiction | (exfalso; omega))
  refine CallG.use (iv_may e.f e.n) ?_
  rintro r M ⟨rfl, rfl⟩
  dsimp only [lcA, lnA]
  cases hm : mayB e.f e.n with
  | false =>
    repeat' first | refine adv ?_ | refine Side.go ?_ | refine Giv.mk fun _ => ?_ | refine All.mk fun q => ?_ | refine Fork.mk ?_ ?_ | (refine Two.mk (fun h => ?_) (fun h => ?_) <;> try first | contradiction | (exfalso; omega))
    refine endQ.oneW Tryz.results196 ⟨by unfold Iv.meets; rw [hm]; rfl, rfl⟩ (fun w h => ivO_close S a0 c0 (goes w h))
  | true =>
    repeat' first | refine adv ?_ | refine Side.go ?_ | refine Giv.mk fun _ => ?_ | refine All.mk fun q => ?_ | refine Fork.mk ?_ ?_ | (refine Two.mk (fun h => ?_) (fun h => ?_) <;> try first | contradiction | (exfalso; omega))
    have he : ExB e := may_exb hm
    refine CallG_conv (L' := [roS (⟨a0, c0, S.l⟩ : Sl ExR), cells true q 0 [.int .i64 e.f, .int .i64 e.n]] ++ (cells true p 0 [.int .i64 S.most, .slice a0 S.l.length c0] :: roS (⟨a0, c0, S.l⟩ : Sl ExR) :: F)) (fun B w h => by simp only [lcA, lnA]; exact goes w h) ?_
    refine CallG.use (R := cells true p 0 [.int .i64 S.most, .slice a0 S.l.length c0] :: roS (⟨a0, c0, S.l⟩ : Sl ExR) :: F) (p := ⟨fun _ _ _ h => h⟩) (contains_exH (⟨a0, c0, S.l⟩ : Sl ExR) 205 [.pointer (some ⟨q, 0, none⟩)] [cells true q 0 [.int .i64 e.f, .int .i64 e.n]] (fun x => meetB x e) (fun j hj => iv_meets1 S.l[j] e (hS _ (List.getElem_mem hj)) he q)) ?_
    rintro r M ⟨rfl, rfl⟩
    dsimp only [lcA, lnA]
    repeat' first | refine adv ?_ | refine Side.go ?_ | refine Giv.mk fun _ => ?_ | refine All.mk fun q => ?_ | refine Fork.mk ?_ ?_ | (refine Two.mk (fun h => ?_) (fun h => ?_) <;> try first | contradiction | (exfalso; omega))
    refine endQ.oneW Tryz.results196 ⟨by unfold Iv.meets; rw [hm, Bool.true_and], rfl⟩ (fun w h => ivO_close S a0 c0 (goes w h))
theorem iv_has (p : Nat) (S : Iv) (hS : ∀ x ∈ S.l, ExB x) (k : Int) : Spec Tryz.prog 185 #[.pointer (some ⟨p, 0, none⟩), .int .i64 k] [ivO p S] (fun v L => v = .bool (S.meets ⟨k, 1⟩) ∧ L = [ivO p S]) := by
  refine enter2 Tryz.func185 rfl (by decide) (by decide) ?_
  intro B F
  dsimp only [lcA, lnA]
  repeat' first | refine adv ?_ | refine Side.go ?_ | refine Giv.mk fun _ => ?_ | refine All.mk fun q => ?_ | refine Fork.mk ?_ ?_ | (refine Two.mk (fun h => ?_) (fun h => ?_) <;> try first | contradiction | (exfalso; omega))
  refine CallG.use (iv_meets p S hS ⟨k, 1⟩) ?_
  rintro r M ⟨rfl, rfl⟩
  dsimp only [lcA, lnA]
  repeat' first | refine adv ?_ | refine Side.go ?_ | refine Giv.mk fun _ => ?_ | refine All.mk fun q => ?_ | refine Fork.mk ?_ ?_ | (refine Two.mk (fun h => ?_) (fun h => ?_) <;> try first | contradiction | (exfalso; omega))
  exact endQ.one Tryz.results185 ⟨rfl, rfl⟩
theorem val_against1 (x p : Nat) (S : Iv) (hS : ∀ x ∈ S.l, ExB x) (lba : Int) (d : Sl UInt8) : Spec Tryz.prog 184 #[.agg #[.int .i64 lba, d.val], .pointer (some ⟨x, 0, none⟩)] [roS d, cells true x 0 [.pointer (some ⟨p, 0, none⟩)], ivO p S]
    (fun v L => v = .bool (S.meets ⟨lba, 1⟩) ∧ L = [cells true x 0 [.pointer (some ⟨p, 0, none⟩)], ivO p S]) := by
  refine enter2 Tryz.func184 rfl (by decide) (by decide) ?_
  intro B F
  dsimp only [lcA, lnA]
  repeat' first | refine adv ?_ | refine Side.go ?_ | refine Giv.mk fun _ => ?_ | refine All.mk fun q => ?_ | refine Fork.mk ?_ ?_ | (refine Two.mk (fun h => ?_) (fun h => ?_) <;> try first | contradiction | (exfalso; omega))
  refine CallG.use (iv_has p S hS lba) ?_
  rintro r M ⟨rfl, rfl⟩
  dsimp only [lcA, lnA]
  repeat' first | refine adv ?_ | refine Side.go ?_ | refine Giv.mk fun _ => ?_ | refine All.mk fun q => ?_ | refine Fork.mk ?_ ?_ | (refine Two.mk (fun h => ?_) (fun h => ?_) <;> try first | contradiction | (exfalso; omega))
  exact endQ.oneW Tryz.results184 ⟨rfl, rfl⟩ (fun w h => goes w h)
def Iv.against (S : Iv) (t : TV) : Bool := t.2.any fun p => S.meets ⟨p.1, 1⟩
theorem val_against (p : Nat) (S : Iv) (hS : ∀ x ∈ S.l, ExB x) (t : TxR) : Spec Tryz.prog 159 #[.agg #[.int .i64 t.time, t.ps.val], .pointer (some ⟨p, 0, none⟩)] [roS t.ps, ivO p S] (fun v L => v = .bool (S.against t.v) ∧ L = [ivO p S]) := by
  refine enter2 Tryz.func159 rfl (by decide) (by decide) ?_
  intro B F
  dsimp only [lcA, lnA]
  repeat' first | refine adv ?_ | refine Side.go ?_ | refine Giv.mk fun _ => ?_ | refine All.mk fun q => ?_ | refine Fork.mk ?_ ?_ | (refine Two.mk (fun h => ?_) (fun h => ?_) <;> try first | contradiction | (exfalso; omega))
  rename_i b2
  refine CallG_conv (L' := [roS t.ps, cells true q 0 [.pointer (some ⟨p, 0, none⟩)], ivO p S] ++ F) (fun B w h => by simp only [lcA, lnA]; exact goes w h) ?_
  refine CallG.use (R := F) (p := ⟨fun _ _ _ h => h⟩) (contains_put t.ps 184 [.pointer (some ⟨q, 0, none⟩)] [cells true q 0 [.pointer (some ⟨p, 0, none⟩)], ivO p S] (fun y => S.meets ⟨y.1, 1⟩) (fun j hj => val_against1 q p S hS t.ps.xs[j].lba t.ps.xs[j].d)) ?_
  rintro r M ⟨rfl, rfl⟩
  dsimp only [lcA, lnA]
  repeat' first | refine adv ?_ | refine Side.go ?_ | refine Giv.mk fun _ => ?_ | refine All.mk fun q => ?_ | refine Fork.mk ?_ ?_ | (refine Two.mk (fun h => ?_) (fun h => ?_) <;> try first | contradiction | (exfalso; omega))
  exact endQ.oneW Tryz.results159 ⟨rfl, rfl⟩ (fun w h => goes w h)
end Go.SL
namespace Go.SL
open Go.Proofs
set_option synthInstance.maxSize 4000
set_option synthInstance.maxHeartbeats 400000
set_option maxRecDepth 4000
set_option maxHeartbeats 2000000

def hitS (E : Em) (at_ : Int) (Q : List TV) (S : Iv) : Bool := S.l.any (hitE E at_) || Q.any S.against
def checkQ (E : Em) (at_ : Int) (Q : List TV) (R W : Iv) : Int := if sumN W.l = 0 then 0 else if (hitS E at_ Q R || hitS E at_ Q W) = true then 8 else 0
theorem valid_checkQ (m r w : Nat) (E : Em) (R W : Iv) (at_ : Int) (Q : Sl TxR) (hk : ∀ e ∈ E.vs, I64 e.1 ∧ 0 < e.2.length ∧ e.2.length ≤ 2000000)
    (hR : R.l.length ≤ 1000000) (hW : W.l.length ≤ 1000000) (hR2 : ∀ e ∈ R.l, ExB e) (hW2 : ∀ e ∈ W.l, ExB e) (hQ : Q.xs.length ≤ 1000000) :
    Spec Tryz.prog 139 #[.pointer (some ⟨m, 0, none⟩), Q.val, .int .i64 at_, .pointer (some ⟨r, 0, none⟩), .pointer (some ⟨w, 0, none⟩)] [emO m E, ivO r R, ivO w W, roS Q]
      (fun v L => v = .int .i64 (checkQ E at_ (Q.xs.map TxR.v) R W) ∧ L = [emO m E, ivO r R, ivO w W]) := by
  refine enter5 Tryz.func139 rfl (by decide) (by decide) ?_
  intro B F
  dsimp only [lcA, lnA]
  repeat' first | refine adv ?_ | refine Side.go ?_ | refine Giv.mk fun _ => ?_ | refine All.mk fun q => ?_ | refine Fork.mk ?_ ?_ | (refine Two.mk (fun h => ?_) (fun h => ?_) <;> try first | contradiction | (exfalso; omega))
  refine CallG.use (iv_count w W hW (fun e he => by obtain ⟨h1, h2, h3⟩ := hW2 e he; omega)) ?_
  rintro r M ⟨rfl, rfl⟩
  dsimp only [lcA, lnA]
  repeat' first | refine adv ?_ | refine Side.go ?_ | refine Giv.mk fun _ => ?_ | refine All.mk fun q => ?_ | refine Fork.mk ?_ ?_ | (refine Two.mk (fun h => ?_) (fun h => ?_) <;> try first | contradiction | (exfalso; omega))
  · have hz := h
    exact endQ.oneW Tryz.results139 ⟨by rw [checkQ, if_pos hz], rfl⟩ (fun w h => goes w h)
  have hz := h
  refine Sy_loop (ι := {j : Nat // j ≤ 2 ∧ (0 < j → hitS E at_ (Q.xs.map TxR.v) R = false) ∧ (1 < j → hitS E at_ (Q.xs.map TxR.v) W = false)})
    (fun j => [(25, .int .i64 j.1), (24, .agg #[.pointer (some ⟨r, 0, none⟩), .pointer (some ⟨w, 0, none⟩)]), (11, .int .i64 0), (0, .pointer (some ⟨m, 0, none⟩)), (1, Q.val), (2, .int .i64 at_)])
    (fun _ => emO m E :: ivO r R :: ivO w W :: roS Q :: F) (fun j => 2 - j.1) ⟨0, by decide, fun h => by omega, fun h => by omega⟩ (evs rfl (evs rfl (evs rfl (evs rfl (evs rfl (evs rfl .nil)))))) (fun w h => goes w h) ?_
  rintro ⟨j, hj, hno⟩ env
  dsimp only [upds] at hj hno ⊢
  by_cases hj2 : j < 2
  · obtain ⟨s, S, s', S', hat, hp1, hp2, hSe, hS2, hS3⟩ : ∃ s S s' S', AtA #[.pointer (some ⟨r, 0, none⟩), .pointer (some ⟨w, 0, none⟩)] j (.pointer (some ⟨s, 0, none⟩)) ∧
        (∀ B w' L, sat B (ivO r R :: ivO w W :: L) w' → sat B (ivO s S :: ivO s' S' :: L) w') ∧ (∀ B w' L, sat B (ivO s S :: ivO s' S' :: L) w' → sat B (ivO r R :: ivO w W :: L) w') ∧ S = (if j = 0 then R else W) ∧ S.l.length ≤ 1000000 ∧ (∀ e ∈ S.l, ExB e) := by
      rcases j with _ | _ | j
      · exact ⟨r, R, w, W, ⟨rfl⟩, fun _ _ _ h => h, fun _ _ _ h => h, rfl, hR, hR2⟩
      · exact ⟨w, W, r, R, ⟨rfl⟩, fun _ _ _ h => h.perm (.swap _ _ _), fun _ _ _ h => h.perm (.swap _ _ _), rfl, hW, hW2⟩
      · omega
    haveI := hat
    have fin : ∀ w', sat B (ivO s S :: ivO s' S' :: emO m E :: roS Q :: F) w' → sat B (emO m E :: ivO r R :: ivO w W :: roS Q :: F) w' := fun w' h => goes w' (hp2 B w' _ h)
    have fin2 : ∀ w', sat B (ivO s S :: ivO s' S' :: emO m E :: roS Q :: F) w' → sat B ([emO m E, ivO r R, ivO w W] ++ F) w' := fun w' h => by
      have := fin w' h
      simp only [lcA, lnA]
      exact goes w' this
    have hbad : hitS E at_ (Q.xs.map TxR.v) S = true → checkQ E at_ (Q.xs.map TxR.v) R W = 8 := fun h => by
      rw [checkQ, if_neg hz, if_pos]
      rw [hSe] at h
      split at h
      · rw [h, Bool.true_or]
      · rw [h, Bool.or_true]
    refine Sy_conv (L' := ivO s S :: ivO s' S' :: emO m E :: roS Q :: F) (fun w' h => hp1 B w' _ (goes w' h)) ?_
    repeat' first | refine adv ?_ | refine Side.go ?_ | refine Giv.mk fun _ => ?_ | refine All.mk fun q => ?_ | refine Fork.mk ?_ ?_ | (refine Two.mk (fun h => ?_) (fun h => ?_) <;> try first | contradiction | (exfalso; omega))
    refine CallG.use (iv_extents s S hS2) ?_
    rintro r M ⟨a, c, rfl, rfl⟩
    dsimp only [lcA, lnA]
    repeat' first | refine adv ?_ | refine Side.go ?_ | refine Giv.mk fun _ => ?_ | refine All.mk fun q => ?_ | refine Fork.mk ?_ ?_ | (refine Two.mk (fun h => ?_) (fun h => ?_) <;> try first | contradiction | (exfalso; omega))
    refine Sy_loop (ι := {k : Nat // k ≤ S.l.length ∧ (S.l.take k).any (hitE E at_) = false})
      (fun k => [(31, .int .i64 k.1), (30, .int .i64 S.l.length), (29, .slice a S.l.length c), (25, .int .i64 j), (24, .agg #[.pointer (some ⟨r, 0, none⟩), .pointer (some ⟨w, 0, none⟩)]), (13, .pointer (some ⟨s, 0, none⟩)), (11, .int .i64 0), (0, .pointer (some ⟨m, 0, none⟩)), (1, Q.val), (2, .int .i64 at_)])
      (fun _ => ownS (⟨a, c, S.l⟩ : Sl ExR) :: ivO s S :: ivO s' S' :: emO m E :: roS Q :: F) (fun k => S.l.length - k.1) ⟨0, Nat.zero_le _, rfl⟩ (evs rfl (evs rfl (evs rfl (evs rfl (evs rfl (evs rfl (evs rfl (evs rfl (evs rfl (evs rfl .nil)))))))))) (fun w h => goes w h) ?_
    rintro ⟨k, hk1, hk2⟩ env
    dsimp only [upds] at hk1 hk2 ⊢
    by_cases hk3 : k < S.l.length
    · obtain ⟨b1, b2, b3⟩ := hS3 S.l[k] (List.getElem_mem hk3)
      have hta : (S.l.take (k + 1)).any (hitE E at_) = hitE E at_ S.l[k] := by rw [List.take_succ_eq_append_getElem hk3, List.any_append, hk2]; simp
      have hall : hitE E at_ S.l[k] = true → hitS E at_ (Q.xs.map TxR.v) S = true := fun h => by
        unfold hitS
        rw [List.any_eq_true.2 ⟨_, List.getElem_mem hk3, h⟩, Bool.true_or]
      repeat' first | refine adv ?_ | refine Side.go ?_ | refine Giv.mk fun _ => ?_ | refine All.mk fun q => ?_ | refine Fork.mk ?_ ?_ | (refine Two.mk (fun h => ?_) (fun h => ?_) <;> try first | contradiction | (exfalso; omega))
      refine CallG.use (ext_written m E S.l[k].f (min S.l[k].n 1048576) at_ hk) ?_
      rintro r M ⟨rfl, rfl⟩
      dsimp only [lcA, lnA]
      cases h1 : E.written S.l[k].f (min S.l[k].n 1048576) at_ with
      | true =>
        have hh : hitE E at_ S.l[k] = true := by rw [hitE, h1, Bool.true_or]
        repeat' first | refine adv ?_ | refine Side.go ?_ | refine Giv.mk fun _ => ?_ | refine All.mk fun q => ?_ | refine Fork.mk ?_ ?_ | (refine Two.mk (fun h => ?_) (fun h => ?_) <;> try first | contradiction | (exfalso; omega))
        exact endQ.oneW Tryz.results139 ⟨by rw [hbad (hall hh)], rfl⟩ (fun w h => fin2 w (goes w h))
      | false =>
        repeat' first | refine adv ?_ | refine Side.go ?_ | refine Giv.mk fun _ => ?_ | refine All.mk fun q => ?_ | refine Fork.mk ?_ ?_ | (refine Two.mk (fun h => ?_) (fun h => ?_) <;> try first | contradiction | (exfalso; omega))
        refine CallG.use (ext_written m E (S.l[k].f + S.l[k].n - 1) 1 at_ hk) ?_
        rintro r M ⟨rfl, rfl⟩
        dsimp only [lcA, lnA]
        cases h2 : E.written (S.l[k].f + S.l[k].n - 1) 1 at_ with
        | true =>
          have hh : hitE E at_ S.l[k] = true := by rw [hitE, h1, h2, Bool.or_true]
          repeat' first | refine adv ?_ | refine Side.go ?_ | refine Giv.mk fun _ => ?_ | refine All.mk fun q => ?_ | refine Fork.mk ?_ ?_ | (refine Two.mk (fun h => ?_) (fun h => ?_) <;> try first | contradiction | (exfalso; omega))
          exact endQ.oneW Tryz.results139 ⟨by rw [hbad (hall hh)], rfl⟩ (fun w h => fin2 w (goes w h))
        | false =>
          have hh : hitE E at_ S.l[k] = false := by rw [hitE, h1, h2, Bool.or_false]
          repeat' first | refine adv ?_ | refine Side.go ?_ | refine Giv.mk fun _ => ?_ | refine All.mk fun q => ?_ | refine Fork.mk ?_ ?_ | (refine Two.mk (fun h => ?_) (fun h => ?_) <;> try first | contradiction | (exfalso; omega))
          refine loopQ.next ⟨k + 1, by omega, by rw [hta, hh]⟩ (by simp only []; omega) (evs rfl (evs rfl (evs rfl (evs rfl (evs rfl (evs rfl (evs rfl (evs rfl (evs rfl (evs rfl .nil)))))))))) (fun w h => goes w h)
    · have hk4 : k = S.l.length := by omega
      subst hk4
      rw [List.take_length] at hk2
      repeat' first | refine adv ?_ | refine Side.go ?_ | refine Giv.mk fun _ => ?_ | refine All.mk fun q => ?_ | refine Fork.mk ?_ ?_ | (refine Two.mk (fun h => ?_) (fun h => ?_) <;> try first | contradiction | (exfalso; omega))
      refine Sy_loop (ι := {k : Nat // k ≤ Q.xs.length ∧ ((Q.xs.take k).map TxR.v).any S.against = false})
        (fun k => [(59, .int .i64 k.1), (58, .int .i64 Q.xs.length), (57, Q.val), (25, .int .i64 j), (24, .agg #[.pointer (some ⟨r, 0, none⟩), .pointer (some ⟨w, 0, none⟩)]), (13, .pointer (some ⟨s, 0, none⟩)), (11, .int .i64 0), (0, .pointer (some ⟨m, 0, none⟩)), (1, Q.val), (2, .int .i64 at_)])
        (fun _ => ivO s S :: ivO s' S' :: emO m E :: roS Q :: F) (fun k => Q.xs.length - k.1) ⟨0, Nat.zero_le _, rfl⟩ (evs rfl (evs rfl (evs rfl (evs rfl (evs rfl (evs rfl (evs rfl (evs rfl (evs rfl (evs rfl .nil)))))))))) (fun w h => goes w h) ?_
      rintro ⟨k, hk5, hk6⟩ env
      dsimp only [upds] at hk5 hk6 ⊢
      by_cases hk7 : k < Q.xs.length
      · have hta : ((Q.xs.take (k + 1)).map TxR.v).any S.against = S.against Q.xs[k].v := by rw [List.take_succ_eq_append_getElem hk7, List.map_append, List.any_append, hk6]; simp
        have hall : S.against Q.xs[k].v = true → hitS E at_ (Q.xs.map TxR.v) S = true := fun h => by
          unfold hitS
          rw [(List.any_eq_true.2 ⟨Q.xs[k].v, List.mem_map.2 ⟨_, List.getElem_mem hk7, rfl⟩, h⟩ : (Q.xs.map TxR.v).any S.against = true), Bool.or_true]
        refine Sy_conv (pull_tx Q hk7) ?_
        repeat' first | refine adv ?_ | refine Side.go ?_ | refine Giv.mk fun _ => ?_ | refine All.mk fun q => ?_ | refine Fork.mk ?_ ?_ | (refine Two.mk (fun h => ?_) (fun h => ?_) <;> try first | contradiction | (exfalso; omega))
        refine CallG.use (val_against s S hS3 Q.xs[k]) ?_
        rintro r M ⟨rfl, rfl⟩
        dsimp only [lcA, lnA]
        cases h3 : S.against Q.xs[k].v with
        | true =>
          repeat' first | refine adv ?_ | refine Side.go ?_ | refine Giv.mk fun _ => ?_ | refine All.mk fun q => ?_ | refine Fork.mk ?_ ?_ | (refine Two.mk (fun h => ?_) (fun h => ?_) <;> try first | contradiction | (exfalso; omega))
          exact endQ.oneW Tryz.results139 ⟨by rw [hbad (hall h3)], rfl⟩ (fun w h => fin2 w (goes w h))
        | false =>
          repeat' first | refine adv ?_ | refine Side.go ?_ | refine Giv.mk fun _ => ?_ | refine All.mk fun q => ?_ | refine Fork.mk ?_ ?_ | (refine Two.mk (fun h => ?_) (fun h => ?_) <;> try first | contradiction | (exfalso; omega))
          refine loopQ.next ⟨k + 1, by omega, by rw [hta, h3]⟩ (by simp only []; omega) (evs rfl (evs rfl (evs rfl (evs rfl (evs rfl (evs rfl (evs rfl (evs rfl (evs rfl (evs rfl .nil)))))))))) (fun w h => goes w h)
      · have hk8 : k = Q.xs.length := by omega
        subst hk8
        rw [List.take_length] at hk6
        have hSn : hitS E at_ (Q.xs.map TxR.v) S = false := by unfold hitS; rw [hk2, hk6]; rfl
        repeat' first | refine adv ?_ | refine Side.go ?_ | refine Giv.mk fun _ => ?_ | refine All.mk fun q => ?_ | refine Fork.mk ?_ ?_ | (refine Two.mk (fun h => ?_) (fun h => ?_) <;> try first | contradiction | (exfalso; omega))
        refine loopQ.next ⟨j + 1, by omega, ?_, ?_⟩ (by simp only []; omega) (evs rfl (evs rfl (evs rfl (evs rfl (evs rfl (evs rfl .nil)))))) (fun w' h => fin w' (goes w' h))
        · intro _
          rcases j with _ | j
          · rw [hSe, if_pos rfl] at hSn; exact hSn
          · exact hno.1 (by omega)
        · intro h1
          rw [hSe, if_neg (by omega)] at hSn; exact hSn
  · have hj3 : j = 2 := by omega
    subst hj3
    repeat' first | refine adv ?_ | refine Side.go ?_ | refine Giv.mk fun _ => ?_ | refine All.mk fun q => ?_ | refine Fork.mk ?_ ?_ | (refine Two.mk (fun h => ?_) (fun h => ?_) <;> try first | contradiction | (exfalso; omega))
    refine endQ.oneW Tryz.results139 ⟨?_, rfl⟩ (fun w h => goes w h)
    rw [checkQ, if_neg hz, if_neg (by rw [hno.1 (by decide), hno.2 (by decide)]; simp)]
end Go.SL
namespace Go.SL
open Go.Proofs
set_option synthInstance.maxSize 4000
set_option synthInstance.maxHeartbeats 400000
set_option maxRecDepth 4000
set_option maxHeartbeats 2000000

def Nrm (l : List ExR) : Prop := l.Pairwise (fun a b => a.f + a.n < b.f) ∧ ∀ x ∈ l, 1 ≤ x.n ∧ ExB x
theorem joinStep_snoc (l : List ExR) (x e : ExR) : joinStep (l ++ [x]) e = if e.f ≤ x.f + x.n then l ++ [⟨x.f, max x.n (e.f + e.n - x.f)⟩] else l ++ [x] ++ [e] := by
  unfold joinStep
  rw [List.getLast?_concat]
  dsimp only
  split
  · rw [List.length_append, List.length_singleton, Nat.add_sub_cancel, List.set_append_right _ _ (Nat.le_refl _), Nat.sub_self]; rfl
  · rfl
theorem foldl_nrm : ∀ (l pre : List ExR), Nrm (pre ++ l) → l.foldl joinStep pre = pre ++ l
  | [], pre, _ => by simp
  | e :: l, pre, h => by
    rw [List.foldl_cons]
    have h1 : joinStep pre e = pre ++ [e] := by
      rcases List.eq_nil_or_concat pre with rfl | ⟨i, x, rfl⟩
      · rfl
      · rw [List.concat_eq_append] at h ⊢
        rw [joinStep_snoc, if_neg]
        have h2 := (List.pairwise_append.1 h.1).2.2 x (by simp) e (by simp)
        omega
    rw [h1, foldl_nrm l (pre ++ [e]) (by rw [List.append_assoc]; exact h), List.append_assoc]; rfl
theorem joinL_nrm {l : List ExR} (h : Nrm l) : joinL l = l := by
  have := foldl_nrm l [] (by simpa using h)
  simpa [joinL] using this
def covers (l : List ExR) (k : Int) : Prop := ∃ x ∈ l, x.f ≤ k ∧ k < x.f + x.n
theorem covers_append {a b : List ExR} {k : Int} : covers (a ++ b) k ↔ covers a k ∨ covers b k := by
  unfold covers
  constructor
  · rintro ⟨x, hx, h⟩
    rcases List.mem_append.1 hx with h1 | h1
    · exact .inl ⟨x, h1, h⟩
    · exact .inr ⟨x, h1, h⟩
  · rintro (⟨x, hx, h⟩ | ⟨x, hx, h⟩)
    · exact ⟨x, List.mem_append_left _ hx, h⟩
    · exact ⟨x, List.mem_append_right _ hx, h⟩
theorem covers_one {x : ExR} {k : Int} : covers [x] k ↔ x.f ≤ k ∧ k < x.f + x.n := by simp [covers]
/-- One block behind all. -/
theorem step_nrm {l : List ExR} {k : Int} (h : Nrm l) (hk : ∀ x ∈ l, x.f + x.n ≤ k) (hb : 0 ≤ k ∧ k ≤ 1048575) :
    Nrm (joinStep l ⟨k, 1⟩) ∧ (∀ x ∈ joinStep l ⟨k, 1⟩, x.f + x.n ≤ k + 1) ∧ (joinStep l ⟨k, 1⟩).length ≤ l.length + 1 ∧ (∀ j, covers (joinStep l ⟨k, 1⟩) j ↔ covers l j ∨ j = k) ∧ sumN (joinStep l ⟨k, 1⟩) = sumN l + 1 := by
  rcases List.eq_nil_or_concat l with rfl | ⟨i, x, rfl⟩
  · refine ⟨⟨by simp [joinStep], ?_⟩, ?_, by simp [joinStep], fun j => ?_, by simp [joinStep, sumN]⟩
    · intro y hy
      rw [show y = ⟨k, 1⟩ from List.mem_singleton.1 hy]
      exact ⟨by dsimp only; omega, by dsimp only; omega, by dsimp only; omega, by dsimp only; omega⟩
    · intro y hy
      rw [show y = ⟨k, 1⟩ from List.mem_singleton.1 hy]; dsimp only; omega
    · show covers [⟨k, 1⟩] j ↔ _
      rw [covers_one]
      have : ¬ covers [] j := by simp [covers]
      dsimp only
      constructor
      · intro h; right; omega
      · rintro (h | h)
        · exact absurd h this
        · omega
  · rw [List.concat_eq_append] at h hk ⊢
    obtain ⟨hp, hx⟩ := h
    have hxx := hx x (by simp)
    have hxk := hk x (by simp)
    obtain ⟨hp1, -, hp2⟩ := List.pairwise_append.1 hp
    rw [joinStep_snoc]
    dsimp only
    split
    · rename_i hle
      have hmax : max x.n (k + 1 - x.f) = x.n + 1 := by omega
      rw [hmax]
      refine ⟨⟨List.pairwise_append.2 ⟨hp1, by simp, fun a ha b hb => ?_⟩, ?_⟩, ?_, by simp, fun j => ?_, ?_⟩
      · rw [List.mem_singleton.1 hb]
        exact hp2 a ha x (by simp)
      · intro y hy
        rcases List.mem_append.1 hy with h | h
        · exact hx y (by simp [h])
        · rw [List.mem_singleton.1 h]
          obtain ⟨e1, e2, e3, e4⟩ := hxx
          exact ⟨by dsimp only; omega, by dsimp only; omega, by dsimp only; omega, by dsimp only; omega⟩
      · intro y hy
        rcases List.mem_append.1 hy with h | h
        · have := hk y (by simp [h]); omega
        · rw [List.mem_singleton.1 h]; dsimp only; omega
      · rw [covers_append, covers_append, covers_one, covers_one]
        obtain ⟨e1, e2, e3, e4⟩ := hxx
        dsimp only
        constructor
        · rintro (h | h)
          · exact .inl (.inl h)
          · by_cases hj : j = k
            · exact .inr hj
            · exact .inl (.inr (by omega))
        · rintro ((h | h) | h)
          · exact .inl h
          · exact .inr (by omega)
          · exact .inr (by omega)
      · simp [sumN]; omega
    · rename_i hle
      refine ⟨⟨List.pairwise_append.2 ⟨hp, by simp, fun a ha b hb => ?_⟩, ?_⟩, ?_, by simp, fun j => ?_, ?_⟩
      · rw [List.mem_singleton.1 hb]
        rcases List.mem_append.1 ha with h | h
        · have h1 := hp2 a h x (by simp)
          have h2 := hxx.1
          dsimp only; omega
        · rw [List.mem_singleton.1 h]; dsimp only; omega
      · intro y hy
        rcases List.mem_append.1 hy with h | h
        · exact hx y h
        · rw [List.mem_singleton.1 h]
          exact ⟨by dsimp only; omega, by dsimp only; omega, by dsimp only; omega, by dsimp only; omega⟩
      · intro y hy
        rcases List.mem_append.1 hy with h | h
        · have := hk y h; omega
        · rw [List.mem_singleton.1 h]; dsimp only; omega
      · rw [covers_append, covers_one]
        dsimp only
        constructor
        · rintro (h | h)
          · exact .inl h
          · exact .inr (by omega)
        · rintro (h | h)
          · exact .inl h
          · exact .inr (by omega)
      · simp [sumN]; omega
def setOf (ks : List Int) : List ExR := ks.foldl (fun l k => joinStep l ⟨k, 1⟩) []
theorem setOf_snoc (ks : List Int) (k : Int) : setOf (ks ++ [k]) = joinStep (setOf ks) ⟨k, 1⟩ := by unfold setOf; rw [List.foldl_append]; rfl
/-- What a set of single blocks is. -/
structure SetIs (ks : List Int) (l : List ExR) : Prop where
  nrm : Nrm l
  top : ∀ x ∈ l, ∃ k ∈ ks, x.f + x.n ≤ k + 1
  len : l.length ≤ ks.length
  cov : ∀ j, covers l j ↔ j ∈ ks
  sum : sumN l = ks.length
theorem setOf_is : ∀ (ks : List Int), ks.Pairwise (· < ·) → (∀ k ∈ ks, 0 ≤ k ∧ k ≤ 1048575) → SetIs ks (setOf ks) := by
  intro ks
  induction h : ks.length generalizing ks with
  | zero =>
    intro _ _
    rw [List.eq_nil_of_length_eq_zero h]
    exact ⟨⟨by simp [setOf], by simp [setOf]⟩, by simp [setOf], by simp [setOf], fun j => by simp [setOf, covers], rfl⟩
  | succ n ih =>
    intro hp hb
    rcases List.eq_nil_or_concat ks with rfl | ⟨i, k, rfl⟩
    · simp at h
    rw [List.concat_eq_append] at h hp hb ⊢
    obtain ⟨hp1, -, hp2⟩ := List.pairwise_append.1 hp
    have hi := ih i (by simpa using h) hp1 (fun k hk => hb k (by simp [hk]))
    have hkb := hb k (by simp)
    rw [setOf_snoc]
    obtain ⟨s1, s2, s3, s4, s5⟩ := step_nrm hi.nrm (fun x hx => by
      obtain ⟨y, hy, hxy⟩ := hi.top x hx
      have := hp2 y hy k (by simp)
      omega) hkb
    refine ⟨s1, fun x hx => ⟨k, by simp, s2 x hx⟩, by have := hi.len; simp; omega, fun j => ?_, ?_⟩
    · rw [s4, hi.cov]; simp
    · rw [s5, hi.sum]; simp
/-- A sorted row with distinct firsts is just one. -/
theorem perm_sorted {a b : List ExR} (h : a.Perm b) (ha : ∀ i j (hi : i < a.length) (hj : j < a.length), i < j → a[i].f ≤ a[j].f) (hb : b.Pairwise (fun x y => x.f < y.f)) : a = b := by
  have hpa : a.Pairwise (fun x y => x.f ≤ y.f) := List.pairwise_iff_getElem.2 (fun i j hi hj hij => ha i j hi hj hij)
  refine List.Perm.eq_of_pairwise (le := fun x y => x.f ≤ y.f) (fun x y hx hy h1 h2 => ?_) hpa (hb.imp (fun h => Int.le_of_lt h)) h
  have hx2 := h.mem_iff.1 hx
  obtain ⟨i, hi, rfl⟩ := List.getElem_of_mem hx2
  obtain ⟨j, hj, rfl⟩ := List.getElem_of_mem hy
  have hlt := List.pairwise_iff_getElem.1 hb
  by_cases h3 : i < j
  · have := hlt i j hi hj h3; omega
  · by_cases h4 : j < i
    · have := hlt j i hj hi h4; omega
    · have : i = j := by omega
      subst this; rfl
/-- Add, of one block behind all. -/
theorem add_one {S S' : Iv} {ks : List Int} {k v : Int} (hS : S.l = setOf ks) (hp : (ks ++ [k]).Pairwise (· < ·)) (hb : ∀ j ∈ ks ++ [k], 0 ≤ j ∧ j ≤ 1048575) (hm : ks.length + 1 ≤ S.most) (h : S.addR [⟨k, 1⟩] v S') : S' = { S with l := setOf (ks ++ [k]) } := by
  have hi := setOf_is ks (List.pairwise_append.1 hp).1 (fun j hj => hb j (by simp [hj]))
  have hi2 := setOf_is (ks ++ [k]) hp hb
  have hkb := hb k (by simp)
  have hmay : allMay [⟨k, 1⟩] = true := by
    have : mayB k 1 = true := by unfold mayB; exact decide_eq_true (by omega)
    simp [allMay, this]
  rcases h with ⟨h1, -⟩ | ⟨-, h1, -⟩ | ⟨-, -, ys, hperm, hso, hr⟩
  · rw [hmay] at h1; cases h1
  · cases h1
  · have hys : ys = S.l ++ [⟨k, 1⟩] := by
      refine perm_sorted hperm hso ?_
      rw [hS]
      refine List.pairwise_append.2 ⟨hi.nrm.1.imp_of_mem (fun {a b} ha _ h => by have := (hi.nrm.2 a ha).1; omega), by simp, fun a ha b hb => ?_⟩
      rw [List.mem_singleton.1 hb]
      obtain ⟨y, hy, hxy⟩ := hi.top a ha
      have h2 := (List.pairwise_append.1 hp).2.2 y hy k (by simp)
      have h3 := (hi.nrm.2 a ha).1
      dsimp only; omega
    have hj : joinL ys = setOf (ks ++ [k]) := by
      rw [hys, setOf_snoc, joinL, List.foldl_append, ← joinL, hS, joinL_nrm hi.nrm]; rfl
    rw [hj] at hr
    rcases hr with ⟨hr, -⟩ | ⟨-, -, rfl⟩
    · have := hi2.len
      rw [List.length_append, List.length_singleton] at this
      omega
    · rfl

theorem sortI_ltp {l : List Int} (h : l.Nodup) : (sortI l).Pairwise (· < ·) := by
  have h1 : (sortI l).Pairwise (fun a b => decide (a ≤ b) = true) := List.pairwise_mergeSort (fun a b c h1 h2 => by simp at h1 h2 ⊢; omega) (fun a b => by simp; omega) l
  have h2 : (sortI l).Nodup := (List.mergeSort_perm l _).nodup_iff.2 h
  refine List.Pairwise.imp₂ (fun a b h1 (h2 : a ≠ b) => ?_) h1 h2
  simp at h1; omega
/-- The set of what waits to be written. -/
theorem wb_set (b : Nat) (W : Wb) (hk : ∀ e ∈ W.vs, 0 ≤ e.1 ∧ e.1 ≤ 1048575) (hn : (W.vs.map (·.1)).Nodup) (hl : W.vs.length ≤ 10000) :
    Spec Tryz.prog 141 #[.pointer (some ⟨b, 0, none⟩)] [wbO b W] (fun r L => ∃ q, r = .pointer (some ⟨q, 0, none⟩) ∧ L = [wbO b W, ivO q ⟨W.vs.length, setOf (sortI (W.vs.map (·.1)))⟩]) := by
  refine enter1 Tryz.func141 rfl (by decide) (by decide) ?_
  intro B F
  dsimp only [lcA, lnA]
  repeat' first | refine adv ?_ | refine Side.go ?_ | refine Giv.mk fun _ => ?_ | refine All.mk fun q => ?_ | refine Fork.mk ?_ ?_ | (refine Two.mk (fun h => ?_) (fun h => ?_) <;> try first | contradiction | (exfalso; omega))
  refine CallG.use (wb_puts b W (fun e he => by have := hk e he; exact ⟨by omega, by omega⟩) (by omega)) ?_
  rintro r M ⟨t, ht, rfl, rfl⟩
  dsimp only [lcA, lnA]
  have hks : t.xs.map PutR.lba = sortI (W.vs.map (·.1)) := by
    have := congrArg (List.map Prod.fst) ht
    rw [List.map_map] at this
    rw [show (Prod.fst ∘ PutR.v : PutR → Int) = PutR.lba from rfl] at this
    rw [this]
    unfold Wb.puts
    rw [List.map_map]
    exact List.map_id _
  have htl : t.xs.length = W.vs.length := by rw [← List.length_map PutR.lba, hks, sortI_len, List.length_map]
  repeat' first | refine adv ?_ | refine Side.go ?_ | refine Giv.mk fun _ => ?_ | refine All.mk fun q => ?_ | refine Fork.mk ?_ ?_ | (refine Two.mk (fun h => ?_) (fun h => ?_) <;> try first | contradiction | (exfalso; omega))
  refine CallG.use (iv_new t.xs.length) ?_
  rintro r M ⟨p, rfl, rfl⟩
  dsimp only [lcA, lnA]
  repeat' first | refine adv ?_ | refine Side.go ?_ | refine Giv.mk fun _ => ?_ | refine All.mk fun q => ?_ | refine Fork.mk ?_ ?_ | (refine Two.mk (fun h => ?_) (fun h => ?_) <;> try first | contradiction | (exfalso; omega))
  have hkp : (t.xs.map PutR.lba).Pairwise (· < ·) := by rw [hks]; exact sortI_ltp hn
  have hkb : ∀ j ∈ t.xs.map PutR.lba, 0 ≤ j ∧ j ≤ 1048575 := fun j hj => by
    rw [hks] at hj
    obtain ⟨e, he, rfl⟩ := List.mem_map.1 (sortI_mem.1 hj)
    exact hk e he
  have hlt : t.xs.length ≤ 10000 := by omega
  rw [← htl, ← hks]
  refine Sy_loop (ι := {k : Nat // k ≤ t.xs.length}) (fun k => [(14, .int .i64 k.1), (13, .int .i64 t.xs.length), (12, t.val), (4, .pointer (some ⟨p, 0, none⟩))])
    (fun k => ivO p ⟨t.xs.length, setOf ((t.xs.map PutR.lba).take k.1)⟩ :: roS t :: wbO b W :: F) (fun k => t.xs.length - k.1) ⟨0, Nat.zero_le _⟩ (evs rfl (evs rfl (evs rfl (evs rfl .nil)))) (fun w h => (goes w h : sat B (ivO p ⟨t.xs.length, []⟩ :: roS t :: wbO b W :: F) w)) ?_
  rintro ⟨k, hk1⟩ env
  dsimp only [upds] at hk1 ⊢
  by_cases hk2 : k < t.xs.length
  · have htk : (t.xs.map PutR.lba).take (k + 1) = (t.xs.map PutR.lba).take k ++ [t.xs[k].lba] := by
      rw [List.take_succ_eq_append_getElem (by rw [List.length_map]; exact hk2), List.getElem_map]
    have hp1 : ((t.xs.map PutR.lba).take k ++ [t.xs[k].lba]).Pairwise (· < ·) := by rw [← htk]; exact hkp.sublist (List.take_sublist _ _)
    have hb1 : ∀ j ∈ (t.xs.map PutR.lba).take k ++ [t.xs[k].lba], 0 ≤ j ∧ j ≤ 1048575 := fun j hj => hkb j (by rw [← htk] at hj; exact List.mem_of_mem_take hj)
    have hsi := setOf_is ((t.xs.map PutR.lba).take k) (List.pairwise_append.1 hp1).1 (fun j hj => hb1 j (List.mem_append_left _ hj))
    have hsl := hsi.len
    rw [List.length_take, List.length_map] at hsl
    repeat' first | refine adv ?_ | refine Side.go ?_ | refine Giv.mk fun _ => ?_ | refine All.mk fun q => ?_ | refine Fork.mk ?_ ?_ | (refine Two.mk (fun h => ?_) (fun h => ?_) <;> try first | contradiction | (exfalso; omega))
    refine CallG_conv (L' := ivO p ⟨t.xs.length, setOf ((t.xs.map PutR.lba).take k)⟩ :: roS (⟨some ⟨q, 0, none⟩, 1, [⟨t.xs[k].lba, 1⟩]⟩ : Sl ExR) :: roS t :: wbO b W :: F) (fun B w h => ?_) ?_
    · have h2 : sat B (cells true q 0 [.int .i64 t.xs[k].lba, .int .i64 1] :: ivO p ⟨t.xs.length, setOf ((t.xs.map PutR.lba).take k)⟩ :: roS t :: wbO b W :: F) w := goes w h
      have h3 := own_lit1 (⟨t.xs[k].lba, 1⟩ : ExR) (h2.perm (.cons _ (.refl _)) |> fun h => (show sat B (cells true q 0 (Rep.enc (⟨t.xs[k].lba, 1⟩ : ExR)) :: Rep.own (⟨t.xs[k].lba, 1⟩ : ExR) :: ivO p ⟨t.xs.length, setOf ((t.xs.map PutR.lba).take k)⟩ :: roS t :: wbO b W :: F) w from (sat_true (A := Rep.own (⟨t.xs[k].lba, 1⟩ : ExR)) (fun _ => trivial) h).perm (.swap _ _ _)))
      exact goes w h3
    refine CallG.use (iv_add p ⟨t.xs.length, setOf ((t.xs.map PutR.lba).take k)⟩ (by dsimp only; omega) (fun x hx => (hsi.nrm.2 x hx).2) (⟨some ⟨q, 0, none⟩, 1, [⟨t.xs[k].lba, 1⟩]⟩ : Sl ExR) (show 1 ≤ 100000 by decide)) ?_
    rintro r M ⟨e, S', hadd, rfl, rfl⟩
    have hS' := add_one (ks := (t.xs.map PutR.lba).take k) rfl hp1 hb1 (by rw [List.length_take, List.length_map]; dsimp only; omega) hadd
    rw [hS', ← htk]
    dsimp only [lcA, lnA]
    repeat' first | refine adv ?_ | refine Side.go ?_ | refine Giv.mk fun _ => ?_ | refine All.mk fun q => ?_ | refine Fork.mk ?_ ?_ | (refine Two.mk (fun h => ?_) (fun h => ?_) <;> try first | contradiction | (exfalso; omega))
    refine loopQ.next ⟨k + 1, by omega⟩ (by simp only []; omega) (evs rfl (evs rfl (evs rfl (evs rfl .nil)))) (fun w h => goes w h)
  · have hk3 : k = t.xs.length := by omega
    subst hk3
    rw [show (t.xs.map PutR.lba).take t.xs.length = t.xs.map PutR.lba from by rw [← List.length_map PutR.lba, List.take_length]]
    repeat' first | refine adv ?_ | refine Side.go ?_ | refine Giv.mk fun _ => ?_ | refine All.mk fun q => ?_ | refine Fork.mk ?_ ?_ | (refine Two.mk (fun h => ?_) (fun h => ?_) <;> try first | contradiction | (exfalso; omega))
    exact endQ.oneW Tryz.results141 ⟨p, rfl, rfl⟩ (fun w h => goes w h)
end Go.SL
namespace Go.SL
open Go.Proofs
set_option synthInstance.maxSize 4000
set_option synthInstance.maxHeartbeats 400000
set_option maxRecDepth 4000
set_option maxHeartbeats 2000000

theorem vget_vdel {α : Type} {vs : List (Int × α)} {k j : Int} (h : j ≠ k) : vget (vdel vs k) j = vget vs j := by
  unfold vget vdel
  induction vs with
  | nil => rfl
  | cons e vs ih =>
    by_cases hk : e.1 = k
    · rw [List.filter_cons_of_neg (by simp [hk]), List.find?_cons_of_neg (by simp; omega)]; exact ih
    · rw [List.filter_cons_of_pos (by simp [hk])]
      by_cases hj : e.1 = j
      · rw [List.find?_cons_of_pos (by simp [hj]), List.find?_cons_of_pos (by simp [hj])]
      · rw [List.find?_cons_of_neg (by simp [hj]), List.find?_cons_of_neg (by simp [hj])]; exact ih
/-- What waits, where one that does not wait is taken out. -/
theorem tx_waitingX (m em bk rm : Nat) (qa : Option Addr) (qc : Nat) (x4 x5 x6 x7 x8 x9 : Value) (queue : List Int) (ts : List (Int × TrP)) (k : Int) (hq : ∀ h ∈ queue, ∃ T, vget ts h = some T) (hk : k ∉ queue) (hql : queue.length ≤ 1000000)
    (hW : ∀ e ∈ ts, e.2.2.W.vs.length ≤ 1000000 ∧ ∀ x ∈ e.2.2.W.vs, I64 x.1) (hn : (ts.map (·.1)).Nodup) :
    Spec Tryz.prog 101 #[.pointer (some ⟨m, 0, none⟩)] [cells true m 0 [.pointer (some ⟨em, 0, none⟩), .pointer (some ⟨bk, 0, none⟩), .map (some rm), .slice qa queue.length qc, x4, x5, x6, x7, x8, x9], mapO rm (vmap trV ts), ownS (⟨qa, qc, queue⟩ : Sl Int), bigS (trF em) (vdel ts k)]
      (fun v L => ∃ t : Sl TxR, t.xs.map TxR.v = (queue.filterMap fun h => (vget (tv ts) h).map fun T => (T.time, T.W.puts)) ∧ v = t.val ∧
        L = [ownS t, cells true m 0 [.pointer (some ⟨em, 0, none⟩), .pointer (some ⟨bk, 0, none⟩), .map (some rm), .slice qa queue.length qc, x4, x5, x6, x7, x8, x9], mapO rm (vmap trV ts), ownS (⟨qa, qc, queue⟩ : Sl Int), bigS (trF em) (vdel ts k)]) := by
  refine enter1 Tryz.func101 rfl (by decide) (by decide) ?_
  intro B F
  dsimp only [lcA, lnA]
  have hnd : ((vdel ts k).map (·.1)).Nodup := List.Nodup.sublist ((List.filter_sublist).map _) hn
  repeat' first | refine adv ?_ | refine Side.go ?_ | refine Giv.mk fun _ => ?_ | refine All.mk fun q => ?_ | refine Fork.mk ?_ ?_ | (refine Two.mk (fun h => ?_) (fun h => ?_) <;> try first | contradiction | (exfalso; omega))
  refine Sy_loop (ι := {st : Nat × Sl TxR // (st.1 ≤ queue.length ∧ st.2.xs.length ≤ st.1) ∧ st.2.xs.map TxR.v = (queue.take st.1).filterMap fun h => (vget (tv ts) h).map fun T => (T.time, T.W.puts)})
    (fun st => [(11, .int .i64 st.1.1), (10, .int .i64 queue.length), (9, .slice qa queue.length qc), (2, st.1.2.val), (0, .pointer (some ⟨m, 0, none⟩))])
    (fun st => ownS st.1.2 :: cells true m 0 [.pointer (some ⟨em, 0, none⟩), .pointer (some ⟨bk, 0, none⟩), .map (some rm), .slice qa queue.length qc, x4, x5, x6, x7, x8, x9] :: mapO rm (vmap trV ts) :: ownS (⟨qa, qc, queue⟩ : Sl Int) :: bigS (trF em) (vdel ts k) :: F)
    (fun st => queue.length - st.1.1) ⟨(0, ⟨none, 0, []⟩), ⟨Nat.zero_le _, Nat.le_refl _⟩, rfl⟩ (evs rfl (evs rfl (evs rfl (evs rfl (evs rfl .nil))))) (fun w h => goes w (sat_true (own_nil (α := TxR)) h)) ?_
  rintro ⟨⟨j, t⟩, ⟨hj, htl⟩, ht⟩ env
  dsimp only [upds] at hj htl ht ⊢
  by_cases hj2 : j < queue.length
  · obtain ⟨⟨x, T⟩, hg⟩ := hq _ (List.getElem_mem hj2)
    have hT : vget (tv ts) queue[j] = some T := by rw [vget_tv, hg]; rfl
    have hjk : queue[j] ≠ k := fun e => hk (e ▸ List.getElem_mem hj2)
    have hgd : vget (vdel ts k) queue[j] = some (x, T) := by rw [vget_vdel hjk]; exact hg
    haveI := mg_vmap (f := trV) hg
    have hTW := hW (queue[j], (x, T)) (by obtain ⟨y, hy, hym⟩ := vget_mem (vs := ts) (k := queue[j]) ((vget_perm hn hg).symm.map _ |>.mem_iff.1 (by simp)); rw [hg] at hy; cases hy; exact hym)
    refine Sy_conv (take_f (trF em) hnd hgd) ?_
    dsimp only [trF]
    refine Sy_all (fun w h => trO_open h) (fun q => ?_)
    obtain ⟨b, v⟩ := q
    dsimp only
    repeat' first | refine adv ?_ | refine Side.go ?_ | refine Giv.mk fun _ => ?_ | refine All.mk fun q => ?_ | refine Fork.mk ?_ ?_ | (refine Two.mk (fun h => ?_) (fun h => ?_) <;> try first | contradiction | (exfalso; omega))
    refine CallG.use (wb_puts b T.W hTW.2 hTW.1) ?_
    rintro r M ⟨u, hu, rfl, rfl⟩
    dsimp only [lcA, lnA]
    repeat' first | refine adv ?_ | refine Side.go ?_ | refine Giv.mk fun _ => ?_ | refine All.mk fun q => ?_ | refine Fork.mk ?_ ?_ | (refine Two.mk (fun h => ?_) (fun h => ?_) <;> try first | contradiction | (exfalso; omega))
    refine AppG.oneT t ⟨T.time, u⟩ (by omega) (fun a2 c2 => ?_)
    repeat' first | refine adv ?_ | refine Side.go ?_ | refine Giv.mk fun _ => ?_ | refine All.mk fun q => ?_ | refine Fork.mk ?_ ?_ | (refine Two.mk (fun h => ?_) (fun h => ?_) <;> try first | contradiction | (exfalso; omega))
    refine loopQ.next ⟨(j + 1, ⟨a2, c2, t.xs ++ [⟨T.time, u⟩]⟩), ⟨by dsimp only; omega, by simp; omega⟩, ?_⟩ (by simp only []; omega) (evs rfl (evs rfl (evs rfl (evs rfl (evs rfl .nil))))) (fun w s => by
      have h2 := back_tr (em := em) (t := x) (b := b) (v := v) hnd hgd w s
      exact goes w h2)
    dsimp only
    rw [List.map_append, ht, List.take_succ_eq_append_getElem hj2, List.filterMap_append, List.filterMap_cons, hT]
    simp [TxR.v, hu]
  · have hj3 : j = queue.length := by omega
    subst hj3
    rw [List.take_length] at ht
    repeat' first | refine adv ?_ | refine Side.go ?_ | refine Giv.mk fun _ => ?_ | refine All.mk fun q => ?_ | refine Fork.mk ?_ ?_ | (refine Two.mk (fun h => ?_) (fun h => ?_) <;> try first | contradiction | (exfalso; omega))
    exact endQ.oneW Tryz.results101 ⟨t, ht, rfl, rfl⟩ (fun w h => goes w h)
def Wb.set (W : Wb) : Iv := ⟨W.vs.length, setOf (sortI (W.vs.map (·.1)))⟩
def Mg.mayQ (M : Mg) (T : Tr) : Int :=
  if M.ro = true then 10 else if checkQ M.E T.at_ M.waits ⟨64, []⟩ T.W.set ≠ 0 then checkQ M.E T.at_ M.waits ⟨64, []⟩ T.W.set else if 1099511627776 ≤ M.given then 11 else 0
/-- What a write buffer is. -/
structure WOk (W : Wb) : Prop where
  key : ∀ e ∈ W.vs, 0 ≤ e.1 ∧ e.1 ≤ 1048575
  nod : (W.vs.map (·.1)).Nodup
  len : W.vs.length ≤ 10000
theorem WOk.setIs {W : Wb} (h : WOk W) : SetIs (sortI (W.vs.map (·.1))) W.set.l := setOf_is _ (sortI_ltp h.nod) (fun k hk => by
  obtain ⟨e, he, rfl⟩ := List.mem_map.1 (sortI_mem.1 hk)
  exact h.key e he)
theorem tx_may (m : Nat) (M : Mg) (r : MgR) (h : Int) (t : Nat) (T : Tr) (hr : tv r.ts = M.all) (hg : vget r.ts h = some (t, T)) (hq : ∀ j ∈ M.queue, ∃ T, vget M.all j = some T) (hh : h ∉ M.queue) (hql : M.queue.length ≤ 1000000) (hS : T.S.l = []) (hW : WOk T.W)
    (hE : ∀ e ∈ M.E.vs, I64 e.1 ∧ 0 < e.2.length ∧ e.2.length ≤ 2000000) (hall : ∀ e ∈ M.all, e.2.W.vs.length ≤ 1000000 ∧ ∀ x ∈ e.2.W.vs, I64 x.1) :
    Spec Tryz.prog 100 #[.pointer (some ⟨m, 0, none⟩), .pointer (some ⟨t, 0, none⟩)] (mgL m M r) (fun v L => v = .int .i64 (M.mayQ T) ∧ L = mgL m M r) := by
  refine enter2 Tryz.func100 rfl (by decide) (by decide) ?_
  intro B F
  dsimp only [lcA, lnA]
  dsimp only [mgL, List.cons_append, List.nil_append]
  refine Sy_know (fun B w h => map_nodup (r := r.rm) (es := vmap trV r.ts) B w h) (fun hn => ?_)
  rw [vmap_keys] at hn
  refine Sy_conv (take_f (trF r.em) hn hg) ?_
  dsimp only [trF]
  refine Sy_all (fun w h => trO_open h) (fun q => ?_)
  obtain ⟨b, v⟩ := q
  dsimp only
  have hq2 : ∀ j ∈ M.queue, ∃ T, vget r.ts j = some T := fun j hj => by
    obtain ⟨T, hT⟩ := hq j hj
    rw [← hr, vget_tv] at hT
    obtain ⟨y, hy, -⟩ := Option.map_eq_some_iff.1 hT
    exact ⟨y, hy⟩
  have hall2 : ∀ e ∈ r.ts, e.2.2.W.vs.length ≤ 1000000 ∧ ∀ x ∈ e.2.2.W.vs, I64 x.1 := fun e he => hall (e.1, e.2.2) (by rw [← hr]; exact List.mem_map.2 ⟨e, he, rfl⟩)
  have hsi := hW.setIs
  have hsl := hsi.len
  have hwl := hW.len
  rw [sortI_len, List.length_map] at hsl
  cases hro : M.ro with
  | true =>
    repeat' first | refine adv ?_ | refine Side.go ?_ | refine Giv.mk fun _ => ?_ | refine All.mk fun q => ?_ | refine Fork.mk ?_ ?_ | (refine Two.mk (fun h => ?_) (fun h => ?_) <;> try first | contradiction | (exfalso; omega))
    exact endQ_conv (back_tr (em := r.em) (t := t) (b := b) (v := v) hn hg) (endQ.oneW Tryz.results100 ⟨by rw [Mg.mayQ, if_pos hro], rfl⟩ (fun w h => goes w h))
  | false =>
  repeat' first | refine adv ?_ | refine Side.go ?_ | refine Giv.mk fun _ => ?_ | refine All.mk fun q => ?_ | refine Fork.mk ?_ ?_ | (refine Two.mk (fun h => ?_) (fun h => ?_) <;> try first | contradiction | (exfalso; omega))
  refine CallG.use (tx_waitingX m r.em r.bk r.rm r.qa r.qc (.int .i64 M.out) (.int .i64 M.num) (.int .i64 M.base) (.int .i64 M.last) (.int .i64 M.given) (.bool false) M.queue r.ts h hq2 hh hql hall2 hn) ?_
  rintro r M ⟨u, hu, rfl, rfl⟩
  dsimp only [lcA, lnA]
  have huw : u.xs.map TxR.v = M.waits := by rw [hu, hr]; rfl
  have hul : u.xs.length ≤ 1000000 := by
    have := congrArg List.length huw
    rw [List.length_map] at this
    have h2 : M.waits.length ≤ M.queue.length := List.length_filterMap_le _ _
    omega
  repeat' first | refine adv ?_ | refine Side.go ?_ | refine Giv.mk fun _ => ?_ | refine All.mk fun q => ?_ | refine Fork.mk ?_ ?_ | (refine Two.mk (fun h => ?_) (fun h => ?_) <;> try first | contradiction | (exfalso; omega))
  refine CallG.use (rs_set v r.em b T.at_ T.S hS) ?_
  rintro r M ⟨s1, rfl, rfl⟩
  dsimp only [lcA, lnA]
  repeat' first | refine adv ?_ | refine Side.go ?_ | refine Giv.mk fun _ => ?_ | refine All.mk fun q => ?_ | refine Fork.mk ?_ ?_ | (refine Two.mk (fun h => ?_) (fun h => ?_) <;> try first | contradiction | (exfalso; omega))
  refine CallG.use (wb_set b T.W hW.key hW.nod hW.len) ?_
  rintro r M ⟨s2, rfl, rfl⟩
  dsimp only [lcA, lnA]
  rw [show (⟨T.W.vs.length, setOf (sortI (T.W.vs.map (·.1)))⟩ : Iv) = T.W.set from rfl]
  repeat' first | refine adv ?_ | refine Side.go ?_ | refine Giv.mk fun _ => ?_ | refine All.mk fun q => ?_ | refine Fork.mk ?_ ?_ | (refine Two.mk (fun h => ?_) (fun h => ?_) <;> try first | contradiction | (exfalso; omega))
  refine CallG.freeze u ?_
  refine CallG.use (valid_checkQ r.em s1 s2 M.E ⟨64, []⟩ T.W.set T.at_ u hE (by simp) (by omega) (by intro e he; cases he) (fun x hx => (hsi.nrm.2 x hx).2) hul) ?_
  rintro r M ⟨rfl, rfl⟩
  dsimp only [lcA, lnA]
  rw [huw]
  repeat' first | refine adv ?_ | refine Side.go ?_ | refine Giv.mk fun _ => ?_ | refine All.mk fun q => ?_ | refine Fork.mk ?_ ?_ | (refine Two.mk (fun h => ?_) (fun h => ?_) <;> try first | contradiction | (exfalso; omega))
  · exact endQ_conv (back_tr (em := r.em) (t := t) (b := b) (v := v) hn hg) (endQ.oneW Tryz.results100 ⟨by rw [Mg.mayQ, if_neg (by rw [hro]; decide), if_pos (by assumption)], rfl⟩ (fun w h => goes w h))
  · exact endQ_conv (back_tr (em := r.em) (t := t) (b := b) (v := v) hn hg) (endQ.oneW Tryz.results100 ⟨by rw [Mg.mayQ, if_neg (by rw [hro]; decide), if_neg (by assumption), if_pos (by assumption)], rfl⟩ (fun w h => goes w h))
  · exact endQ_conv (back_tr (em := r.em) (t := t) (b := b) (v := v) hn hg) (endQ.oneW Tryz.results100 ⟨by rw [Mg.mayQ, if_neg (by rw [hro]; decide), if_neg (by assumption), if_neg (by assumption)], rfl⟩ (fun w h => goes w h))
end Go.SL
namespace Go.SL
open Go.Proofs
set_option synthInstance.maxSize 4000
set_option synthInstance.maxHeartbeats 400000
set_option maxRecDepth 4000
set_option maxHeartbeats 2000000

def Mg.commit (M : Mg) (h : Int) : Int × Mg := match openT M h with
  | none => (5, M)
  | some T =>
    if T.W.vs = [] then (0, ({ M with all := vset M.all h { T with time := T.at_ } } : Mg).end h 3 0)
    else if M.mayQ T ≠ 0 then (M.mayQ T, M.end h 4 (M.mayQ T))
    else (0, { M with given := M.given + 1, all := vset M.all h { T with st := 2, time := M.given + 1 }, queue := M.queue ++ [h] })
theorem tx_commit (m : Nat) (M : Mg) (hd : Int) (hq : ∀ j ∈ M.queue, ∃ T, vget M.all j = some T) (hql : M.queue.length ≤ 1000000)
    (hO : ∀ T, openT M hd = some T → hd ∉ M.queue ∧ T.S.l = [] ∧ WOk T.W)
    (hE : ∀ e ∈ M.E.vs, I64 e.1 ∧ 0 < e.2.length ∧ e.2.length ≤ 2000000) (hall : ∀ e ∈ M.all, e.2.W.vs.length ≤ 1000000 ∧ ∀ x ∈ e.2.W.vs, I64 x.1) (hgv : (0 : Int) ≤ M.given) :
    Spec Tryz.prog 53 #[.pointer (some ⟨m, 0, none⟩), .int .i64 hd] [mgO m M] (fun v L => v = .int .i64 (M.commit hd).1 ∧ L = [mgO m (M.commit hd).2]) := by
  refine enter2 Tryz.func53 rfl (by decide) (by decide) ?_
  intro B F
  dsimp only [lcA, lnA]
  refine Sy_all (fun w h => mgO_open h) (fun r => ?_)
  obtain ⟨r, hr⟩ := r
  dsimp only [mgL, List.cons_append, List.nil_append] at hr ⊢
  refine Sy_know (fun B w h => map_nodup (r := r.rm) (es := vmap trV r.ts) B w h) (fun hn => ?_)
  rw [vmap_keys] at hn
  repeat' first | refine adv ?_ | refine Side.go ?_ | refine Giv.mk fun _ => ?_ | refine All.mk fun q => ?_ | refine Fork.mk ?_ ?_ | (refine Two.mk (fun h => ?_) (fun h => ?_) <;> try first | contradiction | (exfalso; omega))
  refine CallG.use (tx_open m M r hd) ?_
  rintro r M ⟨rfl, rfl⟩
  dsimp only [lcA, lnA]
  have hgM : vget M.all hd = (vget r.ts hd).map (·.2) := by rw [← hr, vget_tv]
  cases hg : vget r.ts hd with
  | none =>
    have e : M.commit hd = (5, M) := by rw [hg] at hgM; simp only [Mg.commit, openT, hgM, Option.map_none]
    rw [e]
    dsimp only
    repeat' first | refine adv ?_ | refine Side.go ?_ | refine Giv.mk fun _ => ?_ | refine All.mk fun q => ?_ | refine Fork.mk ?_ ?_ | (refine Two.mk (fun h => ?_) (fun h => ?_) <;> try first | contradiction | (exfalso; omega))
    exact endQ.oneW Tryz.results53 ⟨rfl, rfl⟩ (fun w h => mgO_close M r hr (goes w h))
  | some x =>
    obtain ⟨t, T⟩ := x
    dsimp only
    by_cases hst : T.st = 1
    case neg =>
      have e : M.commit hd = (5, M) := by rw [hg] at hgM; simp only [Mg.commit, openT, hgM, Option.map_some, if_neg hst]
      rw [e, if_neg hst]
      repeat' first | refine adv ?_ | refine Side.go ?_ | refine Giv.mk fun _ => ?_ | refine All.mk fun q => ?_ | refine Fork.mk ?_ ?_ | (refine Two.mk (fun h => ?_) (fun h => ?_) <;> try first | contradiction | (exfalso; omega))
      exact endQ.oneW Tryz.results53 ⟨rfl, rfl⟩ (fun w h => mgO_close M r hr (goes w h))
    case pos =>
    rw [if_pos hst]
    have hT : vget M.all hd = some T := by rw [hgM, hg]; rfl
    have hop : openT M hd = some T := by simp only [openT, hT, if_pos hst]
    obtain ⟨hh, hS, hW⟩ := hO T hop
    have e : M.commit hd = if T.W.vs = [] then (0, ({ M with all := vset M.all hd { T with time := T.at_ } } : Mg).end hd 3 0) else if M.mayQ T ≠ 0 then (M.mayQ T, M.end hd 4 (M.mayQ T)) else (0, { M with given := M.given + 1, all := vset M.all hd { T with st := 2, time := M.given + 1 }, queue := M.queue ++ [hd] }) := by
      simp only [Mg.commit, hop]
    rw [e]
    refine SyO_conv (take_f (trF r.em) hn hg) ?_
    dsimp only [trF, trV]
    refine SyO_all (fun w h => trO_open h) (fun q => ?_)
    obtain ⟨b, v⟩ := q
    dsimp only
    repeat' first | refine adv ?_ | refine Side.go ?_ | refine Giv.mk fun _ => ?_ | refine All.mk fun q => ?_ | refine Fork.mk ?_ ?_ | (refine Two.mk (fun h => ?_) (fun h => ?_) <;> try first | contradiction | (exfalso; omega))
    refine CallG.use (wb_len b T.W (by intro e he; have := hW.key e he; constructor <;> omega) (by have := hW.len; omega)) ?_
    rintro r M ⟨rfl, rfl⟩
    dsimp only [lcA, lnA]
    by_cases hW0 : T.W.vs = []
    · rw [if_pos hW0]
      have hl0 : ((T.W.vs.length : Nat) : Int) = 0 := by rw [hW0]; rfl
      repeat' first | refine adv ?_ | refine Side.go ?_ | refine Giv.mk fun _ => ?_ | refine All.mk fun q => ?_ | refine Fork.mk ?_ ?_ | (refine Two.mk (fun h => ?_) (fun h => ?_) <;> try first | contradiction | (exfalso; omega))
      refine CallG_conv (L' := mgO m { M with all := vset M.all hd { T with time := T.at_ } } :: F) (fun B w s => mgO_close { M with all := vset M.all hd { T with time := T.at_ } } { r with ts := vset r.ts hd (t, ⟨T.st, T.at_, T.code, T.at_, T.W, T.S⟩) } (by dsimp only; rw [tv_set, hr]) ?_) ?_
      · have s2 := back_tr' (em := r.em) (t := t) (b := b) (v := v) (st := T.st) (time := T.at_) (code := T.code) (W := T.W) hn hg w s
        dsimp only
        rw [vmap_same _ hn hg]
        exact goes w s2
      refine CallG.use (tx_end m { M with all := vset M.all hd { T with time := T.at_ } } hd 3 0 { T with time := T.at_ } (vget_vset _ _ _)) ?_
      rintro r M ⟨rfl, rfl⟩
      dsimp only [lcA, lnA]
      repeat' first | refine adv ?_ | refine Side.go ?_ | refine Giv.mk fun _ => ?_ | refine All.mk fun q => ?_ | refine Fork.mk ?_ ?_ | (refine Two.mk (fun h => ?_) (fun h => ?_) <;> try first | contradiction | (exfalso; omega))
      exact endQ.oneW Tryz.results53 ⟨rfl, rfl⟩ (fun w h => goes w h)
    rw [if_neg hW0]
    have hl1 : ((T.W.vs.length : Nat) : Int) ≠ 0 := by
      intro h0
      exact hW0 (List.eq_nil_of_length_eq_zero (by omega))
    repeat' first | refine adv ?_ | refine Side.go ?_ | refine Giv.mk fun _ => ?_ | refine All.mk fun q => ?_ | refine Fork.mk ?_ ?_ | (refine Two.mk (fun h => ?_) (fun h => ?_) <;> try first | contradiction | (exfalso; omega))
    refine CallG_conv (fun B => back_tr (em := r.em) (t := t) (b := b) (v := v) hn hg) ?_
    refine CallG.use (tx_may m M r hd t T hr hg hq hh hql hS hW hE hall) ?_
    rintro r M ⟨rfl, rfl⟩
    dsimp only [lcA, lnA]
    by_cases hc : M.mayQ T = 0
    · have hgl : M.given < 1099511627776 := by
        rw [Mg.mayQ] at hc
        split at hc
        · exact absurd hc (by decide)
        split at hc
        · contradiction
        split at hc
        · exact absurd hc (by decide)
        · omega
      rw [if_neg (by omega), hc]
      refine SyO_conv (take_f (trF r.em) hn hg) ?_
      dsimp only [trF]
      refine SyO_all (fun w h => trO_open h) (fun q => ?_)
      obtain ⟨b', v'⟩ := q
      dsimp only
      repeat' first | refine adv ?_ | refine Side.go ?_ | refine Giv.mk fun _ => ?_ | refine All.mk fun q => ?_ | refine Fork.mk ?_ ?_ | (refine Two.mk (fun h => ?_) (fun h => ?_) <;> try first | contradiction | (exfalso; omega))
      refine AppG.one' (⟨r.qa, r.qc, M.queue⟩ : Sl Int) hd (fun _ => trivial) (by dsimp only; omega) (fun a2 c2 => ?_)
      repeat' first | refine adv ?_ | refine Side.go ?_ | refine Giv.mk fun _ => ?_ | refine All.mk fun q => ?_ | refine Fork.mk ?_ ?_ | (refine Two.mk (fun h => ?_) (fun h => ?_) <;> try first | contradiction | (exfalso; omega))
      refine endQ_conv (back_tr' (em := r.em) (t := t) (b := b') (v := v') (st := 2) (time := M.given + 1) (code := T.code) (W := T.W) hn hg) (endQ.oneW Tryz.results53 ⟨rfl, rfl⟩ (fun w s =>
        mgO_close { M with given := M.given + 1, all := vset M.all hd { T with st := 2, time := M.given + 1 }, queue := M.queue ++ [hd] } { r with qa := a2, qc := c2, ts := vset r.ts hd (t, ⟨2, M.given + 1, T.code, T.at_, T.W, T.S⟩) } ?_ ?_))
      · dsimp only; rw [tv_set, hr]
      · dsimp only
        rw [vmap_same _ hn hg]
        exact goes w s
    · repeat' first | refine adv ?_ | refine Side.go ?_ | refine Giv.mk fun _ => ?_ | refine All.mk fun q => ?_ | refine Fork.mk ?_ ?_ | (refine Two.mk (fun h => ?_) (fun h => ?_) <;> try first | contradiction | (exfalso; omega))
      · refine CallG_conv (L' := mgO m M :: F) (fun B w s => mgO_close M r hr (goes w s)) ?_
        refine CallG.use (tx_end m M hd 4 (M.mayQ T) T hT) ?_
        rintro r M ⟨rfl, rfl⟩
        dsimp only [lcA, lnA]
        repeat' first | refine adv ?_ | refine Side.go ?_ | refine Giv.mk fun _ => ?_ | refine All.mk fun q => ?_ | refine Fork.mk ?_ ?_ | (refine Two.mk (fun h => ?_) (fun h => ?_) <;> try first | contradiction | (exfalso; omega))
        exact endQ.oneW Tryz.results53 ⟨by rw [if_pos (by assumption)], by rw [if_pos (by assumption)]⟩ (fun w h => goes w h)
end Go.SL
namespace Go.SL
open Go.Proofs
set_option synthInstance.maxSize 4000
set_option synthInstance.maxHeartbeats 400000
set_option maxRecDepth 4000
set_option maxHeartbeats 2000000

/-- A store as it lies in memory. -/
@[reducible] def stC (p d Z : Nat) (mv sv : Value) (pos num : Nat) (off : Bool) : HProp :=
  cells true p 0 [.pointer (some ⟨d, 0, none⟩), .int .i64 0, .int .i64 (midOf Z), .int .i64 ((2 * midOf Z : Nat) : Int), .int .i64 ((Z : Int) - 1), mv, sv, .int .i64 pos, .int .i64 num, .bool off]
theorem st_dead (p d Z : Nat) (mv sv : Value) (pos num : Nat) (off : Bool) : Spec Tryz.prog 35 #[.pointer (some ⟨p, 0, none⟩)] [stC p d Z mv sv pos num off] (fun v L => v = .bool off ∧ L = [stC p d Z mv sv pos num off]) := by
  refine enter1 Tryz.func35 rfl (by decide) (by decide) ?_
  intro B F
  dsimp only [lcA, lnA]
  dsimp only [stC]
  repeat' first | refine adv ?_ | refine Side.go ?_ | refine Giv.mk fun _ => ?_ | refine All.mk fun q => ?_ | refine Fork.mk ?_ ?_ | (refine Two.mk (fun h => ?_) (fun h => ?_) <;> try first | contradiction | (exfalso; omega))
  exact endQ.one Tryz.results35 ⟨rfl, rfl⟩
theorem st_manager (p d Z m : Nat) (sv : Value) (pos num : Nat) (off : Bool) : Spec Tryz.prog 66 #[.pointer (some ⟨p, 0, none⟩)] [stC p d Z (.pointer (some ⟨m, 0, none⟩)) sv pos num off]
    (fun v L => v = .pointer (some ⟨m, 0, none⟩) ∧ L = [stC p d Z (.pointer (some ⟨m, 0, none⟩)) sv pos num off]) := by
  refine enter1 Tryz.func66 rfl (by decide) (by decide) ?_
  intro B F
  dsimp only [lcA, lnA]
  dsimp only [stC]
  repeat' first | refine adv ?_ | refine Side.go ?_ | refine Giv.mk fun _ => ?_ | refine All.mk fun q => ?_ | refine Fork.mk ?_ ?_ | (refine Two.mk (fun h => ?_) (fun h => ?_) <;> try first | contradiction | (exfalso; omega))
  exact endQ.one Tryz.results66 ⟨rfl, rfl⟩
theorem st_blocks (p d : Nat) (D : Dv) (mv sv : Value) (pos num : Nat) (off : Bool) (ok : D.ok) : Spec Tryz.prog 17 #[.pointer (some ⟨p, 0, none⟩)] [stC p d D.Z mv sv pos num off, devO d D]
    (fun v L => v = .int .i64 (capOf D.Z D.S) ∧ L = [stC p d D.Z mv sv pos num off, devO d D]) := by
  refine enter1 Tryz.func17 rfl (by decide) (by decide) ?_
  intro B F
  dsimp only [lcA, lnA]
  dsimp only [stC]
  repeat' first | refine adv ?_ | refine Side.go ?_ | refine Giv.mk fun _ => ?_ | refine All.mk fun q => ?_ | refine Fork.mk ?_ ?_ | (refine Two.mk (fun h => ?_) (fun h => ?_) <;> try first | contradiction | (exfalso; omega))
  refine CallG.use (dev_geometry d D ok) ?_
  rintro r M ⟨rfl, rfl⟩
  dsimp only [lcA, lnA]
  repeat' first | refine adv ?_ | refine Side.go ?_ | refine Giv.mk fun _ => ?_ | refine All.mk fun q => ?_ | refine Fork.mk ?_ ?_ | (refine Two.mk (fun h => ?_) (fun h => ?_) <;> try first | contradiction | (exfalso; omega))
  refine CallG.use (space_capacity D.Z D.S ⟨⟨by have := ok.z0; omega, by have := ok.z1; omega⟩, by have := ok.s0; omega, by have := ok.s1; omega⟩) ?_
  rintro r M ⟨rfl, rfl⟩
  dsimp only [lcA, lnA]
  repeat' first | refine adv ?_ | refine Side.go ?_ | refine Giv.mk fun _ => ?_ | refine All.mk fun q => ?_ | refine Fork.mk ?_ ?_ | (refine Two.mk (fun h => ?_) (fun h => ?_) <;> try first | contradiction | (exfalso; omega))
  exact endQ.oneW Tryz.results17 ⟨rfl, rfl⟩ (fun w h => goes w h)
theorem st_last (p d Z m : Nat) (M : Mg) (sv : Value) (pos num : Nat) (off : Bool) : Spec Tryz.prog 26 #[.pointer (some ⟨p, 0, none⟩)] [stC p d Z (.pointer (some ⟨m, 0, none⟩)) sv pos num off, mgO m M]
    (fun v L => v = .int .i64 M.last ∧ L = [stC p d Z (.pointer (some ⟨m, 0, none⟩)) sv pos num off, mgO m M]) := by
  refine enter1 Tryz.func26 rfl (by decide) (by decide) ?_
  intro B F
  dsimp only [lcA, lnA]
  dsimp only [stC]
  repeat' first | refine adv ?_ | refine Side.go ?_ | refine Giv.mk fun _ => ?_ | refine All.mk fun q => ?_ | refine Fork.mk ?_ ?_ | (refine Two.mk (fun h => ?_) (fun h => ?_) <;> try first | contradiction | (exfalso; omega))
  refine CallG.use (st_manager p d Z m sv pos num off) ?_
  rintro r M ⟨rfl, rfl⟩
  dsimp only [lcA, lnA]
  dsimp only [stC]
  repeat' first | refine adv ?_ | refine Side.go ?_ | refine Giv.mk fun _ => ?_ | refine All.mk fun q => ?_ | refine Fork.mk ?_ ?_ | (refine Two.mk (fun h => ?_) (fun h => ?_) <;> try first | contradiction | (exfalso; omega))
  refine CallG.use (tx_last m M) ?_
  rintro r M ⟨rfl, rfl⟩
  dsimp only [lcA, lnA]
  repeat' first | refine adv ?_ | refine Side.go ?_ | refine Giv.mk fun _ => ?_ | refine All.mk fun q => ?_ | refine Fork.mk ?_ ?_ | (refine Two.mk (fun h => ?_) (fun h => ?_) <;> try first | contradiction | (exfalso; omega))
  exact endQ.oneW Tryz.results26 ⟨rfl, rfl⟩ (fun w h => goes w h)
theorem st_dump (p d Z m : Nat) (M : Mg) (sv : Value) (pos num : Nat) (off : Bool) (hk : ∀ e ∈ M.E.vs, I64 e.1 ∧ 0 < e.2.length ∧ e.2.length ≤ 2000000) (hl : M.E.vs.length ≤ 1000000) :
    Spec Tryz.prog 27 #[.pointer (some ⟨p, 0, none⟩)] [stC p d Z (.pointer (some ⟨m, 0, none⟩)) sv pos num off, mgO m M]
    (fun v L => ∃ t : Sl PutR, t.xs.map PutR.v = M.E.dump ∧ v = t.val ∧ L = [stC p d Z (.pointer (some ⟨m, 0, none⟩)) sv pos num off, mgO m M, ownS t]) := by
  refine enter1 Tryz.func27 rfl (by decide) (by decide) ?_
  intro B F
  dsimp only [lcA, lnA]
  dsimp only [stC]
  repeat' first | refine adv ?_ | refine Side.go ?_ | refine Giv.mk fun _ => ?_ | refine All.mk fun q => ?_ | refine Fork.mk ?_ ?_ | (refine Two.mk (fun h => ?_) (fun h => ?_) <;> try first | contradiction | (exfalso; omega))
  refine CallG.use (st_manager p d Z m sv pos num off) ?_
  rintro r M ⟨rfl, rfl⟩
  dsimp only [lcA, lnA]
  dsimp only [stC]
  repeat' first | refine adv ?_ | refine Side.go ?_ | refine Giv.mk fun _ => ?_ | refine All.mk fun q => ?_ | refine Fork.mk ?_ ?_ | (refine Two.mk (fun h => ?_) (fun h => ?_) <;> try first | contradiction | (exfalso; omega))
  refine CallG.use (tx_dump m M hk hl) ?_
  rintro r M ⟨t, ht, rfl, rfl⟩
  dsimp only [lcA, lnA]
  repeat' first | refine adv ?_ | refine Side.go ?_ | refine Giv.mk fun _ => ?_ | refine All.mk fun q => ?_ | refine Fork.mk ?_ ?_ | (refine Two.mk (fun h => ?_) (fun h => ?_) <;> try first | contradiction | (exfalso; omega))
  exact endQ.oneW Tryz.results27 ⟨t, ht, rfl, rfl⟩ (fun w h => goes w h)
theorem st_begin (p d Z m : Nat) (M : Mg) (sv : Value) (pos num : Nat) (hb : 1 ≤ M.E.blocks ∧ M.E.blocks ≤ 1048576) (hi : ∀ e ∈ M.K.ts, I64 e.1) (hl : M.K.ts.length ≤ 1000000) (hla : M.K.last ≤ 1000000000) :
    Spec Tryz.prog 16 #[.pointer (some ⟨p, 0, none⟩)] [stC p d Z (.pointer (some ⟨m, 0, none⟩)) sv pos num false, mgO m M]
    (fun v L => v = .tuple #[.int .i64 M.begin.1, .int .i64 M.begin.2.1] ∧ L = [stC p d Z (.pointer (some ⟨m, 0, none⟩)) sv pos num false, mgO m M.begin.2.2]) := by
  refine enter1 Tryz.func16 rfl (by decide) (by decide) ?_
  intro B F
  dsimp only [lcA, lnA]
  dsimp only [stC]
  repeat' first | refine adv ?_ | refine Side.go ?_ | refine Giv.mk fun _ => ?_ | refine All.mk fun q => ?_ | refine Fork.mk ?_ ?_ | (refine Two.mk (fun h => ?_) (fun h => ?_) <;> try first | contradiction | (exfalso; omega))
  refine CallG.use (st_dead p d Z (.pointer (some ⟨m, 0, none⟩)) sv pos num false) ?_
  rintro r M ⟨rfl, rfl⟩
  dsimp only [lcA, lnA]
  dsimp only [stC]
  repeat' first | refine adv ?_ | refine Side.go ?_ | refine Giv.mk fun _ => ?_ | refine All.mk fun q => ?_ | refine Fork.mk ?_ ?_ | (refine Two.mk (fun h => ?_) (fun h => ?_) <;> try first | contradiction | (exfalso; omega))
  refine CallG.use (tx_begin m M hb hi hl hla) ?_
  rintro r M ⟨rfl, rfl⟩
  dsimp only [lcA, lnA]
  repeat' first | refine adv ?_ | refine Side.go ?_ | refine Giv.mk fun _ => ?_ | refine All.mk fun q => ?_ | refine Fork.mk ?_ ?_ | (refine Two.mk (fun h => ?_) (fun h => ?_) <;> try first | contradiction | (exfalso; omega))
  exact endQ.twoW Tryz.results16 ⟨rfl, rfl⟩ (fun w h => goes w h)
theorem st_write (p d Z m : Nat) (M : Mg) (sv : Value) (pos num : Nat) (h : Int) (ps : Sl PutR) (hi : ∀ x ∈ ps.xs, I64 x.lba) (hW : ∀ e ∈ M.all, e.2.W.vs.length ≤ 1000000) :
    Spec Tryz.prog 19 #[.pointer (some ⟨p, 0, none⟩), .int .i64 h, ps.val] [stC p d Z (.pointer (some ⟨m, 0, none⟩)) sv pos num false, mgO m M, roS ps]
    (fun v L => v = .int .i64 (M.write h (ps.xs.map PutR.v)).1 ∧ L = [stC p d Z (.pointer (some ⟨m, 0, none⟩)) sv pos num false, mgO m (M.write h (ps.xs.map PutR.v)).2]) := by
  refine enter3 Tryz.func19 rfl (by decide) (by decide) ?_
  intro B F
  dsimp only [lcA, lnA]
  dsimp only [stC]
  repeat' first | refine adv ?_ | refine Side.go ?_ | refine Giv.mk fun _ => ?_ | refine All.mk fun q => ?_ | refine Fork.mk ?_ ?_ | (refine Two.mk (fun h => ?_) (fun h => ?_) <;> try first | contradiction | (exfalso; omega))
  refine CallG.use (st_dead p d Z (.pointer (some ⟨m, 0, none⟩)) sv pos num false) ?_
  rintro r M ⟨rfl, rfl⟩
  dsimp only [lcA, lnA]
  dsimp only [stC]
  repeat' first | refine adv ?_ | refine Side.go ?_ | refine Giv.mk fun _ => ?_ | refine All.mk fun q => ?_ | refine Fork.mk ?_ ?_ | (refine Two.mk (fun h => ?_) (fun h => ?_) <;> try first | contradiction | (exfalso; omega))
  refine CallG.use (tx_write m M h ps hi hW) ?_
  rintro r M ⟨rfl, rfl⟩
  dsimp only [lcA, lnA]
  repeat' first | refine adv ?_ | refine Side.go ?_ | refine Giv.mk fun _ => ?_ | refine All.mk fun q => ?_ | refine Fork.mk ?_ ?_ | (refine Two.mk (fun h => ?_) (fun h => ?_) <;> try first | contradiction | (exfalso; omega))
  exact endQ.oneW Tryz.results19 ⟨rfl, rfl⟩ (fun w h => goes w h)
theorem st_commit1 (p d Z m : Nat) (M : Mg) (sv : Value) (pos num : Nat) (h : Int) (T : Tr) (k : Int) (b : List UInt8) (hT : vget M.all h = some T) (hst : T.st = 1) (hq : M.queue = []) (hS : T.S.l = []) (hW : T.W.vs = [(k, b)]) (hk : 0 ≤ k ∧ k ≤ 1048575)
    (hE : ∀ e ∈ M.E.vs, I64 e.1 ∧ 0 < e.2.length ∧ e.2.length ≤ 2000000) (hall : ∀ e ∈ M.all, e.2.W.vs.length ≤ 1000000 ∧ ∀ x ∈ e.2.W.vs, I64 x.1) (hgv : (0 : Int) ≤ M.given) :
    Spec Tryz.prog 20 #[.pointer (some ⟨p, 0, none⟩), .int .i64 h] [stC p d Z (.pointer (some ⟨m, 0, none⟩)) sv pos num false, mgO m M]
    (fun v L => v = .int .i64 (M.commit1 h T k).1 ∧ L = [stC p d Z (.pointer (some ⟨m, 0, none⟩)) sv pos num false, mgO m (M.commit1 h T k).2]) := by
  refine enter2 Tryz.func20 rfl (by decide) (by decide) ?_
  intro B F
  dsimp only [lcA, lnA]
  dsimp only [stC]
  repeat' first | refine adv ?_ | refine Side.go ?_ | refine Giv.mk fun _ => ?_ | refine All.mk fun q => ?_ | refine Fork.mk ?_ ?_ | (refine Two.mk (fun h => ?_) (fun h => ?_) <;> try first | contradiction | (exfalso; omega))
  refine CallG.use (st_dead p d Z (.pointer (some ⟨m, 0, none⟩)) sv pos num false) ?_
  rintro r M ⟨rfl, rfl⟩
  dsimp only [lcA, lnA]
  dsimp only [stC]
  repeat' first | refine adv ?_ | refine Side.go ?_ | refine Giv.mk fun _ => ?_ | refine All.mk fun q => ?_ | refine Fork.mk ?_ ?_ | (refine Two.mk (fun h => ?_) (fun h => ?_) <;> try first | contradiction | (exfalso; omega))
  refine CallG.use (tx_commit1 m M h T k b hT hst hq hS hW hk hE hall hgv) ?_
  rintro r M ⟨rfl, rfl⟩
  dsimp only [lcA, lnA]
  repeat' first | refine adv ?_ | refine Side.go ?_ | refine Giv.mk fun _ => ?_ | refine All.mk fun q => ?_ | refine Fork.mk ?_ ?_ | (refine Two.mk (fun h => ?_) (fun h => ?_) <;> try first | contradiction | (exfalso; omega))
  exact endQ.oneW Tryz.results20 ⟨rfl, rfl⟩ (fun w h => goes w h)
def strayOf (p : List UInt8) : Bool := decide ((p[0]?.getD 0).toNat ≠ 1 ∧ (p[0]?.getD 0).toNat ≠ 2)
theorem st_strange (s : Sl UInt8) (h : 0 < s.xs.length) : Spec Tryz.prog 43 #[s.val] [roS s] (fun v L => v = .bool (strayOf s.xs) ∧ L = []) := by
  refine enter1 Tryz.func43 rfl (by decide) (by decide) ?_
  intro B F
  dsimp only [lcA, lnA]
  have e0 : (s.xs[0]?.getD 0) = s.xs[0] := by rw [List.getElem?_eq_getElem h]; rfl
  repeat' first | refine adv ?_ | refine Side.go ?_ | refine Giv.mk fun _ => ?_ | refine All.mk fun q => ?_ | refine Fork.mk ?_ ?_ | (refine Two.mk (fun h => ?_) (fun h => ?_) <;> try first | contradiction | (exfalso; omega))
  all_goals refine endQ.one Tryz.results43 ⟨?_, rfl⟩
  all_goals unfold strayOf; rw [e0]
  all_goals first | (congr 1; exact (decide_eq_true (by omega)).symm) | (congr 1; exact (decide_eq_false (by omega)).symm) | (rw [← decide_not]; congr 1; exact decide_eq_decide.2 (by omega))
end Go.SL
namespace Go.SL
open Go.Proofs
set_option synthInstance.maxSize 4000
set_option synthInstance.maxHeartbeats 400000
set_option maxRecDepth 4000
set_option maxHeartbeats 2000000

/-- A field of a value. -/
class FieldV (P : Program) (s : TypeId) (i : Nat) (off : outParam Nat) : Prop where h : ∀ cs w y, cs[off]? = some y → (Instr.field s (.agg cs) i).run P w = .ok y w
theorem FieldV.mk' {P : Program} {s i off : Nat} {fs : Array Field} {f : Field} (h1 : P.underlying s = some (.struct fs)) (h2 : fs[i]? = some f) (ta : TAgg P f.type false) (h4 : f.offset = off) : FieldV P s i off := ⟨fun cs w y hy => by
  simp only [Instr.field, Sem.run_bind, run_underlying_of h1, Result.andThen_ok, h2, asAgg, part, ta.h, Sem.run_pure, h4, hy]
  simp⟩
instance fv23_1 : FieldV Tryz.prog 23 1 1 := FieldV.mk' Tryz.underlying23 rfl ta3 rfl
section
variable {P : Program} {env : Env} {ty : TypeId}
instance cexec_fieldV (s : TypeId) (x : Operand) (i off : Nat) (cs : Array Value) (y : Value) [fv : FieldV P s i off] [ex : EvO env x (.agg cs)] [a : AtA cs off y] : CExec P (.field s x i) ty env True y := ⟨fun dst pos after guard w _ => by
  have hq := fv.h cs w y a.h
  simp only [execOp, ex.h, hq, Sem.run_bind, Result.andThen_ok, Sem.run_pure]⟩
instance ata_1 (a b : Value) : AtA #[a, b] 1 b := ⟨rfl⟩
end

/-- How all blocks were, and when. -/
structure Sta where
  last : Int
  vs : List (Int × List UInt8)
def staO (p : Nat) (S : Sta) : HProp := ex fun r : WbR => star [says (vr r.2 = S.vs), cells true p 0 [.int .i64 S.last, .map (some r.1)], mapO r.1 (vmap Sl.val r.2), bigS roF r.2]
theorem staO_open {B : World} {L : List HProp} {p : Nat} {S : Sta} {w : World} (h : sat B (staO p S :: L) w) : ∃ r : {r : WbR // vr r.2 = S.vs}, sat B (cells true p 0 [.int .i64 S.last, .map (some r.1.1)] :: mapO r.1.1 (vmap Sl.val r.1.2) :: bigS roF r.1.2 :: L) w := by
  obtain ⟨r, hr⟩ := sat_ex.1 h
  obtain ⟨e, h2⟩ := sat_says.1 (sat_star.1 hr)
  exact ⟨⟨r, e⟩, h2⟩
theorem staO_close {B : World} {L : List HProp} {p : Nat} {w : World} (S : Sta) (rm : Nat) (vs : List (Int × Sl UInt8)) (e : vr vs = S.vs)
    (h : sat B (cells true p 0 [.int .i64 S.last, .map (some rm)] :: mapO rm (vmap Sl.val vs) :: bigS roF vs :: L) w) : sat B (staO p S :: L) w :=
  sat_ex.2 ⟨(rm, vs), sat_star.2 (sat_says.2 ⟨e, h⟩)⟩

/-- What stands in zones one behind the other, and what stands behind a gap. -/
def logOf (D : Dv) : Nat → Nat → Bool → List (List UInt8) × List (List UInt8)
  | 0, _, _ => ([], [])
  | n + 1, z, g => ((if g = true then [] else zoneOf D z) ++ (logOf D n (z + 1) (g || decide ((zoneOf D z).length < D.S))).1, (if g = true then zoneOf D z else []) ++ (logOf D n (z + 1) (g || decide ((zoneOf D z).length < D.S))).2)
theorem st_log (p d : Nat) (D : Dv) (mv sv : Value) (pos num : Nat) (off : Bool) (ok : D.ok) :
    Spec Tryz.prog 41 #[.pointer (some ⟨p, 0, none⟩)] [stC p d D.Z mv sv pos num off, devO d D] (fun v L => ∃ t u : Sl (Sl UInt8), raws t.xs = (logOf D (D.Z - 2 * midOf D.Z) (2 * midOf D.Z) false).1 ∧ raws u.xs = (logOf D (D.Z - 2 * midOf D.Z) (2 * midOf D.Z) false).2 ∧
      v = .tuple #[t.val, u.val] ∧ L = [stC p d D.Z mv sv pos num off, devO d { D with reads := D.reads + (t.xs.length : Int) + (u.xs.length : Int) }, ownS t, ownS u]) := by
  have z0 := ok.z0
  have z1 := ok.z1
  have hmid : 2 * midOf D.Z < D.Z := by unfold midOf; omega
  refine enter1 Tryz.func41 rfl (by decide) (by decide) ?_
  intro B F
  dsimp only [lcA, lnA]
  dsimp only [stC]
  repeat' first | refine adv ?_ | refine Side.go ?_ | refine Giv.mk fun _ => ?_ | refine All.mk fun q => ?_ | refine Fork.mk ?_ ?_ | (refine Two.mk (fun h => ?_) (fun h => ?_) <;> try first | contradiction | (exfalso; omega))
  refine CallG.use (dev_geometry d D ok) ?_
  rintro r M ⟨rfl, rfl⟩
  dsimp only [lcA, lnA]
  repeat' first | refine adv ?_ | refine Side.go ?_ | refine Giv.mk fun _ => ?_ | refine All.mk fun q => ?_ | refine Fork.mk ?_ ?_ | (refine Two.mk (fun h => ?_) (fun h => ?_) <;> try first | contradiction | (exfalso; omega))
  have hfull := hmid
  generalize hA : logOf D (D.Z - 2 * midOf D.Z) (2 * midOf D.Z) false = A
  refine Sy_loop (ι := {st : (Nat × Bool) × Sl (Sl UInt8) × Sl (Sl UInt8) // (2 * midOf D.Z ≤ st.1.1 ∧ st.1.1 ≤ D.Z) ∧ raws st.2.1.xs ++ (logOf D (D.Z - st.1.1) st.1.1 st.1.2).1 = A.1 ∧ raws st.2.2.xs ++ (logOf D (D.Z - st.1.1) st.1.1 st.1.2).2 = A.2 ∧ st.2.1.xs.length + st.2.2.xs.length ≤ 192 * st.1.1})
    (fun st => [(6, .int .i64 st.1.1.1), (5, .bool st.1.1.2), (4, .int .i64 D.S), (3, st.1.2.2.val), (2, st.1.2.1.val), (0, .pointer (some ⟨p, 0, none⟩))])
    (fun st => ownS st.1.2.1 :: ownS st.1.2.2 :: stC p d D.Z mv sv pos num off :: devO d { D with reads := D.reads + (st.1.2.1.xs.length : Int) + (st.1.2.2.xs.length : Int) } :: F) (fun st => D.Z - st.1.1.1)
    ⟨((2 * midOf D.Z, false), ⟨none, 0, []⟩, ⟨none, 0, []⟩), ⟨Nat.le_refl _, by dsimp only; omega⟩, by dsimp only; rw [hA]; rfl, by dsimp only; rw [hA]; rfl, by simp⟩ (evs rfl (evs rfl (evs rfl (evs rfl (evs rfl (evs rfl .nil)))))) (fun w h => ?_) ?_
  · have e : ({ D with reads := D.reads + (([] : List (Sl UInt8)).length : Int) + (([] : List (Sl UInt8)).length : Int) } : Dv) = D := by simp
    dsimp only [stC]
    rw [e]
    exact goes w (sat_true (own_nil (α := Sl UInt8)) (sat_true (own_nil (α := Sl UInt8)) h))
  rintro ⟨⟨⟨z, g⟩, t, u⟩, hz, hgo1, hgo2, htl⟩ env
  dsimp only [upds, stC] at hz hgo1 hgo2 htl ⊢
  repeat' first | refine adv ?_ | refine Side.go ?_ | refine Giv.mk fun _ => ?_ | refine All.mk fun q => ?_ | refine Fork.mk ?_ ?_ | (refine Two.mk (fun h => ?_) (fun h => ?_) <;> try first | contradiction | (exfalso; omega))
  · have hzZ : z < D.Z := by omega
    have hp : ({ D with reads := D.reads + (t.xs.length : Int) + (u.xs.length : Int) } : Dv).pointer z = (((zoneOf D z).length : Int), 0) := by unfold Dv.pointer; rw [if_pos (by dsimp only; omega)]; rfl
    have hzo : (zoneOf D z).length ≤ 192 := zoneOf_le ok hzZ
    refine CallG.use (dev_pointer d { D with reads := D.reads + (t.xs.length : Int) + (u.xs.length : Int) } (ok.reads _) z) ?_
    rintro r M ⟨rfl, rfl⟩
    dsimp only [lcA, lnA]
    rw [hp]
    repeat' first | refine adv ?_ | refine Side.go ?_ | refine Giv.mk fun _ => ?_ | refine All.mk fun q => ?_ | refine Fork.mk ?_ ?_ | (refine Two.mk (fun h => ?_) (fun h => ?_) <;> try first | contradiction | (exfalso; omega))
    refine Sy_loop (ι := {st : Nat × Sl (Sl UInt8) × Sl (Sl UInt8) // st.1 ≤ (zoneOf D z).length ∧ raws st.2.1.xs = raws t.xs ++ (if g = true then [] else (zoneOf D z).take st.1) ∧ raws st.2.2.xs = raws u.xs ++ (if g = true then (zoneOf D z).take st.1 else [])})
      (fun st => [(42, .int .i64 st.1.1), (41, .int .i64 (zoneOf D z).length), (7, .int .i64 (zoneOf D z).length), (6, .int .i64 z), (5, .bool g), (4, .int .i64 D.S), (3, st.1.2.2.val), (2, st.1.2.1.val), (0, .pointer (some ⟨p, 0, none⟩))])
      (fun st => ownS st.1.2.1 :: ownS st.1.2.2 :: stC p d D.Z mv sv pos num off :: devO d { D with reads := D.reads + (st.1.2.1.xs.length : Int) + (st.1.2.2.xs.length : Int) } :: F) (fun st => (zoneOf D z).length - st.1.1)
      ⟨(0, t, u), Nat.zero_le _, by simp, by simp⟩ (evs rfl (evs rfl (evs rfl (evs rfl (evs rfl (evs rfl (evs rfl (evs rfl (evs rfl .nil))))))))) (fun w h => goes w h) ?_
    rintro ⟨⟨k, t', u'⟩, hk, ht', hu'⟩ env
    dsimp only [upds, stC] at hk ht' hu' ⊢
    have hsum : t'.xs.length + u'.xs.length = t.xs.length + u.xs.length + k := by
      rw [← raws_len t'.xs, ← raws_len u'.xs, ht', hu', List.length_append, List.length_append, raws_len, raws_len]
      cases g <;> simp <;> omega
    cases g with
    | false =>
      simp only [Bool.false_eq_true, if_false, List.append_nil] at ht' hu'
      by_cases hk2 : k < (zoneOf D z).length
      · repeat' first | refine adv ?_ | refine Side.go ?_ | refine Giv.mk fun _ => ?_ | refine All.mk fun q => ?_ | refine Fork.mk ?_ ?_ | (refine Two.mk (fun h => ?_) (fun h => ?_) <;> try first | contradiction | (exfalso; omega))
        refine CallG.use (dev_read_in d D (D.reads + (t'.xs.length : Int) + (u'.xs.length : Int)) (ok.reads _) z k hzZ hk2) ?_
        rintro v M ⟨a, c, rfl, h64, rfl⟩
        dsimp only [lcA, lnA]
        repeat' first | refine adv ?_ | refine Side.go ?_ | refine Giv.mk fun _ => ?_ | refine All.mk fun q => ?_ | refine Fork.mk ?_ ?_ | (refine Two.mk (fun h => ?_) (fun h => ?_) <;> try first | contradiction | (exfalso; omega))
        refine AppG.oneS t' (⟨a, c, (zoneOf D z)[k]⟩ : Sl UInt8) (by omega) (fun a2 c2 => ?_)
        repeat' first | refine adv ?_ | refine Side.go ?_ | refine Giv.mk fun _ => ?_ | refine All.mk fun q => ?_ | refine Fork.mk ?_ ?_ | (refine Two.mk (fun h => ?_) (fun h => ?_) <;> try first | contradiction | (exfalso; omega))
        refine loopQ.next ⟨(k + 1, ⟨a2, c2, t'.xs ++ [⟨a, c, (zoneOf D z)[k]⟩]⟩, u'), by dsimp only; omega, ?_, ?_⟩ (by simp only []; omega) (evs rfl (evs rfl (evs rfl (evs rfl (evs rfl (evs rfl (evs rfl (evs rfl (evs rfl .nil))))))))) (fun w h => ?_)
        · rw [raws_snoc, ht', List.take_succ_eq_append_getElem hk2, List.append_assoc]; rfl
        · dsimp only; rw [hu']; simp
        · have e : (D.reads + ((t'.xs ++ [(⟨a, c, (zoneOf D z)[k]⟩ : Sl UInt8)]).length : Int) + (u'.xs.length : Int)) = D.reads + (t'.xs.length : Int) + (u'.xs.length : Int) + 1 := by simp; omega
          dsimp only [stC]
          rw [e]
          exact goes w h
      · have hkl : k = (zoneOf D z).length := by omega
        subst hkl
        rw [List.take_length] at ht'
        have e : D.Z - z = (D.Z - (z + 1)) + 1 := by omega
        rw [e, logOf] at hgo1 hgo2
        simp only [Bool.false_eq_true, if_false, List.nil_append] at hgo1 hgo2
        repeat' first | refine adv ?_ | refine Side.go ?_ | refine Giv.mk fun _ => ?_ | refine All.mk fun q => ?_ | refine Fork.mk ?_ ?_ | (refine Two.mk (fun h => ?_) (fun h => ?_) <;> try first | contradiction | (exfalso; omega))
        have hd : decide (((zoneOf D z).length : Int) < (D.S : Int)) = (false || decide ((zoneOf D z).length < D.S)) := by rw [Bool.false_or]; exact decide_eq_decide.2 (by omega)
        refine loopQ.next ⟨((z + 1, decide (((zoneOf D z).length : Int) < (D.S : Int))), t', u'), ⟨by dsimp only; omega, by dsimp only; omega⟩, ?_, ?_, by dsimp only; omega⟩ (by simp only []; omega) (evs rfl (evs rfl (evs rfl (evs rfl (evs rfl (evs rfl .nil)))))) (fun w h => goes w h)
        · dsimp only
          rw [hd, ht', List.append_assoc]; exact hgo1
        · dsimp only
          rw [hd, ‹raws u'.xs = raws u.xs›]; exact hgo2
    | true =>
      simp only [if_true, List.append_nil] at ht' hu'
      by_cases hk2 : k < (zoneOf D z).length
      · repeat' first | refine adv ?_ | refine Side.go ?_ | refine Giv.mk fun _ => ?_ | refine All.mk fun q => ?_ | refine Fork.mk ?_ ?_ | (refine Two.mk (fun h => ?_) (fun h => ?_) <;> try first | contradiction | (exfalso; omega))
        refine CallG.use (dev_read_in d D (D.reads + (t'.xs.length : Int) + (u'.xs.length : Int)) (ok.reads _) z k hzZ hk2) ?_
        rintro v M ⟨a, c, rfl, h64, rfl⟩
        dsimp only [lcA, lnA]
        repeat' first | refine adv ?_ | refine Side.go ?_ | refine Giv.mk fun _ => ?_ | refine All.mk fun q => ?_ | refine Fork.mk ?_ ?_ | (refine Two.mk (fun h => ?_) (fun h => ?_) <;> try first | contradiction | (exfalso; omega))
        refine AppG.oneS u' (⟨a, c, (zoneOf D z)[k]⟩ : Sl UInt8) (by omega) (fun a2 c2 => ?_)
        repeat' first | refine adv ?_ | refine Side.go ?_ | refine Giv.mk fun _ => ?_ | refine All.mk fun q => ?_ | refine Fork.mk ?_ ?_ | (refine Two.mk (fun h => ?_) (fun h => ?_) <;> try first | contradiction | (exfalso; omega))
        refine loopQ.next ⟨(k + 1, t', ⟨a2, c2, u'.xs ++ [⟨a, c, (zoneOf D z)[k]⟩]⟩), by dsimp only; omega, ?_, ?_⟩ (by simp only []; omega) (evs rfl (evs rfl (evs rfl (evs rfl (evs rfl (evs rfl (evs rfl (evs rfl (evs rfl .nil))))))))) (fun w h => ?_)
        · dsimp only; rw [ht']; simp
        · rw [raws_snoc, hu', List.take_succ_eq_append_getElem hk2, List.append_assoc]; rfl
        · have e : (D.reads + (t'.xs.length : Int) + ((u'.xs ++ [(⟨a, c, (zoneOf D z)[k]⟩ : Sl UInt8)]).length : Int)) = D.reads + (t'.xs.length : Int) + (u'.xs.length : Int) + 1 := by simp; omega
          dsimp only [stC]
          rw [e]
          exact goes w h
      · have hkl : k = (zoneOf D z).length := by omega
        subst hkl
        rw [List.take_length] at hu'
        have e : D.Z - z = (D.Z - (z + 1)) + 1 := by omega
        rw [e, logOf] at hgo1 hgo2
        simp only [if_true, List.nil_append, Bool.true_or] at hgo1 hgo2
        repeat' first | refine adv ?_ | refine Side.go ?_ | refine Giv.mk fun _ => ?_ | refine All.mk fun q => ?_ | refine Fork.mk ?_ ?_ | (refine Two.mk (fun h => ?_) (fun h => ?_) <;> try first | contradiction | (exfalso; omega))
        refine loopQ.next ⟨((z + 1, true), t', u'), ⟨by dsimp only; omega, by dsimp only; omega⟩, ?_, ?_, by dsimp only; omega⟩ (by simp only []; omega) (evs rfl (evs rfl (evs rfl (evs rfl (evs rfl (evs rfl .nil)))))) (fun w h => goes w h)
        · dsimp only
          rw [‹raws t'.xs = raws t.xs›]; exact hgo1
        · dsimp only
          rw [hu', List.append_assoc]; exact hgo2
  · have hzb : z = D.Z := by omega
    subst hzb
    refine endQ.twoW Tryz.results41 ⟨t, u, ?_, ?_, rfl, rfl⟩ (fun w h => goes w h)
    · rw [← hgo1, Nat.sub_self]; simp [logOf]
    · rw [← hgo2, Nat.sub_self]; simp [logOf]
end Go.SL
namespace Go.SL
open Go.Proofs
set_option synthInstance.maxSize 4000
set_option synthInstance.maxHeartbeats 400000
set_option maxRecDepth 4000
set_option maxHeartbeats 2000000

def Sta.tx (S : Sta) (t : TV) : Sta := ⟨t.1, t.2.foldl (fun vs p => vset vs p.1 p.2) S.vs⟩
def Sta.txs (S : Sta) (l : List TV) : Sta := l.foldl Sta.tx S
structure Rp where
  pos : Nat
  num : Nat
  S : Sta
  torn : Bool
def replayGo (l : List (List UInt8)) (count : Nat) : Nat → Nat → Nat → Sta → Rp
  | 0, pos, num, S => ⟨pos, num, S, false⟩
  | f + 1, pos, num, S =>
    if l.length ≤ pos then ⟨pos, num, S, false⟩
    else match decodeOf (l.drop pos) with
      | none => ⟨pos, num, S, true⟩
      | some (bn, ep, n, t) => if ep ≠ count ∨ bn ≠ num + 1 ∨ (t[0]?.getD (0, [])).1 ≤ S.last then ⟨pos, num, S, true⟩ else replayGo l count f (pos + n) (num + 1) (S.txs t)

theorem staO_pick {B : World} {L R : List HProp} {p : Nat} {S : Sta} [k : Pick (staO p S) L R] (w : World) (h : sat B L w) : ∃ r : {r : WbR // vr r.2 = S.vs}, sat B (cells true p 0 [.int .i64 S.last, .map (some r.1.1)] :: mapO r.1.1 (vmap Sl.val r.1.2) :: bigS roF r.1.2 :: R) w := staO_open (h.perm k.perm)
theorem decode_good {l : List (List UInt8)} {bn ep n : Nat} {t : List TV} (h : decodeOf l = some (bn, ep, n, t)) : (1 ≤ n ∧ n ≤ l.length + 1) ∧ ∃ num, GoodB num t := by
  unfold decodeOf at h
  split at h
  · cases h
  · obtain ⟨u, hu, he⟩ := Option.map_eq_some_iff.1 h
    have hr := (rowGo_ok l 0 (0, 0) []).2.2
    simp only [List.length_nil, Nat.zero_add] at hr
    cases he
    refine ⟨⟨by omega, by omega⟩, ?_⟩
    unfold batchOf at hu
    split at hu
    · cases hu
    split at hu
    · cases hu
    split at hu
    · split at hu
      · rename_i hc
        cases hu
        exact ⟨_, checkB_good hc.2⟩
      · cases hu
    · cases hu

theorem st_replay (p d s st Z : Nat) (mv : Value) (sr : SR) (pos num : Nat) (off : Bool) (S : Sta) (l : Sl (Sl UInt8)) (hl : l.xs.length ≤ 50000) (hpos : pos ≤ l.xs.length) (hnum : num ≤ pos) :
    Spec Tryz.prog 44 #[.pointer (some ⟨p, 0, none⟩), .pointer (some ⟨st, 0, none⟩), l.val] [stC p d Z mv (.pointer (some ⟨s, 0, none⟩)) pos num off, slotC s d sr, roS sr.text, staO st S, roS l]
      (fun v L => v = .bool (replayGo (raws l.xs) sr.count (l.xs.length + 1 - pos) pos num S).torn ∧
        L = [stC p d Z mv (.pointer (some ⟨s, 0, none⟩)) (replayGo (raws l.xs) sr.count (l.xs.length + 1 - pos) pos num S).pos (replayGo (raws l.xs) sr.count (l.xs.length + 1 - pos) pos num S).num off, slotC s d sr, roS sr.text, staO st (replayGo (raws l.xs) sr.count (l.xs.length + 1 - pos) pos num S).S]) := by
  refine enter3 Tryz.func44 rfl (by decide) (by decide) ?_
  intro B F
  dsimp only [lcA, lnA]
  dsimp only [stC, slotC]
  repeat' first | refine adv ?_ | refine Side.go ?_ | refine Giv.mk fun _ => ?_ | refine All.mk fun q => ?_ | refine Fork.mk ?_ ?_ | (refine Two.mk (fun h => ?_) (fun h => ?_) <;> try first | contradiction | (exfalso; omega))
  refine CallG.use (slot_load s d sr) ?_
  rintro r M ⟨a0, c0, rfl, rfl⟩
  dsimp only [lcA, lnA]
  dsimp only [slotC]
  repeat' first | refine adv ?_ | refine Side.go ?_ | refine Giv.mk fun _ => ?_ | refine All.mk fun q => ?_ | refine Fork.mk ?_ ?_ | (refine Two.mk (fun h => ?_) (fun h => ?_) <;> try first | contradiction | (exfalso; omega))
  generalize hA : replayGo (raws l.xs) sr.count (l.xs.length + 1 - pos) pos num S = A
  refine Sy_loop (ι := {x : Nat × Nat × Sta // (x.1 ≤ 2 * l.xs.length + 2 ∧ x.2.1 ≤ x.1) ∧ ∃ f, l.xs.length + 1 ≤ f + x.1 ∧ replayGo (raws l.xs) sr.count f x.1 x.2.1 x.2.2 = A})
    (fun x => [(2, l.val), (0, .pointer (some ⟨p, 0, none⟩)), (1, .pointer (some ⟨st, 0, none⟩)), (8, .int .i64 sr.count), (6, .bool false)])
    (fun x => stC p d Z mv (.pointer (some ⟨s, 0, none⟩)) x.1.1 x.1.2.1 off :: slotC s d sr :: roS sr.text :: staO st x.1.2.2 :: roS l :: F) (fun x => l.xs.length - x.1.1)
    ⟨(pos, num, S), ⟨by dsimp only; omega, hnum⟩, _, by dsimp only; omega, hA⟩ (evs rfl (evs rfl (evs rfl (evs rfl (evs rfl .nil))))) (fun w h => by dsimp only [stC, slotC]; exact goes w h) ?_
  rintro ⟨⟨pos, num, S⟩, ⟨hp1, hn1⟩, f, hf, hgo⟩ env
  dsimp only [upds, stC, slotC] at hp1 hn1 hf hgo ⊢
  by_cases hlt : pos < l.xs.length
  · obtain ⟨f, rfl⟩ : ∃ g, f = g + 1 := ⟨f - 1, by omega⟩
    rw [replayGo, if_neg (by rw [raws_len]; omega)] at hgo
    refine Sy_all (staO_pick (p := st) (S := S)) (fun r => ?_)
    obtain ⟨⟨rm, vs⟩, hr⟩ := r
    dsimp only at hr ⊢
    repeat' first | refine adv ?_ | refine Side.go ?_ | refine Giv.mk fun _ => ?_ | refine All.mk fun q => ?_ | refine Fork.mk ?_ ?_ | (refine Two.mk (fun h => ?_) (fun h => ?_) <;> try first | contradiction | (exfalso; omega))
    have hys : raws (List.drop pos (List.take l.xs.length l.xs)) = (raws l.xs).drop pos := by rw [List.take_length]; simp [raws]
    have hyl : (List.drop pos (List.take l.xs.length l.xs)).length ≤ 100000 := by rw [List.take_length, List.length_drop]; omega
    generalize List.drop pos (List.take l.xs.length l.xs) = ys at hys hyl ⊢
    refine CallG.use (batch_decode (⟨q, l.c - pos, ys⟩ : Sl (Sl UInt8)) hyl) ?_
    rintro v M (⟨hn, err, herr, rfl, rfl⟩ | ⟨bn, ep, n, t, hn, rfl, rfl⟩)
    · dsimp only at hn
      rw [hys] at hn
      rw [hn] at hgo
      dsimp only [lcA, lnA] at hgo ⊢
      repeat' first | refine adv ?_ | refine Side.go ?_ | refine Giv.mk fun _ => ?_ | refine All.mk fun q => ?_ | refine Fork.mk ?_ ?_ | (refine Two.mk (fun h => ?_) (fun h => ?_) <;> try first | contradiction | (exfalso; omega))
      subst hgo
      refine endQ.oneW Tryz.results44 ⟨rfl, rfl⟩ (fun w h => ?_)
      have h2 := staO_close (p := st) (L := stC p d Z mv (.pointer (some ⟨s, 0, none⟩)) pos num off :: slotC s d sr :: roS sr.text :: F) S rm vs hr (goes w h)
      dsimp only
      exact goes w h2
    · dsimp only at hn
      rw [hys] at hn
      rw [hn] at hgo
      obtain ⟨⟨hn0, hn2⟩, hgn, hgd⟩ := decode_good hn
      rw [List.length_drop, raws_len] at hn2
      have ht0 := hgd.len0
      rw [List.length_map] at ht0
      dsimp only [lcA, lnA] at hgo ⊢
      have ht00 : ((t.xs.map TxR.v)[0]?.getD (0, [])).1 = t.xs[0].time := by
        rw [List.getElem?_map, List.getElem?_eq_getElem (show 0 < t.xs.length from ht0)]; rfl
      rw [ht00] at hgo
      by_cases hc : ep ≠ sr.count ∨ bn ≠ num + 1 ∨ t.xs[0].time ≤ S.last
      · rw [if_pos hc] at hgo
        subst hgo
        repeat' first | refine adv ?_ | refine Side.go ?_ | refine Giv.mk fun _ => ?_ | refine All.mk fun q => ?_ | refine Fork.mk ?_ ?_ | (refine Two.mk (fun h => ?_) (fun h => ?_) <;> try first | contradiction | (exfalso; omega))
        all_goals
          refine endQ.oneW Tryz.results44 ⟨rfl, rfl⟩ (fun w h => ?_)
          have h2 := staO_close (p := st) (L := stC p d Z mv (.pointer (some ⟨s, 0, none⟩)) pos num off :: slotC s d sr :: roS sr.text :: F) S rm vs hr (goes w h)
          dsimp only
          exact goes w h2
      · rw [if_neg hc] at hgo
        repeat' first | refine adv ?_ | refine Side.go ?_ | refine Giv.mk fun _ => ?_ | refine All.mk fun q => ?_ | refine Fork.mk ?_ ?_ | (refine Two.mk (fun h => ?_) (fun h => ?_) <;> try first | contradiction | (exfalso; omega))
        refine Sy_loop (ι := {y : Nat × Int × List (Int × Sl UInt8) // y.1 ≤ t.xs.length ∧ y.2.1 = (S.txs ((t.xs.take y.1).map TxR.v)).last ∧ vr y.2.2 = (S.txs ((t.xs.take y.1).map TxR.v)).vs})
          (fun y => [(76, .int .i64 y.1.1), (75, .int .i64 t.xs.length), (74, t.val), (2, l.val), (0, .pointer (some ⟨p, 0, none⟩)), (1, .pointer (some ⟨st, 0, none⟩)), (8, .int .i64 sr.count), (6, .bool false), (11, .int .i64 n)])
          (fun y => cells true st 0 [.int .i64 y.1.2.1, .map (some rm)] :: mapO rm (vmap Sl.val y.1.2.2) :: bigS roF y.1.2.2 :: roS t :: stC p d Z mv (.pointer (some ⟨s, 0, none⟩)) pos num off :: slotC s d sr :: roS sr.text :: roS l :: F) (fun y => t.xs.length - y.1.1)
          ⟨(0, S.last, vs), Nat.zero_le _, rfl, hr⟩ (evs rfl (evs rfl (evs rfl (evs rfl (evs rfl (evs rfl (evs rfl (evs rfl (evs rfl .nil))))))))) (fun w h => by dsimp only [stC, slotC]; exact goes w h) ?_
        rintro ⟨⟨i, la, vs⟩, hi, hla, hvs⟩ env
        dsimp only [upds, stC, slotC] at hi hla hvs ⊢
        refine Sy_know (fun B w h => ro_ok t B w h) (fun hts => ?_)
        have htsl := hts.len
        by_cases hi2 : i < t.xs.length
        · refine Sy_conv (pull_tx t hi2) ?_
          refine Sy_know (fun B w h => ro_ok t.xs[i].ps B w h) (fun hpp => ?_)
          have hppl := hpp.len
          repeat' first | refine adv ?_ | refine Side.go ?_ | refine Giv.mk fun _ => ?_ | refine All.mk fun q => ?_ | refine Fork.mk ?_ ?_ | (refine Two.mk (fun h => ?_) (fun h => ?_) <;> try first | contradiction | (exfalso; omega))
          obtain ⟨b14, hb14⟩ : ∃ b, b = q := ⟨q, rfl⟩
          subst hb14
          obtain ⟨x, hx⟩ : ∃ x, x = t.xs[i] := ⟨_, rfl⟩
          rw [← hx] at hpp hppl
          rw [← hx]
          refine Sy_loop (ι := {y : Nat × List (Int × Sl UInt8) // y.1 ≤ x.ps.xs.length ∧ vr y.2 = ((x.ps.xs.take y.1).map PutR.v).foldl (fun vs p => vset vs p.1 p.2) (S.txs ((t.xs.take i).map TxR.v)).vs})
            (fun y => [(83, .int .i64 y.1.1), (82, .int .i64 x.ps.xs.length), (81, x.ps.val), (14, .pointer (some ⟨b14, 0, none⟩)), (76, .int .i64 i), (75, .int .i64 t.xs.length), (74, t.val), (2, l.val), (0, .pointer (some ⟨p, 0, none⟩)), (1, .pointer (some ⟨st, 0, none⟩)), (8, .int .i64 sr.count), (6, .bool false), (11, .int .i64 n)])
            (fun y => cells true b14 0 [.int .i64 x.time, x.ps.val] :: cells true st 0 [.int .i64 la, .map (some rm)] :: mapO rm (vmap Sl.val y.1.2) :: bigS roF y.1.2 :: roS x.ps :: roS t :: stC p d Z mv (.pointer (some ⟨s, 0, none⟩)) pos num off :: slotC s d sr :: roS sr.text :: roS l :: F) (fun y => x.ps.xs.length - y.1.1)
            ⟨(0, vs), Nat.zero_le _, hvs⟩ (evs rfl (evs rfl (evs rfl (evs rfl (evs rfl (evs rfl (evs rfl (evs rfl (evs rfl (evs rfl (evs rfl (evs rfl (evs rfl .nil))))))))))))) (fun w h => by dsimp only [stC, slotC]; exact goes w h) ?_
          rintro ⟨⟨j, ws⟩, hj, hws⟩ env
          dsimp only [upds, stC, slotC] at hj hws ⊢
          refine Sy_know (fun B w h => map_nodup (r := rm) (es := vmap Sl.val ws) B w h) (fun hnd => ?_)
          rw [vmap_keys] at hnd
          by_cases hj2 : j < x.ps.xs.length
          · refine Sy_conv (pull_put x.ps hj2) ?_
            repeat' first | refine adv ?_ | refine Side.go ?_ | refine Giv.mk fun _ => ?_ | refine All.mk fun q => ?_ | refine Fork.mk ?_ ?_ | (refine Two.mk (fun h => ?_) (fun h => ?_) <;> try first | contradiction | (exfalso; omega))
            refine loopQ.next ⟨(j + 1, vset ws x.ps.xs[j].lba x.ps.xs[j].d), by dsimp only; omega, ?_⟩ (by simp only []; omega) (evs rfl (evs rfl (evs rfl (evs rfl (evs rfl (evs rfl (evs rfl (evs rfl (evs rfl (evs rfl (evs rfl (evs rfl (evs rfl .nil))))))))))))) (fun w h => ?_)
            · dsimp only
              rw [List.take_succ_eq_append_getElem hj2, List.map_append, List.foldl_append, ← hws, List.map_cons, List.map_nil, List.foldl_cons, List.foldl_nil]
              exact (vset_vr ws x.ps.xs[j].lba x.ps.xs[j].d).symm
            · dsimp only [stC, slotC]
              rw [← mset_vmap]
              have h5 : sat B (roS x.ps.xs[j].d :: bigS roF ws :: cells true b14 0 [.int .i64 x.time, x.ps.val] :: cells true st 0 [.int .i64 la, .map (some rm)] :: mapO rm (mset (vmap Sl.val ws) x.ps.xs[j].lba x.ps.xs[j].d.val) :: roS x.ps :: roS t :: stC p d Z mv (.pointer (some ⟨s, 0, none⟩)) pos num off :: slotC s d sr :: roS sr.text :: roS l :: F) w := by
                dsimp only [stC, slotC]
                exact goes w h
              exact goes w (put_ro ws x.ps.xs[j].lba _ hnd h5)
          · have hj3 : j = x.ps.xs.length := by omega
            subst hj3
            rw [List.take_length] at hws
            repeat' first | refine adv ?_ | refine Side.go ?_ | refine Giv.mk fun _ => ?_ | refine All.mk fun q => ?_ | refine Fork.mk ?_ ?_ | (refine Two.mk (fun h => ?_) (fun h => ?_) <;> try first | contradiction | (exfalso; omega))
            refine loopQ.next ⟨(i + 1, x.time, ws), by dsimp only; omega, ?_, ?_⟩ (by simp only []; omega) (evs rfl (evs rfl (evs rfl (evs rfl (evs rfl (evs rfl (evs rfl (evs rfl (evs rfl .nil))))))))) (fun w h => by dsimp only [stC, slotC]; exact goes w h)
            · dsimp only
              rw [List.take_succ_eq_append_getElem hi2, List.map_append, Sta.txs, List.foldl_append, hx]; rfl
            · dsimp only
              rw [hws, List.take_succ_eq_append_getElem hi2, List.map_append, Sta.txs, Sta.txs, List.foldl_append, hx]; rfl
        · have hi3 : i = t.xs.length := by omega
          subst hi3
          rw [List.take_length] at hla hvs
          repeat' first | refine adv ?_ | refine Side.go ?_ | refine Giv.mk fun _ => ?_ | refine All.mk fun q => ?_ | refine Fork.mk ?_ ?_ | (refine Two.mk (fun h => ?_) (fun h => ?_) <;> try first | contradiction | (exfalso; omega))
          refine loopQ.next ⟨(pos + n, num + 1, S.txs (t.xs.map TxR.v)), ⟨by dsimp only; omega, by dsimp only; omega⟩, f, by dsimp only; omega, hgo⟩ (by simp only []; omega) (evs rfl (evs rfl (evs rfl (evs rfl (evs rfl .nil))))) (fun w h => ?_)
          have h2 := staO_close (p := st) (L := stC p d Z mv (.pointer (some ⟨s, 0, none⟩)) (pos + n) (num + 1) off :: slotC s d sr :: roS sr.text :: roS l :: F) (S.txs (t.xs.map TxR.v)) rm vs hvs (by
            dsimp only [stC, slotC]
            rw [← hla, show ((pos + n : Nat) : Int) = (pos : Int) + n from by omega, show ((num + 1 : Nat) : Int) = (num : Int) + 1 from by omega]
            exact goes w h)
          dsimp only
          exact goes w h2
  · have e : A = ⟨pos, num, S, false⟩ := by
      rw [← hgo]
      cases f with
      | zero => rfl
      | succ f => rw [replayGo, if_pos (by rw [raws_len]; omega)]
    subst e
    repeat' first | refine adv ?_ | refine Side.go ?_ | refine Giv.mk fun _ => ?_ | refine All.mk fun q => ?_ | refine Fork.mk ?_ ?_ | (refine Two.mk (fun h => ?_) (fun h => ?_) <;> try first | contradiction | (exfalso; omega))
    exact endQ.oneW Tryz.results44 ⟨rfl, rfl⟩ (fun w h => goes w h)
end Go.SL
namespace Go.SL
open Go.Proofs
set_option synthInstance.maxSize 4000
set_option synthInstance.maxHeartbeats 400000
set_option maxRecDepth 4000
set_option maxHeartbeats 2000000

def putsOf (vs : List (Int × List UInt8)) : List PV := (sortI (vs.map (·.1))).map fun k => (k, (vget vs k).getD [])
theorem st_puts (b : Nat) (S : Sta) (hk : ∀ e ∈ S.vs, I64 e.1) (hl : S.vs.length ≤ 1000000) :
    Spec Tryz.prog 48 #[.pointer (some ⟨b, 0, none⟩)] [staO b S] (fun v L => ∃ t : Sl PutR, t.xs.map PutR.v = putsOf S.vs ∧ v = t.val ∧ L = [staO b S, ownS t]) := by
  refine enter1 Tryz.func48 rfl (by decide) (by decide) ?_
  intro B F
  dsimp only [lcA, lnA]
  refine Sy_all (fun w h => staO_open h) (fun r => ?_)
  obtain ⟨⟨rm, vs⟩, hr⟩ := r
  dsimp only at hr ⊢
  have hvl : vs.length = S.vs.length := by rw [← hr]; simp [vr]
  have hvk : (vmap Sl.val vs).map (·.1) = S.vs.map (·.1) := by rw [vmap_keys, ← hr]; simp [vr, List.map_map, Function.comp_def]
  have hve : ∀ e ∈ vs, I64 e.1 := by
    intro e he
    exact hk (e.1, e.2.xs) (by rw [← hr]; exact List.mem_map.2 ⟨e, he, rfl⟩)
  refine Sy_know (fun B w h => map_nodup (r := rm) (es := vmap Sl.val vs) B w h) (fun hn => ?_)
  rw [vmap_keys] at hn
  repeat' first | refine adv ?_ | refine Side.go ?_ | refine Giv.mk fun _ => ?_ | refine All.mk fun q => ?_ | refine Fork.mk ?_ ?_ | (refine Two.mk (fun h => ?_) (fun h => ?_) <;> try first | contradiction | (exfalso; omega))
  refine CallG.use (maps_keys_bytes rm) ?_
  rintro r M ⟨p, rfl, rfl⟩
  dsimp only [lcA, lnA]
  repeat' first | refine adv ?_ | refine Side.go ?_ | refine Giv.mk fun _ => ?_ | refine All.mk fun q => ?_ | refine Fork.mk ?_ ?_ | (refine Two.mk (fun h => ?_) (fun h => ?_) <;> try first | contradiction | (exfalso; omega))
  refine CallG.use (sorted_bytes p rm (vmap Sl.val vs) (by intro e he; obtain ⟨x, hx, rfl⟩ := List.mem_map.1 he; exact hve x hx) (by simp [vmap]; omega)) ?_
  rintro r M ⟨a, c, rfl, rfl⟩
  dsimp only [lcA, lnA]
  rw [hvk]
  have hsl : (vmap Sl.val vs).length = (sortI (S.vs.map (·.1))).length := by rw [sortI_len, List.length_map, ← hvl]; simp [vmap]
  rw [hsl]
  have hsub : ∀ k ∈ sortI (S.vs.map (·.1)), k ∈ vs.map (·.1) := by
    intro k hk2
    have := sortI_mem.1 hk2
    rwa [← hvk, vmap_keys] at this
  have hsn : (sortI (S.vs.map (·.1))).length ≤ 1000000 := by rw [sortI_len, List.length_map]; exact hl
  have hputs : putsOf S.vs = (sortI (S.vs.map (·.1))).map fun k => (k, (vget S.vs k).getD []) := rfl
  generalize sortI (S.vs.map (·.1)) = ks at hsub hsn hputs ⊢
  repeat' first | refine adv ?_ | refine Side.go ?_ | refine Giv.mk fun _ => ?_ | refine All.mk fun q => ?_ | refine Fork.mk ?_ ?_ | (refine Two.mk (fun h => ?_) (fun h => ?_) <;> try first | contradiction | (exfalso; omega))
  refine Sy_loop (ι := {st : Nat × Sl PutR // (st.1 ≤ ks.length ∧ st.2.xs.length = st.1) ∧ st.2.xs.map PutR.v = (ks.take st.1).map fun k => (k, (vget S.vs k).getD [])})
    (fun st => [(12, .int .i64 st.1.1), (11, .int .i64 ks.length), (10, .slice a ks.length c), (2, st.1.2.val), (0, .pointer (some ⟨b, 0, none⟩))])
    (fun st => ownS st.1.2 :: mapO rm (vmap Sl.val vs) :: ownS (⟨a, c, ks⟩ : Sl Int) :: cells true b 0 [.int .i64 S.last, .map (some rm)] :: bigS roF vs :: F)
    (fun st => ks.length - st.1.1) ⟨(0, ⟨none, 0, []⟩), ⟨Nat.zero_le _, rfl⟩, rfl⟩ (evs rfl (evs rfl (evs rfl (evs rfl (evs rfl .nil))))) (fun w h => goes w (sat_true (own_nil (α := PutR)) h)) ?_
  rintro ⟨⟨j, t⟩, ⟨hj, htl⟩, ht⟩ env
  dsimp only [upds] at hj htl ht ⊢
  by_cases hj2 : j < ks.length
  · obtain ⟨x, hx, hxm⟩ := vget_mem (hsub ks[j] (List.getElem_mem hj2))
    haveI := mg_vmap (f := Sl.val) hx
    have hgE : vget S.vs ks[j] = some x.xs := by rw [← hr]; exact (vget_vr vs ks[j]).trans (by rw [hx]; rfl)
    refine Sy_conv (pull_roF hn hx) ?_
    repeat' first | refine adv ?_ | refine Side.go ?_ | refine Giv.mk fun _ => ?_ | refine All.mk fun q => ?_ | refine Fork.mk ?_ ?_ | (refine Two.mk (fun h => ?_) (fun h => ?_) <;> try first | contradiction | (exfalso; omega))
    refine AppG.oneP t ⟨ks[j], x⟩ (by omega) (fun a3 c3 => ?_)
    repeat' first | refine adv ?_ | refine Side.go ?_ | refine Giv.mk fun _ => ?_ | refine All.mk fun q => ?_ | refine Fork.mk ?_ ?_ | (refine Two.mk (fun h => ?_) (fun h => ?_) <;> try first | contradiction | (exfalso; omega))
    refine loopQ.next ⟨(j + 1, ⟨a3, c3, t.xs ++ [⟨ks[j], x⟩]⟩), ⟨by dsimp only; omega, by simp; omega⟩, ?_⟩ (by simp only []; omega) (evs rfl (evs rfl (evs rfl (evs rfl (evs rfl .nil))))) (fun w h => goes w h)
    dsimp only
    rw [List.map_append, ht, List.take_succ_eq_append_getElem hj2, List.map_append, List.map_cons, List.map_nil, List.map_cons, List.map_nil, hgE]
    rfl
  · have hj3 : j = ks.length := by omega
    subst hj3
    rw [List.take_length] at ht
    repeat' first | refine adv ?_ | refine Side.go ?_ | refine Giv.mk fun _ => ?_ | refine All.mk fun q => ?_ | refine Fork.mk ?_ ?_ | (refine Two.mk (fun h => ?_) (fun h => ?_) <;> try first | contradiction | (exfalso; omega))
    refine endQ.oneW Tryz.results48 ⟨t, by rw [ht, hputs], rfl, rfl⟩ (fun w h => staO_close S rm vs hr ?_)
    exact goes w h

/-- Blocks that are laid one behind the other. -/
def appGo (hi pos : Nat) : Dv → Nat → List (List UInt8) → Int × Dv
  | D, _, [] => (0, D)
  | D, i, p :: l => if (D.append ((hi : Int) + ((pos : Int) + i) / (D.S : Int)) p).2.1 ≠ 0 then (12, (D.append ((hi : Int) + ((pos : Int) + i) / (D.S : Int)) p).2.2) else appGo hi pos (D.append ((hi : Int) + ((pos : Int) + i) / (D.S : Int)) p).2.2 (i + 1) l
structure Wo where
  e : Int
  pos : Nat
  num : Nat
  D : Dv
def writeOf (D : Dv) (count pos num : Nat) (l : List TV) : Wo :=
  if ¬ (checkB ((num : Int) + 1) l = true ∧ (0 : Int) ≤ count ∧ (count : Int) ≤ 4294967295) ∨ (D.Z - 2 * midOf D.Z) * D.S < pos + (encBatch count (num + 1) l).length then ⟨9, pos, num, D⟩
  else if (appGo (2 * midOf D.Z) pos D 0 (encBatch count (num + 1) l)).1 ≠ 0 then ⟨12, pos, num, (appGo (2 * midOf D.Z) pos D 0 (encBatch count (num + 1) l)).2⟩
  else if (appGo (2 * midOf D.Z) pos D 0 (encBatch count (num + 1) l)).2.flush.1 ≠ 0 then ⟨12, pos, num, (appGo (2 * midOf D.Z) pos D 0 (encBatch count (num + 1) l)).2.flush.2⟩
  else ⟨0, pos + (encBatch count (num + 1) l).length, num + 1, (appGo (2 * midOf D.Z) pos D 0 (encBatch count (num + 1) l)).2.flush.2⟩

theorem encPuts_len (ep num : Nat) : ∀ l : List TV, (encPuts ep num l).length = (l.map (·.2.length)).sum
  | [] => rfl
  | t :: l => by rw [encPuts_cons, List.length_append, List.length_map, encPuts_len ep num l, List.map_cons, List.sum_cons]
theorem encBatch_len (ep num : Nat) (l : List TV) : (encBatch ep num l).length = blocksN l := by rw [encBatch, List.length_append, encPuts_len, blocksN]; simp; omega

theorem append_ZS (D : Dv) (i : Int) (p : List UInt8) : (D.append i p).2.2.Z = D.Z ∧ (D.append i p).2.2.S = D.S := by
  unfold Dv.append
  split
  · split
    · exact ⟨rfl, rfl⟩
    · split
      · exact (Dv.begin_zs D).2
      · split
        · exact (Dv.begin_zs D).2
        · exact (Dv.begin_zs D).2
  · exact ⟨rfl, rfl⟩

theorem st_writeB (p d s : Nat) (D : Dv) (ok : D.ok) (mv : Value) (sr : SR) (pos num : Nat) (off : Bool) (bn : Int) (l : Sl TxR) (hpos : pos ≤ 1000000) (hnum : num ≤ 1000000000) :
    Spec Tryz.prog 55 #[.pointer (some ⟨p, 0, none⟩), .agg #[.int .i64 bn, l.val]] [stC p d D.Z mv (.pointer (some ⟨s, 0, none⟩)) pos num off, slotC s d sr, roS sr.text, devO d D, roS l]
      (fun v L => v = .int .i64 (writeOf D sr.count pos num (l.xs.map TxR.v)).e ∧ L = [stC p d D.Z mv (.pointer (some ⟨s, 0, none⟩)) (writeOf D sr.count pos num (l.xs.map TxR.v)).pos (writeOf D sr.count pos num (l.xs.map TxR.v)).num off, slotC s d sr, roS sr.text, devO d (writeOf D sr.count pos num (l.xs.map TxR.v)).D]) := by
  have z0 := ok.z0
  have z1 := ok.z1
  have s0 := ok.s0
  have s1 := ok.s1
  have hmid : 2 * midOf D.Z < D.Z := by unfold midOf; omega
  refine enter2 Tryz.func55 rfl (by decide) (by decide) ?_
  intro B F
  dsimp only [lcA, lnA]
  dsimp only [stC, slotC]
  repeat' first | refine adv ?_ | refine Side.go ?_ | refine Giv.mk fun _ => ?_ | refine All.mk fun q => ?_ | refine Fork.mk ?_ ?_ | (refine Two.mk (fun h => ?_) (fun h => ?_) <;> try first | contradiction | (exfalso; omega))
  obtain ⟨b3, hb3⟩ : ∃ b, b = q := ⟨q, rfl⟩
  subst hb3
  refine CallG.use (slot_load s d sr) ?_
  rintro r M ⟨a0, c0, rfl, rfl⟩
  dsimp only [lcA, lnA]
  dsimp only [slotC]
  repeat' first | refine adv ?_ | refine Side.go ?_ | refine Giv.mk fun _ => ?_ | refine All.mk fun q => ?_ | refine Fork.mk ?_ ?_ | (refine Two.mk (fun h => ?_) (fun h => ?_) <;> try first | contradiction | (exfalso; omega))
  refine CallG.use (batch_encode ((num : Int) + 1) sr.count l) ?_
  rintro v M (⟨hn, rfl, rfl⟩ | ⟨hc, o, ho, rfl, rfl⟩)
  · have e : writeOf D sr.count pos num (l.xs.map TxR.v) = ⟨9, pos, num, D⟩ := by rw [writeOf, if_pos (.inl hn)]
    rw [e]
    dsimp only [lcA, lnA]
    repeat' first | refine adv ?_ | refine Side.go ?_ | refine Giv.mk fun _ => ?_ | refine All.mk fun q => ?_ | refine Fork.mk ?_ ?_ | (refine Two.mk (fun h => ?_) (fun h => ?_) <;> try first | contradiction | (exfalso; omega))
    refine CallG.use (dev_geometry d D ok) ?_
    rintro r M ⟨rfl, rfl⟩
    dsimp only [lcA, lnA]
    repeat' first | refine adv ?_ | refine Side.go ?_ | refine Giv.mk fun _ => ?_ | refine All.mk fun q => ?_ | refine Fork.mk ?_ ?_ | (refine Two.mk (fun h => ?_) (fun h => ?_) <;> try first | contradiction | (exfalso; omega))
    all_goals first | exact endQ.oneW Tryz.results55 ⟨rfl, rfl⟩ (fun w h => goes w h) | (exfalso; omega)
  · dsimp only [lcA, lnA]
    simp only [Int.toNat_natCast, show ((num : Int) + 1).toNat = num + 1 from by omega] at ho
    have hol : o.xs.length = blocksN (l.xs.map TxR.v) := by rw [← encBatch_len sr.count (num + 1), ← ho, raws_len]
    have hob := (checkB_good hc.1).blocks
    have hprod : (D.Z - 2 * midOf D.Z) * D.S ≤ 64 * 192 := Nat.mul_le_mul (by omega) (by omega)
    have hpe : ((D.Z : Int) - 1 - ((2 * midOf D.Z : Nat) : Int) + 1) * (D.S : Int) = (((D.Z - 2 * midOf D.Z) * D.S : Nat) : Int) := by
      have h0 : (D.Z : Int) - 1 - ((2 * midOf D.Z : Nat) : Int) + 1 = ((D.Z - 2 * midOf D.Z : Nat) : Int) := by omega
      rw [h0, ← Int.natCast_mul]
    repeat' first | refine adv ?_ | refine Side.go ?_ | refine Giv.mk fun _ => ?_ | refine All.mk fun q => ?_ | refine Fork.mk ?_ ?_ | (refine Two.mk (fun h => ?_) (fun h => ?_) <;> try first | contradiction | (exfalso; omega))
    refine CallG.use (dev_geometry d D ok) ?_
    rintro r M ⟨rfl, rfl⟩
    dsimp only [lcA, lnA]
    repeat' first | refine adv ?_ | refine Side.go ?_ | refine Giv.mk fun _ => ?_ | refine All.mk fun q => ?_ | refine Fork.mk ?_ ?_ | (refine Two.mk (fun h => ?_) (fun h => ?_) <;> try first | contradiction | (exfalso; omega))
    · have e : writeOf D sr.count pos num (l.xs.map TxR.v) = ⟨9, pos, num, D⟩ := by rw [writeOf, if_pos (.inr (by rw [encBatch_len]; omega))]
      rw [e]
      exact endQ.oneW Tryz.results55 ⟨rfl, rfl⟩ (fun w h => goes w h)
    have hw0 : ¬ (¬ (checkB ((num : Int) + 1) (l.xs.map TxR.v) = true ∧ (0 : Int) ≤ sr.count ∧ (sr.count : Int) ≤ 4294967295) ∨ (D.Z - 2 * midOf D.Z) * D.S < pos + (encBatch sr.count (num + 1) (l.xs.map TxR.v)).length) := by
      rw [encBatch_len]; exact fun x => x.elim (fun x => x hc) (fun x => by omega)
    have hel : (encBatch sr.count (num + 1) (l.xs.map TxR.v)).length = o.xs.length := by rw [← ho, raws_len]
    rw [writeOf, if_neg hw0]
    rw [← ho] at hel ⊢
    generalize hA : appGo (2 * midOf D.Z) pos D 0 (raws o.xs) = A
    refine Sy_loop (ι := {x : Nat × Dv // (x.1 ≤ o.xs.length ∧ x.2.ok ∧ x.2.Z = D.Z ∧ x.2.S = D.S) ∧ appGo (2 * midOf D.Z) pos x.2 x.1 ((raws o.xs).drop x.1) = A})
      (fun x => [(68, .int .i64 x.1.1), (67, .int .i64 o.xs.length), (66, o.val), (7, o.val), (9, .int .i64 D.S), (0, .pointer (some ⟨p, 0, none⟩))])
      (fun x => roS o :: stC p d D.Z mv (.pointer (some ⟨s, 0, none⟩)) pos num off :: slotC s d sr :: roS sr.text :: devO d x.1.2 :: F) (fun x => o.xs.length - x.1.1)
      ⟨(0, D), ⟨Nat.zero_le _, ok, rfl, rfl⟩, hA⟩ (evs rfl (evs rfl (evs rfl (evs rfl (evs rfl (evs rfl .nil)))))) (fun w h => by dsimp only [stC, slotC]; exact goes w h) ?_
    rintro ⟨⟨k, E⟩, ⟨hk, okE, hEZ, hES⟩, hgo⟩ env
    dsimp only [upds, stC, slotC] at hk okE hEZ hES hgo ⊢
    by_cases hk2 : k < o.xs.length
    · have hdv0 : (0 : Int) ≤ ((pos : Int) + k) / (D.S : Int) := Int.ediv_nonneg (by omega) (by omega)
      have hdv1 : ((pos : Int) + k) / (D.S : Int) ≤ (pos : Int) + k := Int.ediv_le_self _ (by omega)
      have hdrop : (raws o.xs).drop k = o.xs[k].xs :: (raws o.xs).drop (k + 1) := by
        rw [List.drop_eq_getElem_cons (by rw [raws_len]; exact hk2)]; simp [raws]
      rw [hdrop, appGo, hES] at hgo
      refine Sy_conv (pull_sl o hk2) ?_
      repeat' first | refine adv ?_ | refine Side.go ?_ | refine Giv.mk fun _ => ?_ | refine All.mk fun q => ?_ | refine Fork.mk ?_ ?_ | (refine Two.mk (fun h => ?_) (fun h => ?_) <;> try first | contradiction | (exfalso; omega))
      refine CallG.use (dev_append d E okE (((2 * midOf D.Z : Nat) : Int) + ((pos : Int) + k) / (D.S : Int)) o.xs[k]) ?_
      rintro r M ⟨rfl, rfl⟩
      dsimp only [lcA, lnA]
      by_cases hap : (E.append (((2 * midOf D.Z : Nat) : Int) + ((pos : Int) + k) / (D.S : Int)) o.xs[k].xs).2.1 ≠ 0
      · rw [if_pos hap] at hgo
        subst hgo
        repeat' first | refine adv ?_ | refine Side.go ?_ | refine Giv.mk fun _ => ?_ | refine All.mk fun q => ?_ | refine Fork.mk ?_ ?_ | (refine Two.mk (fun h => ?_) (fun h => ?_) <;> try first | contradiction | (exfalso; omega))
        rw [if_pos (show (12 : Int) ≠ 0 by decide)]
        exact endQ.oneW Tryz.results55 ⟨rfl, rfl⟩ (fun w h => goes w h)
      · rw [if_neg hap] at hgo
        repeat' first | refine adv ?_ | refine Side.go ?_ | refine Giv.mk fun _ => ?_ | refine All.mk fun q => ?_ | refine Fork.mk ?_ ?_ | (refine Two.mk (fun h => ?_) (fun h => ?_) <;> try first | contradiction | (exfalso; omega))
        refine loopQ.next ⟨(k + 1, (E.append (((2 * midOf D.Z : Nat) : Int) + ((pos : Int) + k) / (D.S : Int)) o.xs[k].xs).2.2), ⟨by dsimp only; omega, Dv.append_ok okE _ _, (append_ZS _ _ _).1.trans hEZ, (append_ZS _ _ _).2.trans hES⟩, hgo⟩ (by simp only []; omega) (evs rfl (evs rfl (evs rfl (evs rfl (evs rfl (evs rfl .nil)))))) (fun w h => by dsimp only [stC, slotC]; exact goes w h)
    · have hk3 : k = o.xs.length := by omega
      subst hk3
      rw [List.drop_of_length_le (by rw [raws_len]; exact Nat.le_refl _), appGo] at hgo
      subst hgo
      repeat' first | refine adv ?_ | refine Side.go ?_ | refine Giv.mk fun _ => ?_ | refine All.mk fun q => ?_ | refine Fork.mk ?_ ?_ | (refine Two.mk (fun h => ?_) (fun h => ?_) <;> try first | contradiction | (exfalso; omega))
      refine CallG.use (dev_flush d E okE) ?_
      rintro r M ⟨rfl, rfl⟩
      dsimp only [lcA, lnA]
      rw [if_neg (by simp)]
      repeat' first | refine adv ?_ | refine Side.go ?_ | refine Giv.mk fun _ => ?_ | refine All.mk fun q => ?_ | refine Fork.mk ?_ ?_ | (refine Two.mk (fun h => ?_) (fun h => ?_) <;> try first | contradiction | (exfalso; omega))
      · rw [if_pos (by assumption)]
        exact endQ.oneW Tryz.results55 ⟨rfl, rfl⟩ (fun w h => goes w h)
      · rw [if_neg (by assumption)]
        refine endQ.oneW Tryz.results55 ⟨rfl, rfl⟩ (fun w h => ?_)
        dsimp only
        rw [hel, show ((pos + o.xs.length : Nat) : Int) = (pos : Int) + o.xs.length from by omega, show ((num + 1 : Nat) : Int) = (num : Int) + 1 from by omega]
        exact goes w h
end Go.SL
namespace Go.SL
open Go.Proofs
set_option synthInstance.maxSize 4000
set_option synthInstance.maxHeartbeats 400000
set_option maxRecDepth 4000
set_option maxHeartbeats 2000000

def encE (x : PV) : List UInt8 := leB x.1.toNat 4 ++ x.2
def textOf (last : Int) (l : List PV) : List UInt8 := leB last.toNat 8 ++ l.flatMap encE

theorem st_text (p d Z m : Nat) (M : Mg) (sv : Value) (pos num : Nat) (off : Bool) (hk : ∀ e ∈ M.E.vs, I64 e.1 ∧ 0 < e.2.length ∧ e.2.length ≤ 2000000) (hl : M.E.vs.length ≤ 1000000)
    (hla : 0 ≤ M.last ∧ M.last ≤ 1099511627776) (hd : ∀ x ∈ M.E.dump, (0 ≤ x.1 ∧ x.1 ≤ 1048576) ∧ x.2.length = 40) (hdl : M.E.dump.length ≤ 1000000) :
    Spec Tryz.prog 58 #[.pointer (some ⟨p, 0, none⟩)] [stC p d Z (.pointer (some ⟨m, 0, none⟩)) sv pos num off, mgO m M]
    (fun v L => ∃ t : Sl UInt8, t.xs = textOf M.last M.E.dump ∧ v = t.val ∧ L = [stC p d Z (.pointer (some ⟨m, 0, none⟩)) sv pos num off, mgO m M, ownS t]) := by
  refine enter1 Tryz.func58 rfl (by decide) (by decide) ?_
  intro B F
  dsimp only [lcA, lnA]
  dsimp only [stC]
  repeat' first | refine adv ?_ | refine Side.go ?_ | refine Giv.mk fun _ => ?_ | refine All.mk fun q => ?_ | refine Fork.mk ?_ ?_ | (refine Two.mk (fun h => ?_) (fun h => ?_) <;> try first | contradiction | (exfalso; omega))
  refine CallG.use (tx_last m M) ?_
  rintro r M ⟨rfl, rfl⟩
  dsimp only [lcA, lnA]
  repeat' first | refine adv ?_ | refine Side.go ?_ | refine Giv.mk fun _ => ?_ | refine All.mk fun q => ?_ | refine Fork.mk ?_ ?_ | (refine Two.mk (fun h => ?_) (fun h => ?_) <;> try first | contradiction | (exfalso; omega))
  rw [show M.last = ((M.last.toNat : Nat) : Int) from by omega]
  refine CallG.use (put64_spec M.last.toNat) ?_
  rintro r M ⟨a, c, rfl, rfl⟩
  dsimp only [lcA, lnA]
  repeat' first | refine adv ?_ | refine Side.go ?_ | refine Giv.mk fun _ => ?_ | refine All.mk fun q => ?_ | refine Fork.mk ?_ ?_ | (refine Two.mk (fun h => ?_) (fun h => ?_) <;> try first | contradiction | (exfalso; omega))
  refine CallG.use (tx_dump m M hk hl) ?_
  rintro r M ⟨u, hu, rfl, rfl⟩
  dsimp only [lcA, lnA]
  have hul : u.xs.length = M.E.dump.length := by rw [← hu, List.length_map]
  have hue : ∀ k (hk : k < u.xs.length), (0 ≤ u.xs[k].lba ∧ u.xs[k].lba ≤ 1048576) ∧ u.xs[k].d.xs.length = 40 := fun k hk => hd u.xs[k].v (by rw [← hu]; exact List.mem_map.2 ⟨_, List.getElem_mem hk, rfl⟩)
  repeat' first | refine adv ?_ | refine Side.go ?_ | refine Giv.mk fun _ => ?_ | refine All.mk fun q => ?_ | refine Fork.mk ?_ ?_ | (refine Two.mk (fun h => ?_) (fun h => ?_) <;> try first | contradiction | (exfalso; omega))
  refine Sy_loop (ι := {st : Nat × Sl UInt8 // (st.1 ≤ u.xs.length ∧ st.2.xs.length = 8 + 44 * st.1) ∧ st.2.xs = leB M.last.toNat 8 ++ ((u.xs.take st.1).map PutR.v).flatMap encE})
    (fun st => [(19, .int .i64 st.1.1), (18, .int .i64 u.xs.length), (17, u.val), (3, st.1.2.val)])
    (fun st => ownS st.1.2 :: roS u :: stC p d Z (.pointer (some ⟨m, 0, none⟩)) sv pos num off :: mgO m M :: F) (fun st => u.xs.length - st.1.1)
    ⟨(0, ⟨a, c, leB M.last.toNat 8⟩), ⟨Nat.zero_le _, by simp [leB_length]⟩, by simp⟩ (evs rfl (evs rfl (evs rfl (evs rfl .nil)))) (fun w h => by dsimp only [stC]; exact goes w h) ?_
  rintro ⟨⟨k, t⟩, ⟨hk1, htl⟩, ht⟩ env
  dsimp only [upds, stC] at hk1 htl ht ⊢
  by_cases hk2 : k < u.xs.length
  · have hx := hue k hk2
    refine Sy_conv (pull_put u hk2) ?_
    repeat' first | refine adv ?_ | refine Side.go ?_ | refine Giv.mk fun _ => ?_ | refine All.mk fun q => ?_ | refine Fork.mk ?_ ?_ | (refine Two.mk (fun h => ?_) (fun h => ?_) <;> try first | contradiction | (exfalso; omega))
    rw [show u.xs[k].lba = ((u.xs[k].lba.toNat : Nat) : Int) from by omega]
    refine CallG.use (put32_spec u.xs[k].lba.toNat (by omega)) ?_
    rintro r M ⟨a1, c1, rfl, rfl⟩
    dsimp only [lcA, lnA]
    repeat' first | refine adv ?_ | refine Side.go ?_ | refine Giv.mk fun _ => ?_ | refine All.mk fun q => ?_ | refine Fork.mk ?_ ?_ | (refine Two.mk (fun h => ?_) (fun h => ?_) <;> try first | contradiction | (exfalso; omega))
    refine AppG.many t (⟨a1, c1, leB u.xs[k].lba.toNat 4⟩ : Sl UInt8) ?_ (fun a2 c2 => ?_)
    · simp only [leB_length]; omega
    repeat' first | refine adv ?_ | refine Side.go ?_ | refine Giv.mk fun _ => ?_ | refine All.mk fun q => ?_ | refine Fork.mk ?_ ?_ | (refine Two.mk (fun h => ?_) (fun h => ?_) <;> try first | contradiction | (exfalso; omega))
    refine AppG.many (⟨a2, c2, t.xs ++ leB u.xs[k].lba.toNat 4⟩ : Sl UInt8) u.xs[k].d ?_ (fun a3 c3 => ?_)
    · simp only [List.length_append, leB_length]; omega
    repeat' first | refine adv ?_ | refine Side.go ?_ | refine Giv.mk fun _ => ?_ | refine All.mk fun q => ?_ | refine Fork.mk ?_ ?_ | (refine Two.mk (fun h => ?_) (fun h => ?_) <;> try first | contradiction | (exfalso; omega))
    refine loopQ.next ⟨(k + 1, ⟨a3, c3, t.xs ++ leB u.xs[k].lba.toNat 4 ++ u.xs[k].d.xs⟩), ⟨by dsimp only; omega, by simp [leB_length]; omega⟩, ?_⟩ (by simp only []; omega) (evs rfl (evs rfl (evs rfl (evs rfl .nil)))) (fun w h => by dsimp only [stC]; exact goes w h)
    dsimp only
    rw [List.take_succ_eq_append_getElem hk2, List.map_append, List.flatMap_append, ← List.append_assoc, ← ht, List.map_cons, List.map_nil, List.flatMap_singleton, List.append_assoc]; rfl
  · have hk3 : k = u.xs.length := by omega
    subst hk3
    rw [List.take_length, hu] at ht
    repeat' first | refine adv ?_ | refine Side.go ?_ | refine Giv.mk fun _ => ?_ | refine All.mk fun q => ?_ | refine Fork.mk ?_ ?_ | (refine Two.mk (fun h => ?_) (fun h => ?_) <;> try first | contradiction | (exfalso; omega))
    exact endQ.oneW Tryz.results58 ⟨t, ht, rfl, rfl⟩ (fun w h => goes w h)

/-- What a checkpoint leaves. -/
structure Ck where
  e : Int
  s : SR
  D : Dv
  off : Bool
def chkOf (D : Dv) (s : SR) (text new : Sl UInt8) : Ck :=
  if (saveOf s D text new).1 ≠ 0 then ⟨12, (saveOf s D text new).2.1, (saveOf s D text new).2.2, true⟩
  else if (wipe (saveOf s D text new).2.2 (D.Z - 2 * midOf D.Z) (2 * midOf D.Z)).1 ≠ 0 then ⟨12, (saveOf s D text new).2.1, (wipe (saveOf s D text new).2.2 (D.Z - 2 * midOf D.Z) (2 * midOf D.Z)).2, true⟩
  else ⟨0, (saveOf s D text new).2.1, (wipe (saveOf s D text new).2.2 (D.Z - 2 * midOf D.Z) (2 * midOf D.Z)).2, false⟩
theorem wipe_geo : ∀ (n : Nat) (D : Dv) (z : Nat), (wipe D n z).2.Z = D.Z ∧ (wipe D n z).2.S = D.S
  | 0, D, z => ⟨rfl, rfl⟩
  | n + 1, D, z => by
    rw [wipe]
    split
    · split
      · exact Dv.reset_geo D z
      · have h1 := wipe_geo n (D.reset z).2 (z + 1)
        have h2 := Dv.reset_geo D z
        exact ⟨h1.1.trans h2.1, h1.2.trans h2.2⟩
    · exact wipe_geo n D (z + 1)
theorem layGo_geo (a size : Nat) : ∀ (fs : List Fr) (k : Nat) (D : Dv), (layGo a size k fs D).2.Z = D.Z ∧ (layGo a size k fs D).2.S = D.S
  | [], _, _ => ⟨rfl, rfl⟩
  | f :: fs, k, D => by
    rw [layGo]
    have h2 := Dv.append_geo D ((a + k / size : Nat) : Int) (encB f.1 f.2.1 f.2.2.1 f.2.2.2.1 f.2.2.2.2)
    split
    · exact h2
    · have h1 := layGo_geo a size fs (k + 1) (D.append ((a + k / size : Nat) : Int) (encB f.1 f.2.1 f.2.2.1 f.2.2.2.1 f.2.2.2.2)).2.2
      exact ⟨h1.1.trans h2.1, h1.2.trans h2.2⟩
theorem slotWrite_geo (D : Dv) (a b n : Nat) (text : List UInt8) : (slotWrite D a b n text).2.Z = D.Z ∧ (slotWrite D a b n text).2.S = D.S := by
  unfold slotWrite
  have h1 := wipe_geo (b - a) D a
  split
  · exact h1
  · have h2 := layGo_geo a D.S (framesOf n text) 0 (wipe D (b - a) a).2
    split
    · exact ⟨h2.1.trans h1.1, h2.2.trans h1.2⟩
    · have h3 := Dv.flush_geo (layGo a D.S 0 (framesOf n text) (wipe D (b - a) a).2).2
      exact ⟨h3.1.trans (h2.1.trans h1.1), h3.2.trans (h2.2.trans h1.2)⟩
theorem saveOf_geo (s : SR) (D : Dv) (t new : Sl UInt8) : (saveOf s D t new).2.2.Z = D.Z ∧ (saveOf s D t new).2.2.S = D.S := by
  unfold saveOf
  split
  · exact ⟨rfl, rfl⟩
  · split
    · exact ⟨rfl, rfl⟩
    · split <;> exact slotWrite_geo D _ _ _ _
theorem wipe_ok : ∀ (n : Nat) (D : Dv) (z : Nat), D.ok → (wipe D n z).2.ok
  | 0, D, z, ok => ok
  | n + 1, D, z, ok => by
    rw [wipe]
    split
    · split
      · exact Dv.reset_ok ok z
      · exact wipe_ok n (D.reset z).2 (z + 1) (Dv.reset_ok ok z)
    · exact wipe_ok n D (z + 1) ok
theorem layGo_ok (a size : Nat) : ∀ (fs : List Fr) (k : Nat) (D : Dv), D.ok → (layGo a size k fs D).2.ok
  | [], _, _, ok => ok
  | f :: fs, k, D, ok => by
    rw [layGo]
    split
    · exact Dv.append_ok ok _ _
    · exact layGo_ok a size fs (k + 1) _ (Dv.append_ok ok _ _)
theorem slotWrite_ok (D : Dv) (a b n : Nat) (text : List UInt8) (ok : D.ok) : (slotWrite D a b n text).2.ok := by
  unfold slotWrite
  split
  · exact wipe_ok _ D a ok
  · split
    · exact layGo_ok _ _ _ _ _ (wipe_ok _ D a ok)
    · exact Dv.flush_ok (layGo_ok _ _ _ _ _ (wipe_ok _ D a ok))
theorem saveOf_ok (s : SR) (D : Dv) (t new : Sl UInt8) (ok : D.ok) : (saveOf s D t new).2.2.ok := by
  unfold saveOf
  split
  · exact ok
  · split
    · exact ok
    · split <;> exact slotWrite_ok D _ _ _ _ ok
def chkW (R : Int × SR × Dv) (n z : Nat) : Int × Dv := if R.1 ≠ 0 then (R.1, R.2.2) else wipe R.2.2 n z
theorem chk_eq (D : Dv) (s : SR) (t new : Sl UInt8) : chkOf D s t new = if (chkW (saveOf s D t new) (D.Z - 2 * midOf D.Z) (2 * midOf D.Z)).1 ≠ 0
    then ⟨12, (saveOf s D t new).2.1, (chkW (saveOf s D t new) (D.Z - 2 * midOf D.Z) (2 * midOf D.Z)).2, true⟩ else ⟨0, (saveOf s D t new).2.1, (chkW (saveOf s D t new) (D.Z - 2 * midOf D.Z) (2 * midOf D.Z)).2, false⟩ := by
  unfold chkOf chkW
  by_cases h : (saveOf s D t new).1 ≠ 0
  · simp only [if_pos h]
  · simp only [if_neg h]
theorem textOf_len {last : Int} {l : List PV} (h : ∀ x ∈ l, x.2.length = 40) : (textOf last l).length = 8 + 44 * l.length := by
  unfold textOf
  rw [List.length_append, leB_length]
  congr 1
  induction l with
  | nil => rfl
  | cons x l ih =>
    rw [List.flatMap_cons, List.length_append, ih (fun y hy => h y (List.mem_cons_of_mem _ hy)), encE, List.length_append, leB_length, h x (List.mem_cons_self ..), List.length_cons]
    omega
theorem wipe_pos {D : Dv} {n z : Nat} (hz : z < D.Z) : wipe D (n + 1) z = if 0 < (zoneOf D z).length then (if (D.reset z).1 ≠ 0 then D.reset z else wipe (D.reset z).2 n (z + 1)) else wipe D n (z + 1) := by
  rw [wipe]
  have : D.pointer z = (((zoneOf D z).length : Int), 0) := by unfold Dv.pointer zoneOf; rw [if_pos (by omega)]; rfl
  rw [this]
  dsimp only
  by_cases h : 0 < (zoneOf D z).length
  · rw [if_pos h, if_pos (by omega)]
  · rw [if_neg h, if_neg (by omega)]
theorem pointer_at {D : Dv} {z : Nat} (hz : z < D.Z) : D.pointer z = (((zoneOf D z).length : Int), 0) := by
  unfold Dv.pointer zoneOf; rw [if_pos (by omega)]; rfl
theorem st_checkpoint (p d m s : Nat) (D : Dv) (ok : D.ok) (M : Mg) (sr : SR) (pos num : Nat) (hs : sr.low = 0 ∧ sr.mid = midOf D.Z ∧ sr.high = 2 * midOf D.Z ∧ sr.size = D.S) (hin : sr.inn < 2) (hn : sr.count < 1099511627776) (hk : ∀ e ∈ M.E.vs, I64 e.1 ∧ 0 < e.2.length ∧ e.2.length ≤ 2000000) (hl : M.E.vs.length ≤ 1000000)
    (hla : 0 ≤ M.last ∧ M.last ≤ 1099511627776) (hd : ∀ x ∈ M.E.dump, (0 ≤ x.1 ∧ x.1 ≤ 1048576) ∧ x.2.length = 40) (hdl : M.E.dump.length ≤ 20000) :
    Spec Tryz.prog 22 #[.pointer (some ⟨p, 0, none⟩)] [stC p d D.Z (.pointer (some ⟨m, 0, none⟩)) (.pointer (some ⟨s, 0, none⟩)) pos num false, slotC s d sr, roS sr.text, devO d D, mgO m M]
    (fun v L => ∃ t new : Sl UInt8, t.xs = textOf M.last M.E.dump ∧ new.xs = t.xs ∧ v = .int .i64 (chkOf D sr t new).e ∧
      L = [stC p d D.Z (.pointer (some ⟨m, 0, none⟩)) (.pointer (some ⟨s, 0, none⟩)) (if (chkOf D sr t new).e = 0 then 0 else pos) (if (chkOf D sr t new).e = 0 then 0 else num) (chkOf D sr t new).off,
        slotC s d (chkOf D sr t new).s, roS (chkOf D sr t new).s.text, devO d (chkOf D sr t new).D, mgO m M]) := by
  have z0 := ok.z0
  have z1 := ok.z1
  have s0 := ok.s0
  have s1 := ok.s1
  have hmid : 2 * midOf D.Z < D.Z ∧ 3 ≤ midOf D.Z := by unfold midOf; omega
  refine enter1 Tryz.func22 rfl (by decide) (by decide) ?_
  intro B F
  dsimp only [lcA, lnA]
  dsimp only [stC, slotC]
  repeat' first | refine adv ?_ | refine Side.go ?_ | refine Giv.mk fun _ => ?_ | refine All.mk fun q => ?_ | refine Fork.mk ?_ ?_ | (refine Two.mk (fun h => ?_) (fun h => ?_) <;> try first | contradiction | (exfalso; omega))
  refine CallG.use (st_dead p d D.Z (.pointer (some ⟨m, 0, none⟩)) (.pointer (some ⟨s, 0, none⟩)) pos num false) ?_
  rintro r M ⟨rfl, rfl⟩
  dsimp only [lcA, lnA]
  dsimp only [stC]
  repeat' first | refine adv ?_ | refine Side.go ?_ | refine Giv.mk fun _ => ?_ | refine All.mk fun q => ?_ | refine Fork.mk ?_ ?_ | (refine Two.mk (fun h => ?_) (fun h => ?_) <;> try first | contradiction | (exfalso; omega))
  refine CallG.use (st_text p d D.Z m M (.pointer (some ⟨s, 0, none⟩)) pos num false hk hl hla hd (by omega)) ?_
  rintro r M ⟨t, ht, rfl, rfl⟩
  dsimp only [lcA, lnA]
  dsimp only [stC]
  repeat' first | refine adv ?_ | refine Side.go ?_ | refine Giv.mk fun _ => ?_ | refine All.mk fun q => ?_ | refine Fork.mk ?_ ?_ | (refine Two.mk (fun h => ?_) (fun h => ?_) <;> try first | contradiction | (exfalso; omega))
  have htl : t.xs.length ≤ 1000000 := by rw [ht, textOf_len (fun x hx => (hd x hx).2)]; omega
  refine CallG.freeze t ?_
  refine CallG.use (slot_save s d sr D ok hs.2.2.2 (by omega) hin hn t htl) ?_
  rintro r M ⟨new, hnew, rfl, rfl⟩
  dsimp only [lcA, lnA]
  dsimp only [slotC]
  have hce := chk_eq D sr t new
  have hRZ := saveOf_geo sr D t new
  have hRok := saveOf_ok sr D t new ok
  generalize saveOf sr D t new = R at hce hRZ hRok ⊢
  generalize hW : chkW R (D.Z - 2 * midOf D.Z) (2 * midOf D.Z) = W at hce
  repeat' first | refine adv ?_ | refine Side.go ?_ | refine Giv.mk fun _ => ?_ | refine All.mk fun q => ?_ | refine Fork.mk ?_ ?_ | (refine Two.mk (fun h => ?_) (fun h => ?_) <;> try first | contradiction | (exfalso; omega))
  refine Sy_loop (ι := {x : Nat × Int × Dv // x.1 ≤ D.Z ∧ x.2.2.ok ∧ x.2.2.Z = D.Z ∧ ((x.2.1 = 0 ∧ wipe x.2.2 (D.Z - x.1) x.1 = W) ∨ (x.2.1 ≠ 0 ∧ W = (x.2.1, x.2.2)))})
    (fun x => [(4, .int .i64 x.1.1), (3, .int .i64 x.1.2.1), (0, .pointer (some ⟨p, 0, none⟩))])
    (fun x => stC p d D.Z (.pointer (some ⟨m, 0, none⟩)) (.pointer (some ⟨s, 0, none⟩)) pos num false :: slotC s d R.2.1 :: roS R.2.1.text :: devO d x.1.2.2 :: mgO m M :: F) (fun x => D.Z - x.1.1)
    ⟨(2 * midOf D.Z, R.1, R.2.2), by dsimp only; omega, hRok, hRZ.1, ?_⟩ (evs rfl (evs rfl (evs rfl .nil))) (fun w h => by dsimp only [stC, slotC]; exact goes w h) ?_
  · dsimp only
    rw [← hW]
    unfold chkW
    by_cases h : R.1 ≠ 0
    · rw [if_pos h]; exact .inr ⟨h, rfl⟩
    · rw [if_neg h]; exact .inl ⟨by omega, rfl⟩
  rintro ⟨⟨z, e, E⟩, hz, okE, hEZ, hgo⟩ env
  dsimp only [upds, stC, slotC] at hz okE hEZ hgo ⊢
  by_cases hc : z < D.Z ∧ e = 0
  · obtain ⟨hzl, rfl⟩ := hc
    obtain ⟨-, hgo⟩ : (0 : Int) = 0 ∧ wipe E (D.Z - z) z = W := by
      rcases hgo with h | ⟨h, -⟩
      · exact h
      · exact absurd rfl h
    rw [show D.Z - z = (D.Z - (z + 1)) + 1 from by omega, wipe_pos (by omega)] at hgo
    repeat' first | refine adv ?_ | refine Side.go ?_ | refine Giv.mk fun _ => ?_ | refine All.mk fun q => ?_ | refine Fork.mk ?_ ?_ | (refine Two.mk (fun h => ?_) (fun h => ?_) <;> try first | contradiction | (exfalso; omega))
    refine CallG.use (dev_pointer d E okE z) ?_
    rintro r M ⟨rfl, rfl⟩
    dsimp only [lcA, lnA]
    rw [pointer_at (show z < E.Z from by omega)]
    repeat' first | refine adv ?_ | refine Side.go ?_ | refine Giv.mk fun _ => ?_ | refine All.mk fun q => ?_ | refine Fork.mk ?_ ?_ | (refine Two.mk (fun h => ?_) (fun h => ?_) <;> try first | contradiction | (exfalso; omega))
    · rw [if_pos (by omega)] at hgo
      refine CallG.use (dev_reset d E okE z) ?_
      rintro r M ⟨rfl, rfl⟩
      dsimp only [lcA, lnA]
      repeat' first | refine adv ?_ | refine Side.go ?_ | refine Giv.mk fun _ => ?_ | refine All.mk fun q => ?_ | refine Fork.mk ?_ ?_ | (refine Two.mk (fun h => ?_) (fun h => ?_) <;> try first | contradiction | (exfalso; omega))
      refine loopQ.next ⟨(z + 1, (E.reset z).1, (E.reset z).2), by dsimp only; omega, Dv.reset_ok okE z, (Dv.reset_geo E z).1.trans hEZ, ?_⟩ (by simp only []; omega) (evs rfl (evs rfl (evs rfl .nil))) (fun w h => by dsimp only [stC, slotC]; exact goes w h)
      dsimp only
      by_cases h : (E.reset z).1 ≠ 0
      · rw [if_pos h] at hgo; exact .inr ⟨h, hgo.symm⟩
      · rw [if_neg h] at hgo; exact .inl ⟨by omega, hgo⟩
    · rw [if_neg (by omega)] at hgo
      refine loopQ.next ⟨(z + 1, 0, E), by dsimp only; omega, okE, hEZ, .inl ⟨rfl, hgo⟩⟩ (by simp only []; omega) (evs rfl (evs rfl (evs rfl .nil))) (fun w h => by dsimp only [stC, slotC]; exact goes w h)
  · have hW2 : W = (e, E) := by
      rcases hgo with ⟨h0, h⟩ | ⟨-, h⟩
      · rw [show D.Z - z = 0 from by omega] at h; rw [← h, h0]; rfl
      · exact h
    subst hW2
    dsimp only at hce
    repeat' first | refine adv ?_ | refine Side.go ?_ | refine Giv.mk fun _ => ?_ | refine All.mk fun q => ?_ | refine Fork.mk ?_ ?_ | (refine Two.mk (fun h => ?_) (fun h => ?_) <;> try first | contradiction | (exfalso; omega))
    · rw [if_pos (by assumption)] at hce
      refine endQ.oneW Tryz.results22 ⟨t, new, ht, hnew, by rw [hce], rfl⟩ (fun w h => ?_)
      rw [hce]
      dsimp only
      rw [if_neg (show ¬ ((12 : Int) = 0) by decide), if_neg (show ¬ ((12 : Int) = 0) by decide)]
      exact goes w h
    · rw [if_pos (by assumption)] at hce
      refine endQ.oneW Tryz.results22 ⟨t, new, ht, hnew, by rw [hce], rfl⟩ (fun w h => ?_)
      rw [hce]
      dsimp only
      rw [if_neg (show ¬ ((12 : Int) = 0) by decide), if_neg (show ¬ ((12 : Int) = 0) by decide)]
      exact goes w h
    · rw [if_neg (by omega)] at hce
      refine endQ.oneW Tryz.results22 ⟨t, new, ht, hnew, by rw [hce], rfl⟩ (fun w h => ?_)
      rw [hce]
      dsimp only
      rw [if_pos rfl, if_pos rfl, show ((0 : Nat) : Int) = 0 from rfl]
      exact goes w h
end Go.SL
namespace Go.SL
open Go.Proofs
set_option synthInstance.maxSize 4000
set_option synthInstance.maxHeartbeats 400000
set_option maxRecDepth 4000
set_option maxHeartbeats 2000000

/-- What a flush leaves. -/
structure Fl where
  e : Int
  M : Mg
  D : Dv
  pos : Nat
  num : Nat
  off : Bool
def flushOf (D : Dv) (count pos num : Nat) (M : Mg) : Fl :=
  if M.batch.1 ≠ 0 then ⟨M.batch.1, M, D, pos, num, false⟩
  else if (writeOf D count pos num M.batch.2.2.2).e = 12 then ⟨12, M.batch.2.1, (writeOf D count pos num M.batch.2.2.2).D, (writeOf D count pos num M.batch.2.2.2).pos, (writeOf D count pos num M.batch.2.2.2).num, true⟩
  else ⟨(writeOf D count pos num M.batch.2.2.2).e, (M.batch.2.1.done (writeOf D count pos num M.batch.2.2.2).e).2, (writeOf D count pos num M.batch.2.2.2).D, (writeOf D count pos num M.batch.2.2.2).pos, (writeOf D count pos num M.batch.2.2.2).num, false⟩
/-- What a manager must be for a batch to be made and done. -/
structure MgF (M : Mg) : Prop where
  q : ∀ h ∈ M.queue, ∃ T, vget M.all h = some T
  ql : M.queue.length ≤ 1000000
  W : ∀ e ∈ M.all, e.2.W.vs.length ≤ 1000000 ∧ ∀ x ∈ e.2.W.vs, I64 x.1
  num : M.num ≤ 1000000000
  form : formGo 0 0 M.waits ≤ M.waits.length
  wl : M.waits.length = M.queue.length
  wp : ∀ x ∈ M.waits, x.2.length ≤ 1000000
  E : ∀ code, ∀ k < formGo 0 0 M.waits, ∀ e ∈ (({ M with out := formGo 0 0 M.waits } : Mg).doneK code k).E.vs, e.2.length ≤ 1000000
  k : ∀ code, ∀ k (_ : k < formGo 0 0 M.waits), ∃ T, vget (({ M with out := formGo 0 0 M.waits } : Mg).doneK code k).all (M.queue[k]?.getD 0) = some T
theorem batch_same {M : Mg} (h : M.batch.1 ≠ 0) : M.batch.2.1 = M := by
  unfold Mg.batch at *
  split
  · rfl
  · split
    · rfl
    · rename_i h1 h2; rw [if_neg h1, if_neg h2] at h; exact absurd rfl h
theorem batch_out {M : Mg} (h : ¬ M.batch.1 ≠ 0) : M.batch.2.1 = { M with out := formGo 0 0 M.waits } := by
  unfold Mg.batch at *
  split at h
  · exact absurd (show (16 : Int) ≠ 0 by decide) h
  · split at h
    · exact absurd (show (14 : Int) ≠ 0 by decide) h
    · rename_i h1 h2; rw [if_neg h1, if_neg h2]

theorem st_flush (p d m s : Nat) (D : Dv) (ok : D.ok) (M : Mg) (sr : SR) (pos num : Nat) (hpos : pos ≤ 1000000) (hnum : num ≤ 1000000000) (hM : MgF M) :
    Spec Tryz.prog 21 #[.pointer (some ⟨p, 0, none⟩)] [stC p d D.Z (.pointer (some ⟨m, 0, none⟩)) (.pointer (some ⟨s, 0, none⟩)) pos num false, slotC s d sr, roS sr.text, devO d D, mgO m M]
    (fun v L => v = .int .i64 (flushOf D sr.count pos num M).e ∧
      L = [stC p d D.Z (.pointer (some ⟨m, 0, none⟩)) (.pointer (some ⟨s, 0, none⟩)) (flushOf D sr.count pos num M).pos (flushOf D sr.count pos num M).num (flushOf D sr.count pos num M).off,
        slotC s d sr, roS sr.text, devO d (flushOf D sr.count pos num M).D, mgO m (flushOf D sr.count pos num M).M]) := by
  refine enter1 Tryz.func21 rfl (by decide) (by decide) ?_
  intro B F
  dsimp only [lcA, lnA]
  dsimp only [stC, slotC]
  repeat' first | refine adv ?_ | refine Side.go ?_ | refine Giv.mk fun _ => ?_ | refine All.mk fun q => ?_ | refine Fork.mk ?_ ?_ | (refine Two.mk (fun h => ?_) (fun h => ?_) <;> try first | contradiction | (exfalso; omega))
  refine CallG.use (st_dead p d D.Z (.pointer (some ⟨m, 0, none⟩)) (.pointer (some ⟨s, 0, none⟩)) pos num false) ?_
  rintro r M ⟨rfl, rfl⟩
  dsimp only [lcA, lnA]
  dsimp only [stC]
  repeat' first | refine adv ?_ | refine Side.go ?_ | refine Giv.mk fun _ => ?_ | refine All.mk fun q => ?_ | refine Fork.mk ?_ ?_ | (refine Two.mk (fun h => ?_) (fun h => ?_) <;> try first | contradiction | (exfalso; omega))
  refine CallG.use (tx_batch m M hM.q hM.ql hM.W hM.num hM.form) ?_
  rintro r M ⟨t, ht, rfl, rfl⟩
  dsimp only [lcA, lnA]
  repeat' first | refine adv ?_ | refine Side.go ?_ | refine Giv.mk fun _ => ?_ | refine All.mk fun q => ?_ | refine Fork.mk ?_ ?_ | (refine Two.mk (fun h => ?_) (fun h => ?_) <;> try first | contradiction | (exfalso; omega))
  · have e := batch_same h
    have e2 : flushOf D sr.count pos num M = ⟨M.batch.1, M, D, pos, num, false⟩ := by rw [flushOf, if_pos h]
    rw [e, e2]
    exact endQ.oneW Tryz.results21 ⟨rfl, rfl⟩ (fun w h => goes w h)
  have h0 : ¬ M.batch.1 ≠ 0 := by omega
  refine CallG.use (st_writeB p d s D ok (.pointer (some ⟨m, 0, none⟩)) sr pos num false M.batch.2.2.1 t hpos hnum) ?_
  rintro r M ⟨rfl, rfl⟩
  dsimp only [lcA, lnA]
  rw [ht]
  have e2 := batch_out h0
  have e3 : flushOf D sr.count pos num M = if (writeOf D sr.count pos num M.batch.2.2.2).e = 12 then ⟨12, M.batch.2.1, (writeOf D sr.count pos num M.batch.2.2.2).D, (writeOf D sr.count pos num M.batch.2.2.2).pos, (writeOf D sr.count pos num M.batch.2.2.2).num, true⟩
      else ⟨(writeOf D sr.count pos num M.batch.2.2.2).e, (M.batch.2.1.done (writeOf D sr.count pos num M.batch.2.2.2).e).2, (writeOf D sr.count pos num M.batch.2.2.2).D, (writeOf D sr.count pos num M.batch.2.2.2).pos, (writeOf D sr.count pos num M.batch.2.2.2).num, false⟩ := by
    rw [flushOf, if_neg h0]
  generalize writeOf D sr.count pos num M.batch.2.2.2 = W at e3 ⊢
  dsimp only [stC, slotC]
  repeat' first | refine adv ?_ | refine Side.go ?_ | refine Giv.mk fun _ => ?_ | refine All.mk fun q => ?_ | refine Fork.mk ?_ ?_ | (refine Two.mk (fun h => ?_) (fun h => ?_) <;> try first | contradiction | (exfalso; omega))
  · rw [if_pos (by assumption)] at e3
    rw [e3]
    have h12 : W.e = 12 := by assumption
    rw [h12]
    exact endQ.oneW Tryz.results21 ⟨rfl, rfl⟩ (fun w h => goes w h)
  · rw [if_neg (by omega)] at e3
    refine CallG.use (tx_done m M.batch.2.1 W.e (by rw [e2]; exact hM.q) (by rw [e2]; exact hM.ql) (by rw [e2]; exact hM.W) (by rw [e2]; exact hM.num) (by rw [e2]; exact hM.wl) (by rw [e2]; exact Nat.le_trans hM.form (Nat.le_of_eq hM.wl)) (by rw [e2]; exact hM.wp) (by rw [e2]; exact hM.E W.e) (by rw [e2]; exact hM.k W.e)) ?_
    rintro r M ⟨rfl, rfl⟩
    dsimp only [lcA, lnA]
    repeat' first | refine adv ?_ | refine Side.go ?_ | refine Giv.mk fun _ => ?_ | refine All.mk fun q => ?_ | refine Fork.mk ?_ ?_ | (refine Two.mk (fun h => ?_) (fun h => ?_) <;> try first | contradiction | (exfalso; omega))
    rw [e3]
    exact endQ.oneW Tryz.results21 ⟨rfl, rfl⟩ (fun w h => goes w h)
end Go.SL
namespace Go.SL
open Go.Proofs
set_option synthInstance.maxSize 4000
set_option synthInstance.maxHeartbeats 400000
set_option maxRecDepth 4000
set_option maxHeartbeats 2000000

def parseGo : Nat → List UInt8 → List (Int × List UInt8) → List (Int × List UInt8)
  | 0, _, vs => vs
  | f + 1, l, vs => if l.length = 0 then vs else parseGo f (l.drop 44) (vset vs ((getR l 4 : Nat) : Int) ((l.take 44).drop 4))
def parseOf (t : List UInt8) : Option Sta :=
  if t.length = 0 then some ⟨0, []⟩
  else if t.length < 8 ∨ 1099511627776 < getR t 8 ∨ t.length % 44 ≠ 8 then none
  else some ⟨(getR t 8 : Nat), parseGo (t.length + 1) (t.drop 8) []⟩

theorem st_parse (s : Sl UInt8) : Spec Tryz.prog 40 #[s.val] [roS s] (fun v L => (parseOf s.xs = none ∧ v = .tuple #[.pointer none, .bool false] ∧ L = []) ∨
    (∃ S p, parseOf s.xs = some S ∧ v = .tuple #[.pointer (some ⟨p, 0, none⟩), .bool true] ∧ L = [staO p S])) := by
  refine enter1 Tryz.func40 rfl (by decide) (by decide) ?_
  intro B F
  dsimp only [lcA, lnA]
  refine Sy_know (fun B w h => ro_ok s B w h) (fun hs => ?_)
  have hsl := hs.len
  repeat' first | refine adv ?_ | refine Side.go ?_ | refine Giv.mk fun _ => ?_ | refine All.mk fun q => ?_ | refine Fork.mk ?_ ?_ | (refine Two.mk (fun h => ?_) (fun h => ?_) <;> try first | contradiction | (exfalso; omega))
  · rename_i rm
    refine endQ.twoW Tryz.results40 (.inr ⟨⟨0, []⟩, _, by rw [parseOf, if_pos (by omega)], rfl, rfl⟩) (fun w h => staO_close ⟨0, []⟩ rm [] rfl ?_)
    exact goes w (show sat B (cells true q 0 [.int .i64 0, .map (some rm)] :: mapO rm (vmap Sl.val ([] : List (Int × Sl UInt8))) :: roS s :: F) w from h)
  refine CallG.use (get64_spec s) ?_
  rintro r M ⟨rfl, rfl⟩
  dsimp only [lcA, lnA]
  have hok : getOk s.xs 8 = true ↔ 8 ≤ s.xs.length := by simp [getOk]
  have hno : s.xs.length < 8 ∨ 1099511627776 < getR s.xs 8 ∨ s.xs.length % 44 ≠ 8 → s.xs.length ≠ 0 → parseOf s.xs = none := fun h h0 => by rw [parseOf, if_neg h0, if_pos h]
  rename_i rm
  repeat' first | refine adv ?_ | refine Side.go ?_ | refine Giv.mk fun _ => ?_ | refine All.mk fun q => ?_ | refine Fork.mk ?_ ?_ | (refine Two.mk (fun h => ?_) (fun h => ?_) <;> try first | contradiction | (exfalso; omega))
  · exact endQ.two Tryz.results40 (.inl ⟨hno (.inl (Nat.lt_of_not_le fun x => h (hok.2 x))) (by omega), rfl, rfl⟩)
  · exact endQ.two Tryz.results40 (.inl ⟨hno (.inr (.inl (by omega))) (by omega), rfl, rfl⟩)
  · exact endQ.two Tryz.results40 (.inl ⟨hno (.inr (.inr (fun x => h (congrArg Int.ofNat x)))) (by omega), rfl, rfl⟩)
  have h8 : 8 ≤ s.xs.length := hok.1 (by simpa using ‹¬¬getOk s.xs 8 = true›)
  have hmod : s.xs.length % 44 = 8 := Int.ofNat_inj.1 (Decidable.not_not.1 h)
  obtain ⟨q8, hq8⟩ : ∃ b, b = q := ⟨q, rfl⟩
  subst hq8
  repeat' first | refine adv ?_ | refine Side.go ?_ | refine Giv.mk fun _ => ?_ | refine All.mk fun q => ?_ | refine Fork.mk ?_ ?_ | (refine Two.mk (fun h => ?_) (fun h => ?_) <;> try first | contradiction | (exfalso; omega))
  have hP : parseOf s.xs = some ⟨(getR s.xs 8 : Nat), parseGo (s.xs.length + 1) (s.xs.drop 8) []⟩ := by rw [parseOf, if_neg (by omega), if_neg (by omega)]
  generalize hA : parseGo (s.xs.length + 1) (s.xs.drop 8) [] = A at hP
  refine Sy_loop (ι := {x : Sl UInt8 × List (Int × Sl UInt8) // (x.1.xs.length % 44 = 0 ∧ x.1.xs.length ≤ s.xs.length) ∧ ∃ f, x.1.xs.length < f ∧ parseGo f x.1.xs (vr x.2) = A})
    (fun x => [(7, x.1.1.val), (4, .pointer (some ⟨q8, 0, none⟩))])
    (fun x => cells true q8 0 [.int .i64 (getR s.xs 8), .map (some rm)] :: mapO rm (vmap Sl.val x.1.2) :: bigS roF x.1.2 :: roS x.1.1 :: F) (fun x => x.1.1.xs.length)
    ⟨(⟨q, s.c - 8, List.drop 8 (List.take s.xs.length s.xs)⟩, []), ⟨?_, ?_⟩, ?_⟩ (evs rfl (evs rfl .nil)) (fun w h => ?_) ?_
  · dsimp only; rw [List.take_length, List.length_drop]; omega
  · dsimp only; rw [List.take_length, List.length_drop]; omega
  · exact ⟨s.xs.length + 1, by dsimp only; rw [List.take_length, List.length_drop]; omega, by dsimp only; rw [List.take_length]; exact hA⟩
  · have h2 := sat_true (show ∀ h, bigS roF ([] : List (Int × Sl UInt8)) h from fun _ => trivial) h
    exact (goes w h2 : sat B (cells true q8 0 [.int .i64 (getR s.xs 8), .map (some rm)] :: mapO rm [] :: bigS roF ([] : List (Int × Sl UInt8)) :: roS (⟨q, s.c - 8, List.drop 8 (List.take s.xs.length s.xs)⟩ : Sl UInt8) :: F) w)
  rintro ⟨⟨l, vs⟩, ⟨hl44, hll⟩, f, hf, hgo⟩ env
  dsimp only [upds] at hl44 hll hf hgo ⊢
  refine Sy_know (fun B w h => map_nodup (r := rm) (es := vmap Sl.val vs) B w h) (fun hnd => ?_)
  rw [vmap_keys] at hnd
  obtain ⟨f, rfl⟩ : ∃ g, f = g + 1 := ⟨f - 1, by omega⟩
  rw [parseGo] at hgo
  by_cases hl0 : l.xs.length = 0
  · rw [if_pos hl0] at hgo
    repeat' first | refine adv ?_ | refine Side.go ?_ | refine Giv.mk fun _ => ?_ | refine All.mk fun q => ?_ | refine Fork.mk ?_ ?_ | (refine Two.mk (fun h => ?_) (fun h => ?_) <;> try first | contradiction | (exfalso; omega))
    refine endQ.twoW Tryz.results40 (.inr ⟨_, q8, hP, rfl, rfl⟩) (fun w h => staO_close _ rm vs hgo ?_)
    exact goes w h
  · rw [if_neg hl0] at hgo
    have hg4 : getR l.xs 4 < 4294967296 := getR_lt _ 4
    have h44 : 44 ≤ l.xs.length := by omega
    repeat' first | refine adv ?_ | refine Side.go ?_ | refine Giv.mk fun _ => ?_ | refine All.mk fun q => ?_ | refine Fork.mk ?_ ?_ | (refine Two.mk (fun h => ?_) (fun h => ?_) <;> try first | contradiction | (exfalso; omega))
    refine CallG.use (get32_spec l) ?_
    rintro r M ⟨rfl, rfl⟩
    dsimp only [lcA, lnA]
    repeat' first | refine adv ?_ | refine Side.go ?_ | refine Giv.mk fun _ => ?_ | refine All.mk fun q => ?_ | refine Fork.mk ?_ ?_ | (refine Two.mk (fun h => ?_) (fun h => ?_) <;> try first | contradiction | (exfalso; omega))
    rename_i q1
    have e1 : List.take l.xs.length l.xs = l.xs := List.take_length
    refine loopQ.next ⟨(⟨q, l.c - 44, List.drop 44 (List.take l.xs.length l.xs)⟩, vset vs ((getR l.xs 4 : Nat) : Int) ⟨q1, l.c - 4, List.drop 4 (List.take 44 l.xs)⟩), ⟨?_, ?_⟩, f, ?_, ?_⟩ (by simp only []; rw [e1, List.length_drop]; omega) (evs rfl (evs rfl .nil)) (fun w h => ?_)
    · dsimp only; rw [e1, List.length_drop]; omega
    · dsimp only; rw [e1, List.length_drop]; omega
    · dsimp only; rw [e1, List.length_drop]; omega
    · dsimp only; rw [e1, ← vset_vr]; exact hgo
    · dsimp only
      rw [← mset_vmap]
      have h5 : sat B (roS (⟨q1, l.c - 4, List.drop 4 (List.take 44 l.xs)⟩ : Sl UInt8) :: bigS roF vs :: cells true q8 0 [.int .i64 (getR s.xs 8), .map (some rm)] ::
          mapO rm (mset (vmap Sl.val vs) ((getR l.xs 4 : Nat) : Int) (Sl.val (⟨q1, l.c - 4, List.drop 4 (List.take 44 l.xs)⟩ : Sl UInt8))) :: roS (⟨q, l.c - 44, List.drop 44 (List.take l.xs.length l.xs)⟩ : Sl UInt8) :: F) w := goes w h
      exact goes w (put_ro vs ((getR l.xs 4 : Nat) : Int) _ hnd h5)
end Go.SL
namespace Go.SL
open Go.Proofs
set_option synthInstance.maxSize 4000
set_option synthInstance.maxHeartbeats 400000
set_option maxRecDepth 4000
set_option maxHeartbeats 2000000

/-- The slots, and the store, as plain data. -/
structure SP where
  inn : Nat
  text : List UInt8
  count : Nat
  off : Bool
structure SS where
  x : SP
  M : Mg
  pos : Nat
  num : Nat
  off : Bool
def SP.sr (Z S : Nat) (x : SP) (t : Sl UInt8) : SR := ⟨0, midOf Z, 2 * midOf Z, S, x.inn, t, x.count, x.off⟩
def slotA (Z i : Nat) : Nat := if i = 0 then 0 else if i = 1 then midOf Z else 2 * midOf Z
def savP (D : Dv) (x : SP) (text : List UInt8) : Int × SP × Dv :=
  if 40 * (midOf D.Z * D.S - 2) < text.length then (7, x, D) else if x.off = true then (12, x, D) else
  if (slotWrite D (slotA D.Z (1 - x.inn)) (slotA D.Z (1 - x.inn + 1)) (x.count + 1) text).1 ≠ 0 then
    ((slotWrite D (slotA D.Z (1 - x.inn)) (slotA D.Z (1 - x.inn + 1)) (x.count + 1) text).1, { x with off := true }, (slotWrite D (slotA D.Z (1 - x.inn)) (slotA D.Z (1 - x.inn + 1)) (x.count + 1) text).2)
  else (0, ⟨1 - x.inn, text, x.count + 1, x.off⟩, (slotWrite D (slotA D.Z (1 - x.inn)) (slotA D.Z (1 - x.inn + 1)) (x.count + 1) text).2)
structure Ch where
  e : Int
  x : SP
  D : Dv
def chW (R : Int × SP × Dv) (n z : Nat) : Int × Dv := if R.1 ≠ 0 then (R.1, R.2.2) else wipe R.2.2 n z
def chkP (D : Dv) (x : SP) (text : List UInt8) : Ch :=
  if (chW (savP D x text) (D.Z - 2 * midOf D.Z) (2 * midOf D.Z)).1 ≠ 0 then ⟨12, (savP D x text).2.1, (chW (savP D x text) (D.Z - 2 * midOf D.Z) (2 * midOf D.Z)).2⟩
  else ⟨0, (savP D x text).2.1, (chW (savP D x text) (D.Z - 2 * midOf D.Z) (2 * midOf D.Z)).2⟩
def SR.sp (s : SR) : SP := ⟨s.inn, s.text.xs, s.count, s.off⟩
theorem save_sp {D : Dv} {x : SP} {t : Sl UInt8} (ht : t.xs = x.text) (text new : Sl UInt8) (hnew : new.xs = text.xs) :
    savP D x text.xs = ((saveOf (x.sr D.Z D.S t) D text new).1, (saveOf (x.sr D.Z D.S t) D text new).2.1.sp, (saveOf (x.sr D.Z D.S t) D text new).2.2) ∧ ∃ t', (saveOf (x.sr D.Z D.S t) D text new).2.1 = (savP D x text.xs).2.1.sr D.Z D.S t' ∧ t'.xs = (savP D x text.xs).2.1.text := by
  have hroom : (x.sr D.Z D.S t).room = 40 * (midOf D.Z * D.S - 2) := by
    unfold SR.room SP.sr
    dsimp only
    rw [show min (midOf D.Z - 0) (2 * midOf D.Z - midOf D.Z) = midOf D.Z from by omega]
  have hat : ∀ i, (x.sr D.Z D.S t).at i = slotA D.Z i := fun i => rfl
  have hx : x = ⟨x.inn, t.xs, x.count, x.off⟩ := by rw [ht]
  unfold saveOf savP
  rw [hroom, hat, hat]
  have h1 : (x.sr D.Z D.S t).inn = x.inn := rfl
  have h2 : (x.sr D.Z D.S t).count = x.count := rfl
  have h3 : (x.sr D.Z D.S t).off = x.off := rfl
  rw [h1, h2, h3]
  split
  · exact ⟨by rw [hx]; rfl, t, rfl, ht⟩
  · split
    · exact ⟨by rw [hx]; rfl, t, rfl, ht⟩
    · split
      · exact ⟨by rw [hx]; rfl, t, rfl, ht⟩
      · exact ⟨by rw [← hnew]; rfl, new, rfl, hnew⟩
/-- A store in memory. -/
def stO (p d Z S : Nat) (T : SS) : HProp := ex fun q : Nat × Nat × Sl UInt8 => star [says (q.2.2.xs = T.x.text), stC p d Z (.pointer (some ⟨q.1, 0, none⟩)) (.pointer (some ⟨q.2.1, 0, none⟩)) T.pos T.num T.off, slotC q.2.1 d (T.x.sr Z S q.2.2), roS q.2.2, mgO q.1 T.M]
theorem stO_open {B : World} {L : List HProp} {p d Z S : Nat} {T : SS} {w : World} (h : sat B (stO p d Z S T :: L) w) : ∃ q : {q : Nat × Nat × Sl UInt8 // q.2.2.xs = T.x.text},
    sat B (stC p d Z (.pointer (some ⟨q.1.1, 0, none⟩)) (.pointer (some ⟨q.1.2.1, 0, none⟩)) T.pos T.num T.off :: slotC q.1.2.1 d (T.x.sr Z S q.1.2.2) :: roS q.1.2.2 :: mgO q.1.1 T.M :: L) w := by
  obtain ⟨q, hq⟩ := sat_ex.1 h
  obtain ⟨e, h2⟩ := sat_says.1 (sat_star.1 hq)
  exact ⟨⟨q, e⟩, h2⟩
theorem stO_close {B : World} {L : List HProp} {p d Z S : Nat} {w : World} (T : SS) (m s : Nat) (t : Sl UInt8) (e : t.xs = T.x.text)
    (h : sat B (stC p d Z (.pointer (some ⟨m, 0, none⟩)) (.pointer (some ⟨s, 0, none⟩)) T.pos T.num T.off :: slotC s d (T.x.sr Z S t) :: roS t :: mgO m T.M :: L) w) : sat B (stO p d Z S T :: L) w :=
  sat_ex.2 ⟨(m, s, t), sat_star.2 (sat_says.2 ⟨e, h⟩)⟩

/-- What a mount tells and leaves. -/
structure Mo where
  e : Int
  D : Dv
  T : SS
def noSt : SS := ⟨⟨0, [], 0, false⟩, Mg.new 0 0, 0, 0, false⟩
def mountEnd (D : Dv) (x : SP) (M : Mg) (pos num : Nat) (torn : Bool) : Mo :=
  if torn = true then
    if (chkP D x (textOf M.last M.E.dump)).e ≠ 0 then ⟨(chkP D x (textOf M.last M.E.dump)).e, (chkP D x (textOf M.last M.E.dump)).D, noSt⟩
    else ⟨0, (chkP D x (textOf M.last M.E.dump)).D, ⟨(chkP D x (textOf M.last M.E.dump)).x, M, 0, 0, false⟩⟩
  else ⟨0, D, ⟨x, M, pos, num, false⟩⟩
def mountLog (D : Dv) (x : SP) (l behind : List (List UInt8)) (S : Sta) : Mo :=
  if l.any strayOf = true ∨ behind.any strayOf = true then ⟨13, D, noSt⟩
  else if ((Mg.new (capOf D.Z D.S) (replayGo l x.count (l.length + 1) 0 0 S).S.last).load (putsOf (replayGo l x.count (l.length + 1) 0 0 S).S.vs)).1 ≠ 0 then ⟨13, D, noSt⟩
  else mountEnd D x ((Mg.new (capOf D.Z D.S) (replayGo l x.count (l.length + 1) 0 0 S).S.last).load (putsOf (replayGo l x.count (l.length + 1) 0 0 S).S.vs)).2
    (replayGo l x.count (l.length + 1) 0 0 S).pos (replayGo l x.count (l.length + 1) 0 0 S).num ((replayGo l x.count (l.length + 1) 0 0 S).torn || decide (0 < behind.length))
def mountIn (D : Dv) (x : SP) : Mo :=
  match parseOf x.text with
  | none => ⟨13, D, noSt⟩
  | some S => mountLog { D with reads := D.reads + ((logOf D (D.Z - 2 * midOf D.Z) (2 * midOf D.Z) false).1.length : Int) + ((logOf D (D.Z - 2 * midOf D.Z) (2 * midOf D.Z) false).2.length : Int) } x (logOf D (D.Z - 2 * midOf D.Z) (2 * midOf D.Z) false).1 (logOf D (D.Z - 2 * midOf D.Z) (2 * midOf D.Z) false).2 S
def mountOf (D : Dv) : Mo :=
  match openAt D 0 (midOf D.Z) (2 * midOf D.Z) 2 with
  | none => ⟨13, D, noSt⟩
  | some s => if ({ D with reads := readsAt D 0 (midOf D.Z) (2 * midOf D.Z) 2 } : Dv).flush.1 ≠ 0 then ⟨({ D with reads := readsAt D 0 (midOf D.Z) (2 * midOf D.Z) 2 } : Dv).flush.1, ({ D with reads := readsAt D 0 (midOf D.Z) (2 * midOf D.Z) 2 } : Dv).flush.2, noSt⟩
    else mountIn ({ D with reads := readsAt D 0 (midOf D.Z) (2 * midOf D.Z) 2 } : Dv).flush.2 ⟨s.1, s.2.1, s.2.2, false⟩
end Go.SL
namespace Go.SL
open Go.Proofs
set_option synthInstance.maxSize 4000
set_option synthInstance.maxHeartbeats 400000
set_option maxRecDepth 4000
set_option maxHeartbeats 2000000

theorem read_len : ∀ (bs : List (List UInt8)) (i n : Nat) (t : List UInt8) {t' : List UInt8} {n' : Nat}, readGo i n t bs = some (t', n') → t'.length ≤ t.length + 40 * bs.length ∧ (n ≤ 1099511627776 → n' ≤ 1099511627776)
  | [], _, _, _, _, _, h => by cases h
  | p :: ps, i, n, t, t', n', h => by
    rw [readGo] at h
    split at h
    · cases h
    rename_i hd
    have hd2 : decOk p := Decidable.not_not.1 hd
    split at h
    · have := read_len ps _ _ _ h
      rw [List.length_cons]; exact ⟨by omega, fun _ => this.2 hd2.2.2.1⟩
    split at h
    · cases h
    split at h
    · have h1 := read_len ps _ _ _ h
      have h2 := cutB_body p hd2
      rw [List.length_append] at h1
      rw [List.length_cons]; exact ⟨by omega, h1.2⟩
    split at h
    · cases h; exact ⟨by omega, fun h => h⟩
    · cases h
theorem open_len {D : Dv} (ok : D.ok) {low mid high : Nat} (hl : low < mid ∧ mid < high ∧ high ≤ D.Z) : ∀ (k : Nat) {s : Nat × List UInt8 × Nat}, k ≤ 2 → openAt D low mid high k = some s → s.1 < 2 ∧ s.2.1.length ≤ 800000 ∧ s.2.2 ≤ 1099511627776
  | 0, s, _, h => by cases h; simp
  | k + 1, s, hk, h => by
    rw [openAt] at h
    obtain ⟨y, hy, hs⟩ := Option.bind_eq_some_iff.1 h
    have ih := open_len ok hl k (by omega) hy
    unfold slotStep at hs
    split at hs
    · cases hs
    split at hs
    · rename_i t n hr
      have h1 := read_len _ _ _ _ hr
      have h2 := slotB_len ok (i := k) hl
      simp only [List.length_nil] at h1
      split at hs
      · cases hs; dsimp only; exact ⟨by omega, by omega, h1.2 (by omega)⟩
      · cases hs; exact ih
    · cases hs; exact ih

theorem vset_keys_eq {α : Type} (vs : List (Int × α)) (k : Int) (x : α) : (vset vs k x).map (·.1) = if k ∈ vs.map (·.1) then vs.map (·.1) else vs.map (·.1) ++ [k] := by
  unfold vset
  by_cases h : (vs.any fun e => e.1 == k) = true
  · rw [if_pos h]
    have hm : k ∈ vs.map (·.1) := by
      obtain ⟨e, he, hk⟩ := List.any_eq_true.1 h
      exact List.mem_map.2 ⟨e, he, by simpa using hk⟩
    rw [if_pos hm, List.map_map]
    apply List.map_congr_left
    intro e _
    simp only [Function.comp]
    split
    · rename_i he; exact he.symm
    · rfl
  · rw [if_neg h]
    have hm : ¬ k ∈ vs.map (·.1) := by
      intro hk
      obtain ⟨e, he, rfl⟩ := List.mem_map.1 hk
      exact h (List.any_eq_true.2 ⟨e, he, by simp⟩)
    rw [if_neg hm, List.map_append]; rfl
theorem vset_len {α : Type} (vs : List (Int × α)) (k : Int) (x : α) : (vset vs k x).length ≤ vs.length + 1 := by
  unfold vset
  split
  · rw [List.length_map]; omega
  · rw [List.length_append]; simp
theorem vset_mem {α : Type} {vs : List (Int × α)} {k : Int} {x : α} {e : Int × α} (h : e ∈ vset vs k x) : e = (k, x) ∨ e ∈ vs := by
  unfold vset at h
  split at h
  · obtain ⟨y, hy, rfl⟩ := List.mem_map.1 h
    split
    · exact .inl rfl
    · exact .inr hy
  · rcases List.mem_append.1 h with h | h
    · exact .inr h
    · exact .inl (List.mem_singleton.1 h)
theorem vset_nodup {α : Type} {vs : List (Int × α)} (k : Int) (x : α) (h : (vs.map (·.1)).Nodup) : ((vset vs k x).map (·.1)).Nodup := by
  rw [vset_keys_eq]
  split
  · exact h
  · rename_i hk
    exact List.nodup_append.2 ⟨h, by simp, fun a ha b hb => by rw [List.mem_singleton.1 hb]; rintro rfl; exact hk ha⟩

def SBd (S : Sta) (n : Nat) : Prop := (0 ≤ S.last ∧ S.last ≤ 1099511627776) ∧ S.vs.length ≤ n ∧ (S.vs.map (·.1)).Nodup ∧ ∀ e ∈ S.vs, 0 ≤ e.1 ∧ e.1 < 4294967296
theorem parseGo_bd : ∀ (f : Nat) (l : List UInt8) (vs : List (Int × List UInt8)), (vs.map (·.1)).Nodup → (∀ e ∈ vs, (0 : Int) ≤ e.1 ∧ e.1 < 4294967296) →
    (parseGo f l vs).length * 44 ≤ vs.length * 44 + l.length + 43 ∧ ((parseGo f l vs).map (·.1)).Nodup ∧ ∀ e ∈ parseGo f l vs, (0 : Int) ≤ e.1 ∧ e.1 < 4294967296
  | 0, l, vs, hn, hk => ⟨by rw [parseGo]; omega, hn, hk⟩
  | f + 1, l, vs, hn, hk => by
    rw [parseGo]
    split
    · exact ⟨by omega, hn, hk⟩
    · have h1 := vset_len vs ((getR l 4 : Nat) : Int) ((l.take 44).drop 4)
      have hg : getR l 4 < 4294967296 := getR_lt _ 4
      have ih := parseGo_bd f (l.drop 44) (vset vs ((getR l 4 : Nat) : Int) ((l.take 44).drop 4)) (vset_nodup _ _ hn) (fun e he => by
        rcases vset_mem he with rfl | h
        · dsimp only; omega
        · exact hk e h)
      rw [List.length_drop] at ih
      refine ⟨?_, ih.2⟩
      by_cases h44 : 44 ≤ l.length
      · omega
      · rw [List.drop_of_length_le (by omega)] at ih ⊢
        have h2 : parseGo f ([] : List UInt8) (vset vs ((getR l 4 : Nat) : Int) ((l.take 44).drop 4)) = vset vs ((getR l 4 : Nat) : Int) ((l.take 44).drop 4) := by
          cases f with
          | zero => rfl
          | succ f => rw [parseGo, if_pos (show ([] : List UInt8).length = 0 from rfl)]
        rw [h2]
        omega
theorem parse_bd {t : List UInt8} {S : Sta} (h : parseOf t = some S) : SBd S (t.length / 44 + 1) := by
  unfold parseOf at h
  split at h
  · cases h; exact ⟨⟨by decide, by dsimp only; omega⟩, by simp, by simp, by simp⟩
  split at h
  · cases h
  cases h
  have hb := parseGo_bd (t.length + 1) (t.drop 8) [] (by simp) (by simp)
  rw [List.length_drop] at hb
  exact ⟨⟨by dsimp only; omega, by dsimp only; omega⟩, by simp only [List.length_nil] at hb; dsimp only; omega, hb.2⟩
theorem putsIn_bd : ∀ (ps : List PV) (vs : List (Int × List UInt8)), (vs.map (·.1)).Nodup → (∀ e ∈ vs, (0 : Int) ≤ e.1 ∧ e.1 < 4294967296) → (∀ p ∈ ps, (0 : Int) ≤ p.1 ∧ p.1 < 4294967296) →
    (ps.foldl (fun vs p => vset vs p.1 p.2) vs).length ≤ vs.length + ps.length ∧ ((ps.foldl (fun vs p => vset vs p.1 p.2) vs).map (·.1)).Nodup ∧ ∀ e ∈ ps.foldl (fun vs p => vset vs p.1 p.2) vs, (0 : Int) ≤ e.1 ∧ e.1 < 4294967296
  | [], vs, hn, hk, _ => ⟨by simp, hn, hk⟩
  | p :: ps, vs, hn, hk, hp => by
    have h1 := vset_len vs p.1 p.2
    have ih := putsIn_bd ps (vset vs p.1 p.2) (vset_nodup _ _ hn) (fun e he => by
      rcases vset_mem he with rfl | h
      · exact hp p (List.mem_cons_self ..)
      · exact hk e h) (fun q hq => hp q (List.mem_cons_of_mem _ hq))
    rw [List.foldl_cons, List.length_cons]
    exact ⟨by omega, ih.2⟩
theorem txs_bd : ∀ (l : List TV) (S : Sta) (n : Nat), SBd S n → (∀ t ∈ l, 0 < t.1 ∧ t.1 ≤ 1099511627776) → (∀ t ∈ l, ∀ p ∈ t.2, 0 ≤ p.1 ∧ p.1 ≤ 1048576) → SBd (S.txs l) (n + (l.map (·.2.length)).sum)
  | [], S, n, h, _, _ => h
  | t :: l, S, n, h, ht, hp => by
    obtain ⟨h1, h2, h3, h4⟩ := h
    have hb := putsIn_bd t.2 S.vs h3 h4 (fun p hpm => by have := hp t (List.mem_cons_self ..) p hpm; omega)
    have h1t := ht t (List.mem_cons_self ..)
    have ih := txs_bd l (S.tx t) (n + t.2.length) ⟨⟨by unfold Sta.tx; dsimp only; omega, by unfold Sta.tx; dsimp only; omega⟩, by unfold Sta.tx; dsimp only; omega, hb.2⟩ (fun u hu => ht u (List.mem_cons_of_mem _ hu)) (fun u hu => hp u (List.mem_cons_of_mem _ hu))
    rw [List.map_cons, List.sum_cons, ← Nat.add_assoc]
    exact ih
theorem replay_bd (l : List (List UInt8)) (count : Nat) : ∀ (f pos num : Nat) (S : Sta) (n : Nat), SBd S n → SBd (replayGo l count f pos num S).S (n + 33 * f) ∧ (replayGo l count f pos num S).pos ≤ pos + (l.length + 1) * f ∧ (replayGo l count f pos num S).num ≤ num + f
  | 0, pos, num, S, n, h => by rw [replayGo]; exact ⟨h, by simp, by simp⟩
  | f + 1, pos, num, S, n, h => by
    have mono : ∀ {S : Sta} {n m : Nat}, SBd S n → n ≤ m → SBd S m := fun h hm => ⟨h.1, Nat.le_trans h.2.1 hm, h.2.2⟩
    rw [replayGo, Nat.mul_add, Nat.mul_one, Nat.mul_add, Nat.mul_one]
    split
    · exact ⟨mono h (by omega), by dsimp only; omega, by dsimp only; omega⟩
    split
    · exact ⟨mono h (by omega), by dsimp only; omega, by dsimp only; omega⟩
    rename_i bn ep k t hd
    split
    · exact ⟨mono h (by omega), by dsimp only; omega, by dsimp only; omega⟩
    obtain ⟨⟨-, hk⟩, gn, g⟩ := decode_good hd
    rw [List.length_drop] at hk
    have hb := g.blocks
    unfold blocksN at hb
    have h2 := txs_bd t S n h g.time (fun u hu p hp => ((g.puts u hu).2 p hp).1)
    have ih := replay_bd l count f (pos + k) (num + 1) (S.txs t) _ h2
    generalize (l.length + 1) * f = X at ih ⊢
    exact ⟨mono ih.1 (by omega), by omega, by omega⟩
end Go.SL
