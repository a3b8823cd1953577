/- Parts of the proof of StoreRoom: a logic of memory, contracts of functions, plain laws (SlQ, SlT, SlP, SlR, Slc, Zdev, Zdev2, Zdev3, Zdev4, Bits, Crc, Frame, Frame2, Space). Conditions: those that each theorem names. -/
import Derived.Test.YtfgchgnielfhgaaGreatProg
import Derived.Scope
import Derived.Test.YtfgchgnielfhgaaGreatStoreRoomP1
set_option linter.unusedSimpArgs false
set_option linter.unusedVariables false
namespace Go.SL

section
variable {P : Program} {env : Env} {ty : TypeId} {L : List HProp}

def bigS {α : Type} (f : α → HProp) : List α → HProp
  | [] => says True
  | x :: l => star [f x, bigS f l]

theorem bigS_nil {α : Type} (f : α → HProp) (g : Hp) : bigS f [] g := trivial

theorem sat_bigS_cons {α : Type} {B : World} {w : World} {f : α → HProp} {x : α} {l : List α} : sat B (bigS f (x :: l) :: L) w ↔ sat B (f x :: bigS f l :: L) w :=
  sat_star (M := [f x, bigS f l])

theorem bigS_open {α : Type} {B : World} {w : World} {f : α → HProp} : ∀ {l : List α} {i : Nat} (h : i < l.length) {L : List HProp}, sat B (bigS f l :: L) w ↔ sat B (f l[i] :: bigS f (l.eraseIdx i) :: L) w
  | [], i, h, _ => by simp at h
  | x :: l, 0, _, _ => by simpa using sat_bigS_cons
  | x :: l, i + 1, h, L => by
    rw [sat_bigS_cons]
    have h' : i < l.length := by simpa using h
    have ih := @bigS_open α B w f l i h' (f x :: L)
    constructor
    · intro s
      have := ih.1 (s.perm (.swap _ _ _))
      have h2 : sat B (f x :: bigS f (l.eraseIdx i) :: f l[i] :: L) w := this.perm (by
        refine List.Perm.trans ?_ (List.Perm.cons _ (List.Perm.swap _ _ _))
        exact (List.Perm.cons _ (List.Perm.swap _ _ _)).trans (List.Perm.swap _ _ _))
      rw [← sat_bigS_cons] at h2
      exact h2.perm (.swap _ _ _)
    · intro s
      have h2 : sat B (f x :: bigS f (l.eraseIdx i) :: f l[i] :: L) w := sat_bigS_cons.1 (s.perm (.swap _ _ _))
      have h3 : sat B (f l[i] :: bigS f (l.eraseIdx i) :: f x :: L) w := h2.perm (by
        refine List.Perm.trans ?_ (List.Perm.cons _ (List.Perm.swap _ _ _))
        exact (List.Perm.cons _ (List.Perm.swap _ _ _)).trans (List.Perm.swap _ _ _))
      exact (ih.2 h3).perm (.swap _ _ _)

theorem eraseIdx_set {α : Type} : ∀ (l : List α) (i : Nat) (x : α), (l.set i x).eraseIdx i = l.eraseIdx i
  | [], _, _ => rfl
  | _ :: _, 0, _ => rfl
  | y :: l, i + 1, x => by simp [eraseIdx_set l i x]

theorem bigS_close {α : Type} {B : World} {w : World} {f : α → HProp} {l : List α} {i : Nat} (h : i < l.length) (x : α) (s : sat B (f x :: bigS f (l.eraseIdx i) :: L) w) : sat B (bigS f (l.set i x) :: L) w := by
  rw [bigS_open (i := i) (by simpa using h), eraseIdx_set]
  simpa using s

theorem bigS_app {α : Type} {B : World} {w : World} {f : α → HProp} : ∀ {l m : List α} {L : List HProp}, sat B (bigS f (l ++ m) :: L) w ↔ sat B (bigS f l :: bigS f m :: L) w
  | [], m, L => by
    constructor
    · intro s; exact sat_true (bigS_nil f) s
    · intro s; exact s.tail
  | x :: l, m, L => by
    rw [List.cons_append, sat_bigS_cons, sat_bigS_cons]
    constructor
    · intro s
      have := bigS_app.1 (s.perm (.swap _ _ _))
      exact this.perm (perm3' _ _ _ _)
    · intro s
      have := bigS_app.2 (s.perm (perm3 _ _ _ _))
      exact this.perm (.swap _ _ _)

theorem bigS_snoc {α : Type} {B : World} {w : World} {f : α → HProp} {l : List α} {x : α} : sat B (bigS f (l ++ [x]) :: L) w ↔ sat B (f x :: bigS f l :: L) w := by
  rw [bigS_app]
  constructor
  · intro s
    have := sat_bigS_cons.1 (s.perm (.swap _ _ _))
    exact (this.perm (.cons _ (.swap _ _ _))).perm (.refl _) |>.perm (by
      exact (List.Perm.refl _)) |> fun h => (h.perm (perm3 _ _ _ _)).perm (by exact List.Perm.refl _) |> fun h => by
        have h5 : sat B (bigS f l :: bigS f [] :: f x :: L) w := h
        have h6 : sat B (bigS f [] :: bigS f l :: f x :: L) w := h5.perm (.swap _ _ _)
        exact h6.tail.perm (.swap _ _ _)
  · intro s
    have h1 : sat B (bigS f [] :: f x :: bigS f l :: L) w := sat_true (bigS_nil f) s
    have h2 : sat B (f x :: bigS f [] :: bigS f l :: L) w := h1.perm (.swap _ _ _)
    exact (sat_bigS_cons.2 h2).perm (.swap _ _ _)

/-- A counter, as the machine has it. -/
def cnt (n : Int) : Int := IntKind.i64.wrap n
theorem cnt_add (n m : Int) : IntKind.i64.wrap (cnt n + m) = cnt (n + m) := by
  have h : ((if 9223372036854775808 ≤ n % 18446744073709551616 then n % 18446744073709551616 - 18446744073709551616 else n % 18446744073709551616) + m) % 18446744073709551616 = (n + m) % 18446744073709551616 := by
    split <;> omega
  unfold cnt IntKind.wrap
  simp only [IntKind.bits, IntKind.signed, Bool.true_and, decide_eq_true_eq, Int.reducePow, Nat.reduceSub, Int.reduceMul, Int.reduceNeg, ge_iff_le]
  rw [h]
instance (priority := high) pexec_count (t u : TypeId) (x y : Operand) (n m : Int) [e : EvO env x (.int .i64 (cnt n))] [f : EvO env y (.int .i64 m)] : PExec P (.binOp .add t x y u) ty env (.int .i64 (cnt (n + m))) := ⟨fun _ _ _ _ _ => by
  simp [execOp, e.h, f.h, binOp, eqGuard_add, Op.intArith, cnt_add]⟩
end

class AppH (X M : List HProp) (out : outParam (List HProp)) : Prop where h : X ++ M = out
instance appH_nil (M : List HProp) : AppH [] M M := ⟨rfl⟩
instance appH_cons (A : HProp) (X M out : List HProp) [h : AppH X M out] : AppH (A :: X) M (A :: out) := ⟨by rw [List.cons_append, h.h]⟩

theorem To.of {L M M' : List HProp} (t : To L M') (h : ∀ B Y w, sat B (M' ++ Y) w → sat B (M ++ Y) w) : To L M := ⟨fun B X w s => by
  have := h B X w ((t.out B X w s).perm List.perm_append_comm)
  exact this.perm List.perm_append_comm⟩

instance (priority := low) to_bigSnoc {α : Type} (f : α → HProp) (l : List α) (x : α) (L M : List HProp) [t : To L (f x :: bigS f l :: M)] : To L (bigS f (l ++ [x]) :: M) :=
  t.of fun _ _ _ s => bigS_snoc.2 s
instance (priority := low) to_bigNil {α : Type} (f : α → HProp) (L M : List HProp) [t : To L M] : To L (bigS f [] :: M) := t.of fun _ _ _ s => sat_true (bigS_nil f) s
instance (priority := low) to_ownNil {α : Type} [Rep α] (L M : List HProp) [t : To L M] : To L (ownS (⟨none, 0, []⟩ : Sl α) :: M) := t.of fun _ _ _ s => sat_true own_nil s
instance (priority := low) to_roNil {α : Type} [Rep α] (L M : List HProp) [t : To L M] : To L (roS (⟨none, 0, []⟩ : Sl α) :: M) := t.of fun _ _ _ s => sat_true ro_nil s
section
variable {P : Program} {env : Env} {L M F : List HProp} {B : World} {fn : Func} {post : Value → List HProp → Prop} {x : Exit}
theorem endQ.noneW (hr : fn.results = #[]) [f : Fin x] (hp : post (.tuple #[]) M) {MF : List HProp} [q : AppH M F MF] (hL : ∀ w, sat B L w → sat B MF w) : endQ P fn post B F x env L := ⟨f.h, _, M, resOf_none hr, hp, by rw [q.h]; exact hL⟩
theorem endQ.oneW {t : Nat} {v : Value} (hr : fn.results = #[.tmp t]) [f : Fin x] [e : Ev env t v] (hp : post v M) {MF : List HProp} [q : AppH M F MF] (hL : ∀ w, sat B L w → sat B MF w) : endQ P fn post B F x env L := ⟨f.h, _, M, resOf_one hr e.h, hp, by rw [q.h]; exact hL⟩
theorem endQ.twoW {t u : Nat} {v y : Value} (hr : fn.results = #[.tmp t, .tmp u]) [f : Fin x] [e : Ev env t v] [e' : Ev env u y] (hp : post (.tuple #[v, y]) M) {MF : List HProp} [q : AppH M F MF] (hL : ∀ w, sat B L w → sat B MF w) : endQ P fn post B F x env L :=
  ⟨f.h, _, M, resOf_two hr e.h e'.h, hp, by rw [q.h]; exact hL⟩
end

section
variable {P : Program} {env : Env} {L M F R : List HProp} {B : World} {fn : Func} {post : Value → List HProp → Prop} {x : Exit}
def resGo (tmps : Array Value) : ResultVar → Sem Value
  | .tmp t => pure (tmps.getD t undef)
  | .cell a t => do loadVar t (← asAddr (tmps.getD a undef))
class ResL (P : Program) (env : Env) (L : List HProp) (n : Nat) (rs : List ResultVar) (vs : outParam (List Value)) : Prop where
  h : ∀ B w a, rel n a env → sat B L w → (rs.mapM (resGo a.tmps)).run P w = .ok vs w
instance resL_nil (n : Nat) : ResL P env L n [] [] := ⟨fun _ _ _ _ _ => rfl⟩
instance resL_tmp (n t : Nat) (v : Value) (rs : List ResultVar) (vs : List Value) [e : Ev env t v] [r : ResL P env L n rs vs] : ResL P env L n (.tmp t :: rs) (v :: vs) := ⟨fun B w a hr hs => by
  have := r.h B w a hr hs
  simp only [List.mapM_cons, resGo, Sem.run_bind, Sem.run_pure, Result.andThen_ok, this, hr.tmps, e.h]⟩
instance resL_cell (n t ty r o k : Nat) (cs : List Value) (rs : List ResultVar) (vs : List Value) [e : Ev env t (.pointer (some ⟨r, o, none⟩))] [a : TAgg P ty true] [z : TSize P ty k] [l : LdN L r o k cs] [q : ResL P env L n rs vs] :
    ResL P env L n (.cell t ty :: rs) (.agg cs.toArray :: vs) := ⟨fun B w ac hr hs => by
  have h1 := q.h B w ac hr hs
  have hc : ∀ j v, cs[j]? = some v → w.cell? ((⟨r, o, none⟩ : Addr).add j) = some v := fun j v hj => by rw [Addr.add_lit]; exact l.h B w hs j v hj
  have h2 := run_loadCells_list (P := P) (w := w) ⟨r, o, none⟩ cs hc
  rw [l.len] at h2
  simp [List.mapM_cons, resGo, h1, hr.tmps, e.h, asAddr, loadVar, a.h, z.h, h2]⟩
class Tup (vs : List Value) (v : outParam Value) : Prop where h : (if h : vs.toArray.size = 1 then vs.toArray[0] else .tuple vs.toArray) = v
instance (priority := high) tup_one (v : Value) : Tup [v] v := ⟨rfl⟩
instance tup_more (v u : Value) (vs : List Value) : Tup (v :: u :: vs) (.tuple (v :: u :: vs).toArray) := ⟨by simp⟩

theorem resOf_all {rs : List ResultVar} {vs : List Value} {v : Value} (hr : fn.results = rs.toArray) (r : ResL P env L fn.ntmps rs vs) (t : Tup vs v) : resOf P B L fn env v := by
  intro w a hrel hs
  have h1 := r.h B w a hrel hs
  have e : results fn a.tmps = (do
    let vs ← rs.toArray.mapM (resGo a.tmps)
    pure (if h : vs.size = 1 then vs[0] else .tuple vs)) := by unfold results; rw [hr]; rfl
  rw [e, ← t.h]
  simp [h1]

theorem endQ.res {rs : List ResultVar} {vs : List Value} {v : Value} (hr : fn.results = rs.toArray) [f : Fin x] [r : ResL P env L fn.ntmps rs vs] [t : Tup vs v] (hp : post v M) [p : Picks M L R] [tl : Tl R F] : endQ P fn post B F x env L :=
  ⟨f.h, v, M, resOf_all hr r t, hp, fun _ hs => to_state p tl hs⟩
theorem endQ.resW {rs : List ResultVar} {vs : List Value} {v : Value} (hr : fn.results = rs.toArray) [f : Fin x] [r : ResL P env L fn.ntmps rs vs] [t : Tup vs v] (hp : post v M) {MF : List HProp} [q : AppH M F MF] (hL : ∀ w, sat B L w → sat B MF w) : endQ P fn post B F x env L :=
  ⟨f.h, v, M, resOf_all hr r t, hp, by rw [q.h]; exact hL⟩
end

class OneL (l : List Value) : Prop where h : ∀ v ∈ l, v.oneCell' = true
instance oneL_nil : OneL [] := ⟨fun _ h => by cases h⟩
instance oneL_cons (v : Value) (l : List Value) [o : One v] [r : OneL l] : OneL (v :: l) := ⟨fun u hu => by
  rcases List.mem_cons.1 hu with rfl | h
  · exact o.h
  · exact r.h u h⟩
class StN (P : Program) (L : List HProp) (r o : Nat) (cs : List Value) (L' : outParam (List HProp)) : Prop where
  h : ∀ B X w, sat B (L ++ X) w → ∃ w', (storeCells ⟨r, o, none⟩ cs).run P w = .ok () w' ∧ sat B (L' ++ X) w'
instance (priority := high) stn_here (P : Program) (r o₀ o i : Nat) (vs cs us : List Value) (L : List HProp) [q : OffIs o o₀ i] [n : PutC vs i cs us] [ol : OneL cs] : StN P (cells true r o₀ vs :: L) r o cs (cells true r o₀ us :: L) :=
  ⟨fun B X w hs => by
    obtain ⟨w', h1, h2⟩ := store_run (P := P) (B := B) (r := r) (o := o₀) cs i 0 vs (L ++ X) w hs (by have := n.le; omega) ol.h
    refine ⟨w', by rw [q.h]; exact h1, ?_⟩
    rw [Nat.add_zero, ← n.h] at h2
    exact h2⟩
instance (priority := low) stn_next (P : Program) (A : HProp) (r o : Nat) (cs : List Value) (L L' : List HProp) [s : StN P L r o cs L'] : StN P (A :: L) r o cs (A :: L') :=
  ⟨fun B X w hs => by
    obtain ⟨w', h1, h2⟩ := s.h B (A :: X) w (hs.perm List.perm_middle.symm)
    exact ⟨w', h1, h2.perm List.perm_middle⟩⟩
instance exec_storeN (P : Program) (env : Env) (ty : TypeId) (L : List HProp) (t : TypeId) (x y : Operand) (r o k : Nat) (cs : List Value) (L' : List HProp) [e : EvO env x (.pointer (some ⟨r, o, none⟩))] [f : EvO env y (.agg cs.toArray)] [a : TSize P t k]
    [l : LenIs cs k] [s : StN P L r o cs L'] : Exec P (.store t x y) ty env L (fun K => K undef L') :=
  ⟨fun B dst pos after guard K hk w hs => by
    obtain ⟨w', h1, h2⟩ := s.h B [] w (by simpa using hs)
    exact .inr (.inl ⟨w', L', by
      have := l.h
      simp [execOp, e.h, f.h, Instr.storeAt, Instr.sureAddr, storeVar, a.h, Value.cells, this, h1], by simpa using h2, hk⟩)⟩

end Go.SL
namespace Go.SL
open Go.Proofs
instance ts3 : TSize Tryz.prog 3 1 := ⟨Tryz.sizeOf3⟩
instance ta3 : TAgg Tryz.prog 3 false := ⟨Tryz.isAgg3⟩
instance tz3 : TZero Tryz.prog 3 (.int .i64 0) := ⟨Tryz.zeroValue3⟩
instance ti3 : TI Tryz.prog 3 1 8 [.int .i64 0] := TI.mk' Tryz.type3 rfl rfl (z := .int .i64 0) rfl rfl rfl
instance tu3 : TUnd Tryz.prog 3 (.int .i64) := ⟨Tryz.underlying3⟩
instance ts4 : TSize Tryz.prog 4 1 := ⟨Tryz.sizeOf4⟩
instance ta4 : TAgg Tryz.prog 4 false := ⟨Tryz.isAgg4⟩
instance ti4 : TI Tryz.prog 4 1 1 [.bool false] := TI.mk' Tryz.type4 rfl rfl (z := .bool false) rfl rfl rfl
instance tr4 : ZRep Tryz.prog 4 Bool rep_bool false := ZRep.mk' rfl rfl (fun _ => trivial)
instance ts5 : TSize Tryz.prog 5 1 := ⟨Tryz.sizeOf5⟩
instance ta5 : TAgg Tryz.prog 5 false := ⟨Tryz.isAgg5⟩
instance tz5 : TZero Tryz.prog 5 (.int .u8 0) := ⟨Tryz.zeroValue5⟩
instance ti5 : TI Tryz.prog 5 1 1 [.int .u8 0] := TI.mk' Tryz.type5 rfl rfl (z := .int .u8 0) rfl rfl rfl
instance tr5 : ZRep Tryz.prog 5 UInt8 rep_byte 0 := ZRep.mk' rfl rfl (fun _ => trivial)
instance tu5 : TUnd Tryz.prog 5 (.int .u8) := ⟨Tryz.underlying5⟩
instance ts23 : TSize Tryz.prog 23 2 := ⟨Tryz.sizeOf23⟩
instance ta23 : TAgg Tryz.prog 23 true := ⟨Tryz.isAgg23⟩
instance tz23 : TZero Tryz.prog 23 (.agg #[.int .i64 0, .int .i64 0]) := ⟨Tryz.zeroValue23⟩
instance tp23 : TPlaces Tryz.prog 23 [(0, 1), (1, 1)] := TPlaces.mk' Tryz.underlying23 (by simp [Tryz.sizeOf3])
instance tf23x0 : TField Tryz.prog 23 0 0 := TField.mk' Tryz.underlying23 rfl Tryz.sizeOf3 rfl rfl
instance tf23x1 : TField Tryz.prog 23 1 1 := TField.mk' Tryz.underlying23 rfl Tryz.sizeOf3 rfl rfl
instance ts24 : TSize Tryz.prog 24 1 := ⟨Tryz.sizeOf24⟩
instance ta24 : TAgg Tryz.prog 24 false := ⟨Tryz.isAgg24⟩
instance tu24 : TUnd Tryz.prog 24 (.slice 3) := ⟨Tryz.underlying24⟩
instance ta27 : TAgg Tryz.prog 27 false := ⟨Tryz.isAgg27⟩
instance tu27 : TUnd Tryz.prog 27 (.pointer 67) := ⟨Tryz.underlying27⟩
instance ts28 : TSize Tryz.prog 28 1 := ⟨Tryz.sizeOf28⟩
instance ta31 : TAgg Tryz.prog 31 false := ⟨Tryz.isAgg31⟩
instance tu31 : TUnd Tryz.prog 31 (.pointer 79) := ⟨Tryz.underlying31⟩
instance ta39 : TAgg Tryz.prog 39 false := ⟨Tryz.isAgg39⟩
instance tu39 : TUnd Tryz.prog 39 (.slice 43) := ⟨Tryz.underlying39⟩
instance ts40 : TSize Tryz.prog 40 1 := ⟨Tryz.sizeOf40⟩
instance ta40 : TAgg Tryz.prog 40 false := ⟨Tryz.isAgg40⟩
instance tz40 : TZero Tryz.prog 40 (.slice none 0 0) := ⟨Tryz.zeroValue40⟩
instance ti40 : TI Tryz.prog 40 1 24 [.slice none 0 0] := TI.mk' Tryz.type40 rfl rfl (z := .slice none 0 0) rfl rfl rfl
instance tu40 : TUnd Tryz.prog 40 (.slice 5) := ⟨Tryz.underlying40⟩
instance ts43 : TSize Tryz.prog 43 2 := ⟨Tryz.sizeOf43⟩
instance ta43 : TAgg Tryz.prog 43 true := ⟨Tryz.isAgg43⟩
instance tz43 : TZero Tryz.prog 43 (.agg #[.int .i64 0, .slice none 0 0]) := ⟨Tryz.zeroValue43⟩
instance ti43 : TI Tryz.prog 43 2 32 [.int .i64 0, .slice none 0 0] := TI.mk' Tryz.type43 rfl rfl (z := .agg #[.int .i64 0, .slice none 0 0]) rfl rfl rfl
instance tp43 : TPlaces Tryz.prog 43 [(0, 1), (1, 1)] := TPlaces.mk' Tryz.underlying43 (by simp [Tryz.sizeOf3, Tryz.sizeOf40])
instance tf43x0 : TField Tryz.prog 43 0 0 := TField.mk' Tryz.underlying43 rfl Tryz.sizeOf3 rfl rfl
instance tf43x1 : TField Tryz.prog 43 1 1 := TField.mk' Tryz.underlying43 rfl Tryz.sizeOf40 rfl rfl
instance tz60 : TZero Tryz.prog 60 (.agg #[.pointer none, .pointer none, .pointer none, .int .i64 0]) := ⟨Tryz.zeroValue60⟩
instance tp60 : TPlaces Tryz.prog 60 [(0, 1), (1, 1), (2, 1), (3, 1)] := TPlaces.mk' Tryz.underlying60 (by simp [Tryz.sizeOf27, Tryz.sizeOf3, Tryz.sizeOf31, Tryz.sizeOf58])
instance tf60x0 : TField Tryz.prog 60 0 0 := TField.mk' Tryz.underlying60 rfl Tryz.sizeOf27 rfl rfl
instance tf60x1 : TField Tryz.prog 60 1 1 := TField.mk' Tryz.underlying60 rfl Tryz.sizeOf31 rfl rfl
instance tu62 : TUnd Tryz.prog 62 (.slice 4) := ⟨Tryz.underlying62⟩
instance ts65 : TSize Tryz.prog 65 1 := ⟨Tryz.sizeOf65⟩
instance ta65 : TAgg Tryz.prog 65 false := ⟨Tryz.isAgg65⟩
instance tu65 : TUnd Tryz.prog 65 (.slice 68) := ⟨Tryz.underlying65⟩
instance tz67 : TZero Tryz.prog 67 (.agg #[.int .i64 0, .int .i64 0, .slice none 0 0, .int .i64 0, .int .i64 0, .bool false, .int .i64 0, .bool false]) := ⟨Tryz.zeroValue67⟩
instance tp67 : TPlaces Tryz.prog 67 [(0, 2), (2, 1), (3, 1), (4, 1), (5, 1), (6, 1), (7, 1)] := TPlaces.mk' Tryz.underlying67 (by simp [Tryz.sizeOf23, Tryz.sizeOf3, Tryz.sizeOf4, Tryz.sizeOf65])
instance tf67x0 : TField Tryz.prog 67 0 0 := TField.mk' Tryz.underlying67 rfl Tryz.sizeOf23 rfl rfl
instance tf67x1 : TField Tryz.prog 67 1 2 := TField.mk' Tryz.underlying67 rfl Tryz.sizeOf65 rfl rfl
instance tf67x2 : TField Tryz.prog 67 2 3 := TField.mk' Tryz.underlying67 rfl Tryz.sizeOf3 rfl rfl
instance tf67x3 : TField Tryz.prog 67 3 4 := TField.mk' Tryz.underlying67 rfl Tryz.sizeOf3 rfl rfl
instance tf67x4 : TField Tryz.prog 67 4 5 := TField.mk' Tryz.underlying67 rfl Tryz.sizeOf4 rfl rfl
instance tf67x5 : TField Tryz.prog 67 5 6 := TField.mk' Tryz.underlying67 rfl Tryz.sizeOf3 rfl rfl
instance tf67x6 : TField Tryz.prog 67 6 7 := TField.mk' Tryz.underlying67 rfl Tryz.sizeOf4 rfl rfl
instance ts68 : TSize Tryz.prog 68 1 := ⟨Tryz.sizeOf68⟩
instance ta68 : TAgg Tryz.prog 68 false := ⟨Tryz.isAgg68⟩
instance tz68 : TZero Tryz.prog 68 (.pointer none) := ⟨Tryz.zeroValue68⟩
instance ti68 : TI Tryz.prog 68 1 8 [.pointer none] := TI.mk' Tryz.type68 rfl rfl (z := .pointer none) rfl rfl rfl
instance tu68 : TUnd Tryz.prog 68 (.pointer 71) := ⟨Tryz.underlying68⟩
instance ts69 : TSize Tryz.prog 69 1 := ⟨Tryz.sizeOf69⟩
instance ta69 : TAgg Tryz.prog 69 false := ⟨Tryz.isAgg69⟩
instance tu69 : TUnd Tryz.prog 69 (.slice 40) := ⟨Tryz.underlying69⟩
instance ts71 : TSize Tryz.prog 71 2 := ⟨Tryz.sizeOf71⟩
instance tz71 : TZero Tryz.prog 71 (.agg #[.slice none 0 0, .int .i64 0]) := ⟨Tryz.zeroValue71⟩
instance tp71 : TPlaces Tryz.prog 71 [(0, 1), (1, 1)] := TPlaces.mk' Tryz.underlying71 (by simp [Tryz.sizeOf3, Tryz.sizeOf69])
instance tf71x0 : TField Tryz.prog 71 0 0 := TField.mk' Tryz.underlying71 rfl Tryz.sizeOf69 rfl rfl
instance tf71x1 : TField Tryz.prog 71 1 1 := TField.mk' Tryz.underlying71 rfl Tryz.sizeOf3 rfl rfl
instance ts73 : TSize Tryz.prog 73 4 := ⟨Tryz.sizeOf73⟩
instance ta73 : TAgg Tryz.prog 73 true := ⟨Tryz.isAgg73⟩
instance tz73 : TZero Tryz.prog 73 (.agg #[.int .i64 0, .int .i64 0, .int .i64 0, .int .i64 0]) := ⟨Tryz.zeroValue73⟩
instance tp73 : TPlaces Tryz.prog 73 [(0, 1), (1, 1), (2, 1), (3, 1)] := TPlaces.mk' Tryz.underlying73 (by simp [Tryz.sizeOf3])
instance tf73x0 : TField Tryz.prog 73 0 0 := TField.mk' Tryz.underlying73 rfl Tryz.sizeOf3 rfl rfl
instance tf73x1 : TField Tryz.prog 73 1 1 := TField.mk' Tryz.underlying73 rfl Tryz.sizeOf3 rfl rfl
instance tf73x2 : TField Tryz.prog 73 2 2 := TField.mk' Tryz.underlying73 rfl Tryz.sizeOf3 rfl rfl
instance tf73x3 : TField Tryz.prog 73 3 3 := TField.mk' Tryz.underlying73 rfl Tryz.sizeOf3 rfl rfl
instance ts76 : TSize Tryz.prog 76 1 := ⟨Tryz.sizeOf76⟩
instance ta76 : TAgg Tryz.prog 76 false := ⟨Tryz.isAgg76⟩
instance tu76 : TUnd Tryz.prog 76 (.pointer 145) := ⟨Tryz.underlying76⟩
instance ts77 : TSize Tryz.prog 77 1 := ⟨Tryz.sizeOf77⟩
instance ta77 : TAgg Tryz.prog 77 false := ⟨Tryz.isAgg77⟩
instance tu77 : TUnd Tryz.prog 77 (.pointer 122) := ⟨Tryz.underlying77⟩
instance tz79 : TZero Tryz.prog 79 (.agg #[.pointer none, .int .i64 0, .int .i64 0, .int .i64 0, .int .i64 0, .pointer none, .pointer none, .int .i64 0, .int .i64 0, .bool false]) := ⟨Tryz.zeroValue79⟩
instance tp79 : TPlaces Tryz.prog 79 [(0, 1), (1, 4), (5, 1), (6, 1), (7, 1), (8, 1), (9, 1)] := TPlaces.mk' Tryz.underlying79 (by simp [Tryz.sizeOf27, Tryz.sizeOf3, Tryz.sizeOf4, Tryz.sizeOf73, Tryz.sizeOf76, Tryz.sizeOf77])
instance tf79x0 : TField Tryz.prog 79 0 0 := TField.mk' Tryz.underlying79 rfl Tryz.sizeOf27 rfl rfl
instance tf79x1 : TField Tryz.prog 79 1 1 := TField.mk' Tryz.underlying79 rfl Tryz.sizeOf73 rfl rfl
instance tf79x2 : TField Tryz.prog 79 2 5 := TField.mk' Tryz.underlying79 rfl Tryz.sizeOf76 rfl rfl
instance tf79x3 : TField Tryz.prog 79 3 6 := TField.mk' Tryz.underlying79 rfl Tryz.sizeOf77 rfl rfl
instance tf79x4 : TField Tryz.prog 79 4 7 := TField.mk' Tryz.underlying79 rfl Tryz.sizeOf3 rfl rfl
instance tf79x5 : TField Tryz.prog 79 5 8 := TField.mk' Tryz.underlying79 rfl Tryz.sizeOf3 rfl rfl
instance tf79x6 : TField Tryz.prog 79 6 9 := TField.mk' Tryz.underlying79 rfl Tryz.sizeOf4 rfl rfl
instance ta94 : TAgg Tryz.prog 94 false := ⟨Tryz.isAgg94⟩
instance tu94 : TUnd Tryz.prog 94 (.map 3 40) := ⟨Tryz.underlying94⟩
instance tz96 : TZero Tryz.prog 96 (.agg #[.int .i64 0, .map none]) := ⟨Tryz.zeroValue96⟩
instance tp96 : TPlaces Tryz.prog 96 [(0, 1), (1, 1)] := TPlaces.mk' Tryz.underlying96 (by simp [Tryz.sizeOf3, Tryz.sizeOf94])
instance tf96x0 : TField Tryz.prog 96 0 0 := TField.mk' Tryz.underlying96 rfl Tryz.sizeOf3 rfl rfl
instance tf96x1 : TField Tryz.prog 96 1 1 := TField.mk' Tryz.underlying96 rfl Tryz.sizeOf94 rfl rfl
instance ts99 : TSize Tryz.prog 99 1 := ⟨Tryz.sizeOf99⟩
instance ta99 : TAgg Tryz.prog 99 false := ⟨Tryz.isAgg99⟩
instance tu99 : TUnd Tryz.prog 99 (.slice 137) := ⟨Tryz.underlying99⟩
instance ts101 : TSize Tryz.prog 101 2 := ⟨Tryz.sizeOf101⟩
instance ta101 : TAgg Tryz.prog 101 true := ⟨Tryz.isAgg101⟩
instance tz101 : TZero Tryz.prog 101 (.agg #[.int .i64 0, .slice none 0 0]) := ⟨Tryz.zeroValue101⟩
instance tp101 : TPlaces Tryz.prog 101 [(0, 1), (1, 1)] := TPlaces.mk' Tryz.underlying101 (by simp [Tryz.sizeOf3, Tryz.sizeOf99])
instance tf101x0 : TField Tryz.prog 101 0 0 := TField.mk' Tryz.underlying101 rfl Tryz.sizeOf3 rfl rfl
instance tf101x1 : TField Tryz.prog 101 1 1 := TField.mk' Tryz.underlying101 rfl Tryz.sizeOf99 rfl rfl
instance ts114 : TSize Tryz.prog 114 4 := ⟨Tryz.sizeOf114⟩
instance ta114 : TAgg Tryz.prog 114 true := ⟨Tryz.isAgg114⟩
instance tz114 : TZero Tryz.prog 114 (.agg #[.int .i64 0, .int .i64 0, .int .i64 0, .int .i64 0]) := ⟨Tryz.zeroValue114⟩
instance tp114 : TPlaces Tryz.prog 114 [(0, 1), (1, 1), (2, 1), (3, 1)] := TPlaces.mk' Tryz.underlying114 (by simp [Tryz.sizeOf3])
instance tf114x1 : TField Tryz.prog 114 1 1 := TField.mk' Tryz.underlying114 rfl Tryz.sizeOf3 rfl rfl
instance tz120 : TZero Tryz.prog 120 (.agg #[.int .i64 0, .int .i64 0, .int .i64 0]) := ⟨Tryz.zeroValue120⟩
instance tu120 : TUnd Tryz.prog 120 (.array 3 3) := ⟨Tryz.underlying120⟩
instance tz122 : TZero Tryz.prog 122 (.agg #[.pointer none, .int .i64 0, .int .i64 0, .int .i64 0, .int .i64 0, .int .i64 0, .slice none 0 0, .int .i64 0, .bool false]) := ⟨Tryz.zeroValue122⟩
instance tp122 : TPlaces Tryz.prog 122 [(0, 1), (1, 3), (4, 1), (5, 1), (6, 1), (7, 1), (8, 1)] := TPlaces.mk' Tryz.underlying122 (by simp [Tryz.sizeOf120, Tryz.sizeOf27, Tryz.sizeOf3, Tryz.sizeOf4, Tryz.sizeOf40])
instance tf122x0 : TField Tryz.prog 122 0 0 := TField.mk' Tryz.underlying122 rfl Tryz.sizeOf27 rfl rfl
instance tf122x1 : TField Tryz.prog 122 1 1 := TField.mk' Tryz.underlying122 rfl Tryz.sizeOf120 rfl rfl
instance tf122x2 : TField Tryz.prog 122 2 4 := TField.mk' Tryz.underlying122 rfl Tryz.sizeOf3 rfl rfl
instance tf122x3 : TField Tryz.prog 122 3 5 := TField.mk' Tryz.underlying122 rfl Tryz.sizeOf3 rfl rfl
instance tf122x4 : TField Tryz.prog 122 4 6 := TField.mk' Tryz.underlying122 rfl Tryz.sizeOf40 rfl rfl
instance tf122x5 : TField Tryz.prog 122 5 7 := TField.mk' Tryz.underlying122 rfl Tryz.sizeOf3 rfl rfl
instance tf122x6 : TField Tryz.prog 122 6 8 := TField.mk' Tryz.underlying122 rfl Tryz.sizeOf4 rfl rfl
instance tu125 : TUnd Tryz.prog 125 (.int .u64) := ⟨Tryz.underlying125⟩
instance ts128 : TSize Tryz.prog 128 1 := ⟨Tryz.sizeOf128⟩
instance ta128 : TAgg Tryz.prog 128 false := ⟨Tryz.isAgg128⟩
instance tu128 : TUnd Tryz.prog 128 (.int .u32) := ⟨Tryz.underlying128⟩
instance ts137 : TSize Tryz.prog 137 2 := ⟨Tryz.sizeOf137⟩
instance ta137 : TAgg Tryz.prog 137 true := ⟨Tryz.isAgg137⟩
instance tz137 : TZero Tryz.prog 137 (.agg #[.int .i64 0, .slice none 0 0]) := ⟨Tryz.zeroValue137⟩
instance ti137 : TI Tryz.prog 137 2 32 [.int .i64 0, .slice none 0 0] := TI.mk' Tryz.type137 rfl rfl (z := .agg #[.int .i64 0, .slice none 0 0]) rfl rfl rfl
instance tp137 : TPlaces Tryz.prog 137 [(0, 1), (1, 1)] := TPlaces.mk' Tryz.underlying137 (by simp [Tryz.sizeOf3, Tryz.sizeOf39])
instance tf137x0 : TField Tryz.prog 137 0 0 := TField.mk' Tryz.underlying137 rfl Tryz.sizeOf3 rfl rfl
instance tf137x1 : TField Tryz.prog 137 1 1 := TField.mk' Tryz.underlying137 rfl Tryz.sizeOf39 rfl rfl
instance ta138 : TAgg Tryz.prog 138 false := ⟨Tryz.isAgg138⟩
instance tu138 : TUnd Tryz.prog 138 (.pointer 193) := ⟨Tryz.underlying138⟩
instance ta141 : TAgg Tryz.prog 141 false := ⟨Tryz.isAgg141⟩
instance tu141 : TUnd Tryz.prog 141 (.pointer 196) := ⟨Tryz.underlying141⟩
instance ta143 : TAgg Tryz.prog 143 false := ⟨Tryz.isAgg143⟩
instance tu143 : TUnd Tryz.prog 143 (.map 3 154) := ⟨Tryz.underlying143⟩
instance tz145 : TZero Tryz.prog 145 (.agg #[.pointer none, .pointer none, .map none, .slice none 0 0, .int .i64 0, .int .i64 0, .int .i64 0, .int .i64 0, .int .i64 0, .bool false]) := ⟨Tryz.zeroValue145⟩
instance tp145 : TPlaces Tryz.prog 145 [(0, 1), (1, 1), (2, 1), (3, 1), (4, 1), (5, 1), (6, 1), (7, 1), (8, 1), (9, 1)] := TPlaces.mk' Tryz.underlying145 (by simp [Tryz.sizeOf138, Tryz.sizeOf141, Tryz.sizeOf143, Tryz.sizeOf24, Tryz.sizeOf3, Tryz.sizeOf4])
instance tf145x0 : TField Tryz.prog 145 0 0 := TField.mk' Tryz.underlying145 rfl Tryz.sizeOf138 rfl rfl
instance tf145x1 : TField Tryz.prog 145 1 1 := TField.mk' Tryz.underlying145 rfl Tryz.sizeOf141 rfl rfl
instance tf145x2 : TField Tryz.prog 145 2 2 := TField.mk' Tryz.underlying145 rfl Tryz.sizeOf143 rfl rfl
instance tf145x3 : TField Tryz.prog 145 3 3 := TField.mk' Tryz.underlying145 rfl Tryz.sizeOf24 rfl rfl
instance tf145x4 : TField Tryz.prog 145 4 4 := TField.mk' Tryz.underlying145 rfl Tryz.sizeOf3 rfl rfl
instance tf145x5 : TField Tryz.prog 145 5 5 := TField.mk' Tryz.underlying145 rfl Tryz.sizeOf3 rfl rfl
instance tf145x6 : TField Tryz.prog 145 6 6 := TField.mk' Tryz.underlying145 rfl Tryz.sizeOf3 rfl rfl
instance tf145x7 : TField Tryz.prog 145 7 7 := TField.mk' Tryz.underlying145 rfl Tryz.sizeOf3 rfl rfl
instance tf145x8 : TField Tryz.prog 145 8 8 := TField.mk' Tryz.underlying145 rfl Tryz.sizeOf3 rfl rfl
instance tf145x9 : TField Tryz.prog 145 9 9 := TField.mk' Tryz.underlying145 rfl Tryz.sizeOf4 rfl rfl
instance ta151 : TAgg Tryz.prog 151 false := ⟨Tryz.isAgg151⟩
instance tu151 : TUnd Tryz.prog 151 (.pointer 205) := ⟨Tryz.underlying151⟩
instance tz154 : TZero Tryz.prog 154 (.pointer none) := ⟨Tryz.zeroValue154⟩
instance tu154 : TUnd Tryz.prog 154 (.pointer 158) := ⟨Tryz.underlying154⟩
instance ta155 : TAgg Tryz.prog 155 false := ⟨Tryz.isAgg155⟩
instance tu155 : TUnd Tryz.prog 155 (.pointer 210) := ⟨Tryz.underlying155⟩
instance tz158 : TZero Tryz.prog 158 (.agg #[.int .i64 0, .int .i64 0, .int .i64 0, .int .i64 0, .pointer none, .pointer none]) := ⟨Tryz.zeroValue158⟩
instance tp158 : TPlaces Tryz.prog 158 [(0, 1), (1, 1), (2, 1), (3, 1), (4, 1), (5, 1)] := TPlaces.mk' Tryz.underlying158 (by simp [Tryz.sizeOf151, Tryz.sizeOf155, Tryz.sizeOf28, Tryz.sizeOf3])
instance tf158x0 : TField Tryz.prog 158 0 0 := TField.mk' Tryz.underlying158 rfl Tryz.sizeOf3 rfl rfl
instance tf158x1 : TField Tryz.prog 158 1 1 := TField.mk' Tryz.underlying158 rfl Tryz.sizeOf3 rfl rfl
instance tf158x2 : TField Tryz.prog 158 2 2 := TField.mk' Tryz.underlying158 rfl Tryz.sizeOf28 rfl rfl
instance tf158x3 : TField Tryz.prog 158 3 3 := TField.mk' Tryz.underlying158 rfl Tryz.sizeOf3 rfl rfl
instance tf158x4 : TField Tryz.prog 158 4 4 := TField.mk' Tryz.underlying158 rfl Tryz.sizeOf151 rfl rfl
instance tf158x5 : TField Tryz.prog 158 5 5 := TField.mk' Tryz.underlying158 rfl Tryz.sizeOf155 rfl rfl
instance tz177 : TZero Tryz.prog 177 (.agg #[.int .i64 0, .slice none 0 0, .slice none 0 0, .int .i64 0]) := ⟨Tryz.zeroValue177⟩
instance tp177 : TPlaces Tryz.prog 177 [(0, 1), (1, 1), (2, 1), (3, 1)] := TPlaces.mk' Tryz.underlying177 (by simp [Tryz.sizeOf24, Tryz.sizeOf3])
instance tz180 : TZero Tryz.prog 180 (.agg #[.pointer none, .int .i64 0, .slice none 0 0, .slice none 0 0, .int .i64 0, .slice none 0 0, .slice none 0 0, .slice none 0 0, .int .i64 0, .int .i64 0, .int .i64 0, .int .i64 0, .bool false, .int .i64 0, .int .i64 0]) := ⟨Tryz.zeroValue180⟩
instance tp180 : TPlaces Tryz.prog 180 [(0, 1), (1, 4), (5, 1), (6, 1), (7, 1), (8, 1), (9, 1), (10, 1), (11, 1), (12, 1), (13, 1), (14, 1)] := TPlaces.mk' Tryz.underlying180 (by simp [Tryz.sizeOf173, Tryz.sizeOf177, Tryz.sizeOf178, Tryz.sizeOf24, Tryz.sizeOf3, Tryz.sizeOf4, Tryz.sizeOf99])
instance ts183 : TSize Tryz.prog 183 5 := ⟨Tryz.sizeOf183⟩
instance ta183 : TAgg Tryz.prog 183 true := ⟨Tryz.isAgg183⟩
instance tz183 : TZero Tryz.prog 183 (.agg #[.int .i64 0, .int .i64 0, .int .i64 0, .int .i64 0, .slice none 0 0]) := ⟨Tryz.zeroValue183⟩
instance ti183 : TI Tryz.prog 183 5 56 [.int .i64 0, .int .i64 0, .int .i64 0, .int .i64 0, .slice none 0 0] := TI.mk' Tryz.type183 rfl rfl (z := .agg #[.int .i64 0, .int .i64 0, .int .i64 0, .int .i64 0, .slice none 0 0]) rfl rfl rfl
instance tp183 : TPlaces Tryz.prog 183 [(0, 1), (1, 1), (2, 1), (3, 1), (4, 1)] := TPlaces.mk' Tryz.underlying183 (by simp [Tryz.sizeOf3, Tryz.sizeOf40])
instance tf183x0 : TField Tryz.prog 183 0 0 := TField.mk' Tryz.underlying183 rfl Tryz.sizeOf3 rfl rfl
instance tf183x1 : TField Tryz.prog 183 1 1 := TField.mk' Tryz.underlying183 rfl Tryz.sizeOf3 rfl rfl
instance tf183x2 : TField Tryz.prog 183 2 2 := TField.mk' Tryz.underlying183 rfl Tryz.sizeOf3 rfl rfl
instance tf183x3 : TField Tryz.prog 183 3 3 := TField.mk' Tryz.underlying183 rfl Tryz.sizeOf3 rfl rfl
instance tf183x4 : TField Tryz.prog 183 4 4 := TField.mk' Tryz.underlying183 rfl Tryz.sizeOf40 rfl rfl
instance ta191 : TAgg Tryz.prog 191 false := ⟨Tryz.isAgg191⟩
instance tu191 : TUnd Tryz.prog 191 (.map 3 200) := ⟨Tryz.underlying191⟩
instance tz193 : TZero Tryz.prog 193 (.agg #[.int .i64 0, .map none, .int .i64 0]) := ⟨Tryz.zeroValue193⟩
instance tp193 : TPlaces Tryz.prog 193 [(0, 1), (1, 1), (2, 1)] := TPlaces.mk' Tryz.underlying193 (by simp [Tryz.sizeOf191, Tryz.sizeOf3])
instance tf193x0 : TField Tryz.prog 193 0 0 := TField.mk' Tryz.underlying193 rfl Tryz.sizeOf3 rfl rfl
instance tf193x1 : TField Tryz.prog 193 1 1 := TField.mk' Tryz.underlying193 rfl Tryz.sizeOf191 rfl rfl
instance tf193x2 : TField Tryz.prog 193 2 2 := TField.mk' Tryz.underlying193 rfl Tryz.sizeOf3 rfl rfl
instance ta194 : TAgg Tryz.prog 194 false := ⟨Tryz.isAgg194⟩
instance tu194 : TUnd Tryz.prog 194 (.map 3 3) := ⟨Tryz.underlying194⟩
instance tz196 : TZero Tryz.prog 196 (.agg #[.int .i64 0, .int .i64 0, .map none]) := ⟨Tryz.zeroValue196⟩
instance tp196 : TPlaces Tryz.prog 196 [(0, 1), (1, 1), (2, 1)] := TPlaces.mk' Tryz.underlying196 (by simp [Tryz.sizeOf194, Tryz.sizeOf3])
instance tf196x0 : TField Tryz.prog 196 0 0 := TField.mk' Tryz.underlying196 rfl Tryz.sizeOf3 rfl rfl
instance tf196x1 : TField Tryz.prog 196 1 1 := TField.mk' Tryz.underlying196 rfl Tryz.sizeOf3 rfl rfl
instance tf196x2 : TField Tryz.prog 196 2 2 := TField.mk' Tryz.underlying196 rfl Tryz.sizeOf194 rfl rfl
instance tz200 : TZero Tryz.prog 200 (.slice none 0 0) := ⟨Tryz.zeroValue200⟩
instance tu200 : TUnd Tryz.prog 200 (.slice 202) := ⟨Tryz.underlying200⟩
instance ts202 : TSize Tryz.prog 202 2 := ⟨Tryz.sizeOf202⟩
instance tz202 : TZero Tryz.prog 202 (.agg #[.int .i64 0, .slice none 0 0]) := ⟨Tryz.zeroValue202⟩
instance ti202 : TI Tryz.prog 202 2 32 [.int .i64 0, .slice none 0 0] := TI.mk' Tryz.type202 rfl rfl (z := .agg #[.int .i64 0, .slice none 0 0]) rfl rfl rfl
instance tp202 : TPlaces Tryz.prog 202 [(0, 1), (1, 1)] := TPlaces.mk' Tryz.underlying202 (by simp [Tryz.sizeOf3, Tryz.sizeOf40])
instance tf202x0 : TField Tryz.prog 202 0 0 := TField.mk' Tryz.underlying202 rfl Tryz.sizeOf3 rfl rfl
instance tf202x1 : TField Tryz.prog 202 1 1 := TField.mk' Tryz.underlying202 rfl Tryz.sizeOf40 rfl rfl
instance tz205 : TZero Tryz.prog 205 (.agg #[.int .i64 0, .int .i64 0, .map none]) := ⟨Tryz.zeroValue205⟩
instance tp205 : TPlaces Tryz.prog 205 [(0, 1), (1, 1), (2, 1)] := TPlaces.mk' Tryz.underlying205 (by simp [Tryz.sizeOf3, Tryz.sizeOf94])
instance tf205x0 : TField Tryz.prog 205 0 0 := TField.mk' Tryz.underlying205 rfl Tryz.sizeOf3 rfl rfl
instance tf205x1 : TField Tryz.prog 205 1 1 := TField.mk' Tryz.underlying205 rfl Tryz.sizeOf3 rfl rfl
instance tf205x2 : TField Tryz.prog 205 2 2 := TField.mk' Tryz.underlying205 rfl Tryz.sizeOf94 rfl rfl
instance ts206 : TSize Tryz.prog 206 1 := ⟨Tryz.sizeOf206⟩
instance ta206 : TAgg Tryz.prog 206 false := ⟨Tryz.isAgg206⟩
instance tu206 : TUnd Tryz.prog 206 (.pointer 232) := ⟨Tryz.underlying206⟩
instance tz210 : TZero Tryz.prog 210 (.agg #[.pointer none, .pointer none, .int .i64 0, .pointer none, .slice none 0 0]) := ⟨Tryz.zeroValue210⟩
instance tp210 : TPlaces Tryz.prog 210 [(0, 1), (1, 1), (2, 1), (3, 1), (4, 1)] := TPlaces.mk' Tryz.underlying210 (by simp [Tryz.sizeOf138, Tryz.sizeOf151, Tryz.sizeOf206, Tryz.sizeOf208, Tryz.sizeOf3])
instance tf210x3 : TField Tryz.prog 210 3 3 := TField.mk' Tryz.underlying210 rfl Tryz.sizeOf206 rfl rfl
instance tu216 : TUnd Tryz.prog 216 (.slice 183) := ⟨Tryz.underlying216⟩
instance tz221 : TZero Tryz.prog 221 (.agg #[.int .i64 0, .slice none 0 0, .int .i64 0]) := ⟨Tryz.zeroValue221⟩
instance tp221 : TPlaces Tryz.prog 221 [(0, 1), (1, 1), (2, 1)] := TPlaces.mk' Tryz.underlying221 (by simp [Tryz.sizeOf219, Tryz.sizeOf3])
instance ts230 : TSize Tryz.prog 230 1 := ⟨Tryz.sizeOf230⟩
instance ta230 : TAgg Tryz.prog 230 false := ⟨Tryz.isAgg230⟩
instance tz230 : TZero Tryz.prog 230 (.slice none 0 0) := ⟨Tryz.zeroValue230⟩
instance tu230 : TUnd Tryz.prog 230 (.slice 236) := ⟨Tryz.underlying230⟩
instance tz232 : TZero Tryz.prog 232 (.agg #[.int .i64 0, .slice none 0 0]) := ⟨Tryz.zeroValue232⟩
instance tp232 : TPlaces Tryz.prog 232 [(0, 1), (1, 1)] := TPlaces.mk' Tryz.underlying232 (by simp [Tryz.sizeOf230, Tryz.sizeOf3])
instance tf232x0 : TField Tryz.prog 232 0 0 := TField.mk' Tryz.underlying232 rfl Tryz.sizeOf3 rfl rfl
instance tf232x1 : TField Tryz.prog 232 1 1 := TField.mk' Tryz.underlying232 rfl Tryz.sizeOf230 rfl rfl
instance tz233 : TZero Tryz.prog 233 (.agg #[.pointer none, .pointer none]) := ⟨Tryz.zeroValue233⟩
instance tu233 : TUnd Tryz.prog 233 (.array 2 206) := ⟨Tryz.underlying233⟩
instance ts236 : TSize Tryz.prog 236 2 := ⟨Tryz.sizeOf236⟩
instance ta236 : TAgg Tryz.prog 236 true := ⟨Tryz.isAgg236⟩
instance tz236 : TZero Tryz.prog 236 (.agg #[.int .i64 0, .int .i64 0]) := ⟨Tryz.zeroValue236⟩
instance ti236 : TI Tryz.prog 236 2 16 [.int .i64 0, .int .i64 0] := TI.mk' Tryz.type236 rfl rfl (z := .agg #[.int .i64 0, .int .i64 0]) rfl rfl rfl
instance tp236 : TPlaces Tryz.prog 236 [(0, 1), (1, 1)] := TPlaces.mk' Tryz.underlying236 (by simp [Tryz.sizeOf3])
instance tf236x0 : TField Tryz.prog 236 0 0 := TField.mk' Tryz.underlying236 rfl Tryz.sizeOf3 rfl rfl
instance tf236x1 : TField Tryz.prog 236 1 1 := TField.mk' Tryz.underlying236 rfl Tryz.sizeOf3 rfl rfl
instance tu244 : TUnd Tryz.prog 244 (.pointer 262) := ⟨Tryz.underlying244⟩
instance tz262 : TZero Tryz.prog 262 (.agg #[.int .u32 0]) := ⟨Tryz.zeroValue262⟩
instance tp262 : TPlaces Tryz.prog 262 [(0, 1)] := TPlaces.mk' Tryz.underlying262 (by simp [Tryz.sizeOf128])
instance tf262x0 : TField Tryz.prog 262 0 0 := TField.mk' Tryz.underlying262 rfl Tryz.sizeOf128 rfl rfl
instance tu273 : TUnd Tryz.prog 273 (.slice 230) := ⟨Tryz.underlying273⟩
instance tc9 : TFunc Tryz.prog 9 := ⟨Tryz.call9⟩
instance tc10 : TFunc Tryz.prog 10 := ⟨Tryz.call10⟩
instance tc11 : TFunc Tryz.prog 11 := ⟨Tryz.call11⟩
instance tc12 : TFunc Tryz.prog 12 := ⟨Tryz.call12⟩
instance tc16 : TFunc Tryz.prog 16 := ⟨Tryz.call16⟩
instance tc17 : TFunc Tryz.prog 17 := ⟨Tryz.call17⟩
instance tc18 : TFunc Tryz.prog 18 := ⟨Tryz.call18⟩
instance tc19 : TFunc Tryz.prog 19 := ⟨Tryz.call19⟩
instance tc20 : TFunc Tryz.prog 20 := ⟨Tryz.call20⟩
instance tc21 : TFunc Tryz.prog 21 := ⟨Tryz.call21⟩
instance tc22 : TFunc Tryz.prog 22 := ⟨Tryz.call22⟩
instance tc23 : TFunc Tryz.prog 23 := ⟨Tryz.call23⟩
instance tc24 : TFunc Tryz.prog 24 := ⟨Tryz.call24⟩
instance tc25 : TFunc Tryz.prog 25 := ⟨Tryz.call25⟩
instance tc26 : TFunc Tryz.prog 26 := ⟨Tryz.call26⟩
instance tc27 : TFunc Tryz.prog 27 := ⟨Tryz.call27⟩
instance tc29 : TFunc Tryz.prog 29 := ⟨Tryz.call29⟩
instance tc30 : TFunc Tryz.prog 30 := ⟨Tryz.call30⟩
instance tc33 : TFunc Tryz.prog 33 := ⟨Tryz.call33⟩
instance tc34 : TFunc Tryz.prog 34 := ⟨Tryz.call34⟩
instance tc35 : TFunc Tryz.prog 35 := ⟨Tryz.call35⟩
instance tc36 : TFunc Tryz.prog 36 := ⟨Tryz.call36⟩
instance tc37 : TFunc Tryz.prog 37 := ⟨Tryz.call37⟩
instance tc38 : TFunc Tryz.prog 38 := ⟨Tryz.call38⟩
instance tc39 : TFunc Tryz.prog 39 := ⟨Tryz.call39⟩
instance tc40 : TFunc Tryz.prog 40 := ⟨Tryz.call40⟩
instance tc41 : TFunc Tryz.prog 41 := ⟨Tryz.call41⟩
instance tc42 : TFunc Tryz.prog 42 := ⟨Tryz.call42⟩
instance tc43 : TFunc Tryz.prog 43 := ⟨Tryz.call43⟩
instance tc44 : TFunc Tryz.prog 44 := ⟨Tryz.call44⟩
instance tc45 : TFunc Tryz.prog 45 := ⟨Tryz.call45⟩
instance tc46 : TFunc Tryz.prog 46 := ⟨Tryz.call46⟩
instance tc47 : TFunc Tryz.prog 47 := ⟨Tryz.call47⟩
instance tc48 : TFunc Tryz.prog 48 := ⟨Tryz.call48⟩
instance tc49 : TFunc Tryz.prog 49 := ⟨Tryz.call49⟩
instance tc50 : TFunc Tryz.prog 50 := ⟨Tryz.call50⟩
instance tc51 : TFunc Tryz.prog 51 := ⟨Tryz.call51⟩
instance tc52 : TFunc Tryz.prog 52 := ⟨Tryz.call52⟩
instance tc53 : TFunc Tryz.prog 53 := ⟨Tryz.call53⟩
instance tc54 : TFunc Tryz.prog 54 := ⟨Tryz.call54⟩
instance tc55 : TFunc Tryz.prog 55 := ⟨Tryz.call55⟩
instance tc56 : TFunc Tryz.prog 56 := ⟨Tryz.call56⟩
instance tc57 : TFunc Tryz.prog 57 := ⟨Tryz.call57⟩
instance tc58 : TFunc Tryz.prog 58 := ⟨Tryz.call58⟩
instance tc59 : TFunc Tryz.prog 59 := ⟨Tryz.call59⟩
instance tc60 : TFunc Tryz.prog 60 := ⟨Tryz.call60⟩
instance tc61 : TFunc Tryz.prog 61 := ⟨Tryz.call61⟩
instance tc62 : TFunc Tryz.prog 62 := ⟨Tryz.call62⟩
instance tc63 : TFunc Tryz.prog 63 := ⟨Tryz.call63⟩
instance tc64 : TFunc Tryz.prog 64 := ⟨Tryz.call64⟩
instance tc65 : TFunc Tryz.prog 65 := ⟨Tryz.call65⟩
instance tc66 : TFunc Tryz.prog 66 := ⟨Tryz.call66⟩
instance tc67 : TFunc Tryz.prog 67 := ⟨Tryz.call67⟩
instance tc68 : TFunc Tryz.prog 68 := ⟨Tryz.call68⟩
instance tc70 : TFunc Tryz.prog 70 := ⟨Tryz.call70⟩
instance tc73 : TFunc Tryz.prog 73 := ⟨Tryz.call73⟩
instance tc74 : TFunc Tryz.prog 74 := ⟨Tryz.call74⟩
instance tc75 : TFunc Tryz.prog 75 := ⟨Tryz.call75⟩
instance tc76 : TFunc Tryz.prog 76 := ⟨Tryz.call76⟩
instance tc77 : TFunc Tryz.prog 77 := ⟨Tryz.call77⟩
instance tc78 : TFunc Tryz.prog 78 := ⟨Tryz.call78⟩
instance tc79 : TFunc Tryz.prog 79 := ⟨Tryz.call79⟩
instance tc80 : TFunc Tryz.prog 80 := ⟨Tryz.call80⟩
instance tc81 : TFunc Tryz.prog 81 := ⟨Tryz.call81⟩
instance tc82 : TFunc Tryz.prog 82 := ⟨Tryz.call82⟩
instance tc83 : TFunc Tryz.prog 83 := ⟨Tryz.call83⟩
instance tc84 : TFunc Tryz.prog 84 := ⟨Tryz.call84⟩
instance tc85 : TFunc Tryz.prog 85 := ⟨Tryz.call85⟩
instance tc86 : TFunc Tryz.prog 86 := ⟨Tryz.call86⟩
instance tc87 : TFunc Tryz.prog 87 := ⟨Tryz.call87⟩
instance tc88 : TFunc Tryz.prog 88 := ⟨Tryz.call88⟩
instance tc89 : TFunc Tryz.prog 89 := ⟨Tryz.call89⟩
instance tc90 : TFunc Tryz.prog 90 := ⟨Tryz.call90⟩
instance tc91 : TFunc Tryz.prog 91 := ⟨Tryz.call91⟩
instance tc92 : TFunc Tryz.prog 92 := ⟨Tryz.call92⟩
instance tc93 : TFunc Tryz.prog 93 := ⟨Tryz.call93⟩
instance tc94 : TFunc Tryz.prog 94 := ⟨Tryz.call94⟩
instance tc95 : TFunc Tryz.prog 95 := ⟨Tryz.call95⟩
instance tc96 : TFunc Tryz.prog 96 := ⟨Tryz.call96⟩
instance tc97 : TFunc Tryz.prog 97 := ⟨Tryz.call97⟩
instance tc98 : TFunc Tryz.prog 98 := ⟨Tryz.call98⟩
instance tc99 : TFunc Tryz.prog 99 := ⟨Tryz.call99⟩
instance tc100 : TFunc Tryz.prog 100 := ⟨Tryz.call100⟩
instance tc101 : TFunc Tryz.prog 101 := ⟨Tryz.call101⟩
instance tc102 : TFunc Tryz.prog 102 := ⟨Tryz.call102⟩
instance tc103 : TFunc Tryz.prog 103 := ⟨Tryz.call103⟩
instance tc104 : TFunc Tryz.prog 104 := ⟨Tryz.call104⟩
instance tc105 : TFunc Tryz.prog 105 := ⟨Tryz.call105⟩
instance tc106 : TFunc Tryz.prog 106 := ⟨Tryz.call106⟩
instance tc107 : TFunc Tryz.prog 107 := ⟨Tryz.call107⟩
instance tc108 : TFunc Tryz.prog 108 := ⟨Tryz.call108⟩
instance tc109 : TFunc Tryz.prog 109 := ⟨Tryz.call109⟩
instance tc110 : TFunc Tryz.prog 110 := ⟨Tryz.call110⟩
instance tc111 : TFunc Tryz.prog 111 := ⟨Tryz.call111⟩
instance tc112 : TFunc Tryz.prog 112 := ⟨Tryz.call112⟩
instance tc113 : TFunc Tryz.prog 113 := ⟨Tryz.call113⟩
instance tc114 : TFunc Tryz.prog 114 := ⟨Tryz.call114⟩
instance tc115 : TFunc Tryz.prog 115 := ⟨Tryz.call115⟩
instance tc116 : TFunc Tryz.prog 116 := ⟨Tryz.call116⟩
instance tc117 : TFunc Tryz.prog 117 := ⟨Tryz.call117⟩
instance tc118 : TFunc Tryz.prog 118 := ⟨Tryz.call118⟩
instance tc119 : TFunc Tryz.prog 119 := ⟨Tryz.call119⟩
instance tc120 : TFunc Tryz.prog 120 := ⟨Tryz.call120⟩
instance tc121 : TFunc Tryz.prog 121 := ⟨Tryz.call121⟩
instance tc122 : TFunc Tryz.prog 122 := ⟨Tryz.call122⟩
instance tc123 : TFunc Tryz.prog 123 := ⟨Tryz.call123⟩
instance tc124 : TFunc Tryz.prog 124 := ⟨Tryz.call124⟩
instance tc125 : TFunc Tryz.prog 125 := ⟨Tryz.call125⟩
instance tc126 : TFunc Tryz.prog 126 := ⟨Tryz.call126⟩
instance tc127 : TFunc Tryz.prog 127 := ⟨Tryz.call127⟩
instance tc128 : TFunc Tryz.prog 128 := ⟨Tryz.call128⟩
instance tc132 : TFunc Tryz.prog 132 := ⟨Tryz.call132⟩
instance tc133 : TFunc Tryz.prog 133 := ⟨Tryz.call133⟩
instance tc134 : TFunc Tryz.prog 134 := ⟨Tryz.call134⟩
instance tc135 : TFunc Tryz.prog 135 := ⟨Tryz.call135⟩
instance tc136 : TFunc Tryz.prog 136 := ⟨Tryz.call136⟩
instance tc137 : TFunc Tryz.prog 137 := ⟨Tryz.call137⟩
instance tc138 : TFunc Tryz.prog 138 := ⟨Tryz.call138⟩
instance tc139 : TFunc Tryz.prog 139 := ⟨Tryz.call139⟩
instance tc140 : TFunc Tryz.prog 140 := ⟨Tryz.call140⟩
instance tc141 : TFunc Tryz.prog 141 := ⟨Tryz.call141⟩
instance tc142 : TFunc Tryz.prog 142 := ⟨Tryz.call142⟩
instance tc143 : TFunc Tryz.prog 143 := ⟨Tryz.call143⟩
instance tc144 : TFunc Tryz.prog 144 := ⟨Tryz.call144⟩
instance tc145 : TFunc Tryz.prog 145 := ⟨Tryz.call145⟩
instance tc146 : TFunc Tryz.prog 146 := ⟨Tryz.call146⟩
instance tc147 : TFunc Tryz.prog 147 := ⟨Tryz.call147⟩
instance tc148 : TFunc Tryz.prog 148 := ⟨Tryz.call148⟩
instance tc149 : TFunc Tryz.prog 149 := ⟨Tryz.call149⟩
instance tc150 : TFunc Tryz.prog 150 := ⟨Tryz.call150⟩
instance tc151 : TFunc Tryz.prog 151 := ⟨Tryz.call151⟩
instance tc155 : TFunc Tryz.prog 155 := ⟨Tryz.call155⟩
instance tc156 : TFunc Tryz.prog 156 := ⟨Tryz.call156⟩
instance tc157 : TFunc Tryz.prog 157 := ⟨Tryz.call157⟩
instance tc158 : TFunc Tryz.prog 158 := ⟨Tryz.call158⟩
instance tc159 : TFunc Tryz.prog 159 := ⟨Tryz.call159⟩
instance tc160 : TFunc Tryz.prog 160 := ⟨Tryz.call160⟩
instance tc161 : TFunc Tryz.prog 161 := ⟨Tryz.call161⟩
instance tc162 : TFunc Tryz.prog 162 := ⟨Tryz.call162⟩
instance tc163 : TFunc Tryz.prog 163 := ⟨Tryz.call163⟩
instance tc164 : TFunc Tryz.prog 164 := ⟨Tryz.call164⟩
instance tc165 : TFunc Tryz.prog 165 := ⟨Tryz.call165⟩
instance tc167 : TFunc Tryz.prog 167 := ⟨Tryz.call167⟩
instance tc168 : TFunc Tryz.prog 168 := ⟨Tryz.call168⟩
instance tc169 : TFunc Tryz.prog 169 := ⟨Tryz.call169⟩
instance tc170 : TFunc Tryz.prog 170 := ⟨Tryz.call170⟩
instance tc171 : TFunc Tryz.prog 171 := ⟨Tryz.call171⟩
instance tc183 : TFunc Tryz.prog 183 := ⟨Tryz.call183⟩
instance tc184 : TFunc Tryz.prog 184 := ⟨Tryz.call184⟩
instance tc185 : TFunc Tryz.prog 185 := ⟨Tryz.call185⟩
instance tc186 : TFunc Tryz.prog 186 := ⟨Tryz.call186⟩
instance tc187 : TFunc Tryz.prog 187 := ⟨Tryz.call187⟩
instance tc188 : TFunc Tryz.prog 188 := ⟨Tryz.call188⟩
instance tc196 : TFunc Tryz.prog 196 := ⟨Tryz.call196⟩
instance tc197 : TFunc Tryz.prog 197 := ⟨Tryz.call197⟩
instance tc198 : TFunc Tryz.prog 198 := ⟨Tryz.call198⟩
instance tc199 : TFunc Tryz.prog 199 := ⟨Tryz.call199⟩
instance tc200 : TFunc Tryz.prog 200 := ⟨Tryz.call200⟩
instance tc203 : TFunc Tryz.prog 203 := ⟨Tryz.call203⟩
instance tc205 : TFunc Tryz.prog 205 := ⟨Tryz.call205⟩
instance tc206 : TFunc Tryz.prog 206 := ⟨Tryz.call206⟩
instance tc207 : TFunc Tryz.prog 207 := ⟨Tryz.call207⟩
end Go.SL
namespace Go.SL
open Go.Proofs
instance : Mixed Tryz.prog := ⟨by decide⟩
instance : PlanOf Tryz.f3.ntmps 7 (.calc 0 (.calc 1 (.calc 2 (.calc 3 (.calc 4 (.calc 5 (.calc 6 (.calc 7 (.read 9 (.act 8 [9] (.act 10 [] (.calc 11 (.calc 12 .nil))))))))))))) := ⟨⟩
instance : PlanOf Tryz.f3.ntmps 25 (.calc 0 (.calc 1 (.calc 2 (.calc 3 (.calc 4 (.calc 5 (.calc 6 (.calc 7 (.read 9 (.act 8 [9] (.act 10 [] (.calc 11 (.calc 12 (.calc 13 (.calc 14 (.read 16 (.act 15 [16] (.act 17 [] (.calc 18 (.calc 19 (.calc 20 (.act 21 [] (.calc 22 (.calc 23 .nil)))))))))))))))))))))))) := ⟨⟩
instance : PlanOf Tryz.f4.ntmps 39 (.calc 0 (.calc 1 (.read 2 (.calc 3 (.read 4 (.calc 5 (.calc 6 (.calc 7 (.calc 8 (.calc 9 (.read 10 (.calc 11 (.read 12 (.calc 13 (.act 14 [10, 12] (.act 15 [] (.calc 16 (.calc 17 .nil)))))))))))))))))) := ⟨⟩
instance : PlanOf Tryz.f5.ntmps 10 (.calc 0 (.calc 1 (.calc 2 (.calc 3 (.calc 4 (.calc 5 (.read 6 (.calc 7 (.calc 8 (.calc 9 (.act 10 [6] (.calc 11 (.act 12 [6] (.act 13 [] (.calc 14 (.calc 15 .nil)))))))))))))))) := ⟨⟩
instance : PlanOf Tryz.f7.ntmps 45 (.calc 0 (.calc 1 (.read 2 (.calc 3 (.read 4 (.calc 5 (.calc 6 (.calc 7 (.calc 8 (.calc 9 (.read 10 (.calc 11 (.read 12 (.calc 13 (.calc 14 (.calc 15 (.calc 16 (.act 17 [10, 12] (.act 18 [] (.calc 19 (.calc 20 .nil))))))))))))))))))))) := ⟨⟩
instance : PlanOf Tryz.f10.ntmps 5 (.calc 0 (.calc 1 (.calc 2 (.calc 3 (.calc 4 (.calc 5 (.read 6 (.calc 7 (.act 8 [6] (.calc 9 (.act 10 [6] (.act 11 [] (.calc 12 (.calc 13 (.calc 14 (.calc 15 (.calc 16 (.calc 17 (.read 18 (.calc 19 (.act 20 [] (.calc 21 (.calc 22 (.calc 23 (.calc 24 (.calc 25 (.calc 26 (.read 27 (.act 28 [] (.calc 29 (.calc 30 .nil))))))))))))))))))))))))))))))) := ⟨⟩
instance : PlanOf Tryz.f10.ntmps 11 (.calc 0 (.calc 1 (.calc 2 (.calc 3 (.calc 4 (.read 5 (.calc 6 (.read 7 (.calc 8 (.calc 9 (.calc 10 (.calc 11 (.read 12 (.calc 13 (.read 14 (.act 15 [12, 14] (.act 16 [] (.calc 17 (.calc 18 (.calc 19 (.act 20 [] (.calc 21 (.calc 22 (.calc 23 .nil)))))))))))))))))))))))) := ⟨⟩
instance : PlanOf Tryz.f12.ntmps 16 (.calc 0 (.calc 1 (.calc 4 (.calc 5 (.calc 6 (.read 7 (.act 2 [7] (.act 3 [7] (.act 8 [] (.calc 9 (.calc 10 (.calc 11 (.calc 12 (.calc 13 (.act 14 [] (.calc 15 .nil)))))))))))))))) := ⟨⟩
instance : PlanOf Tryz.f12.ntmps 18 (.calc 0 (.calc 1 (.calc 2 (.read 3 (.calc 4 (.act 5 [3] (.act 6 [] (.calc 7 .nil)))))))) := ⟨⟩
instance : PlanOf Tryz.f22.ntmps 3 (.calc 0 (.calc 1 (.calc 2 (.read 3 (.calc 4 (.act 5 [3] (.act 6 [] (.calc 7 .nil)))))))) := ⟨⟩
instance : PlanOf Tryz.f23.ntmps 7 (.calc 0 (.calc 1 (.calc 2 (.read 3 (.calc 4 (.calc 5 (.calc 6 (.read 7 (.calc 8 (.calc 9 (.calc 10 .nil))))))))))) := ⟨⟩
instance : PlanOf Tryz.f29.ntmps 6 (.calc 0 (.calc 1 (.read 2 (.read 3 (.calc 4 (.calc 5 (.read 6 (.read 7 (.calc 8 .nil))))))))) := ⟨⟩
instance : PlanOf Tryz.f30.ntmps 8 (.calc 0 (.calc 1 (.calc 2 (.calc 3 (.calc 5 (.read 7 (.fork 4 [7] (.act 6 [7] (.act 8 [] (.calc 9 (.calc 10 (.calc 11 .nil))))) (.act 6 [7] (.fork 4 [7] (.act 8 [] (.calc 9 (.calc 10 (.calc 11 .nil)))) (.act 8 [] (.calc 9 (.act 4 [7] (.calc 10 (.calc 11 .nil)))))))))))))) := ⟨⟩
instance : PlanOf Tryz.f39.ntmps 3 (.calc 0 (.calc 1 (.calc 2 (.read 3 (.calc 5 (.calc 6 (.calc 7 (.read 8 (.act 4 [8] (.calc 9 (.calc 10 .nil))))))))))) := ⟨⟩
instance : PlanOf Tryz.f40.ntmps 12 (.calc 0 (.calc 1 (.calc 2 (.read 3 (.calc 4 (.calc 5 (.calc 6 (.act 7 [3] (.act 8 [] .nil))))))))) := ⟨⟩
instance : PlanOf Tryz.f44.ntmps 4 (.calc 0 (.calc 1 (.calc 2 (.calc 3 (.calc 4 (.calc 5 (.calc 6 (.calc 7 (.calc 8 (.read 9 (.calc 10 (.calc 11 (.calc 12 (.read 13 (.calc 14 (.calc 15 (.calc 16 (.calc 17 (.calc 18 (.read 19 (.read 20 (.calc 21 (.read 22 (.calc 23 (.calc 24 (.calc 25 (.read 26 (.calc 27 (.calc 28 .nil))))))))))))))))))))))))))))) := ⟨⟩
instance : PlanOf Tryz.f44.ntmps 12 (.calc 0 (.calc 1 (.calc 2 (.read 3 (.calc 4 (.read 5 (.calc 6 (.read 7 (.act 8 [] .nil))))))))) := ⟨⟩
instance : PlanOf Tryz.f47.ntmps 5 (.calc 0 (.calc 1 (.calc 2 (.read 3 (.calc 4 (.calc 5 (.calc 6 (.read 7 (.calc 8 (.calc 9 (.act 10 [] (.calc 11 .nil)))))))))))) := ⟨⟩
instance : PlanOf Tryz.f50.ntmps 3 (.calc 0 (.calc 1 (.calc 2 (.read 3 (.calc 4 (.calc 5 (.calc 6 (.read 7 (.act 8 [] (.calc 9 (.calc 10 (.calc 11 (.calc 12 (.calc 13 .nil)))))))))))))) := ⟨⟩
instance : PlanOf Tryz.f50.ntmps 7 (.calc 0 (.calc 1 (.calc 2 (.read 3 (.calc 4 (.calc 5 (.calc 6 (.calc 7 (.read 8 (.calc 9 (.calc 10 (.calc 11 (.calc 12 (.read 13 (.calc 14 (.calc 15 (.calc 16 (.calc 17 (.read 18 (.act 19 [3, 8] (.calc 20 (.act 21 [3] (.act 22 [] .nil))))))))))))))))))))))) := ⟨⟩
instance : PlanOf Tryz.f54.ntmps 9 (.calc 0 (.calc 1 (.calc 2 (.read 3 (.calc 4 (.calc 5 (.calc 6 (.calc 7 (.calc 8 (.read 9 (.act 10 [3] (.calc 11 (.act 12 [] (.calc 13 .nil)))))))))))))) := ⟨⟩
instance : PlanOf Tryz.f55.ntmps 5 (.calc 0 (.calc 1 (.calc 2 (.calc 3 (.calc 4 (.calc 5 (.read 6 (.calc 7 (.calc 8 (.calc 9 (.calc 10 (.calc 11 (.calc 12 (.calc 13 (.read 14 (.calc 15 (.calc 16 (.calc 17 (.calc 18 (.read 19 (.calc 20 (.calc 21 (.calc 22 (.calc 23 (.calc 24 (.calc 25 .nil)))))))))))))))))))))))))) := ⟨⟩
instance : PlanOf Tryz.f55.ntmps 10 (.calc 0 (.calc 1 (.calc 2 (.read 3 (.calc 4 (.calc 5 (.calc 6 (.calc 7 (.read 8 (.calc 9 (.calc 10 (.calc 11 (.read 12 (.calc 13 (.calc 14 (.calc 15 (.calc 16 (.calc 17 (.calc 18 (.act 19 [] (.calc 20 (.calc 21 (.calc 22 (.calc 23 (.calc 24 .nil))))))))))))))))))))))))) := ⟨⟩
instance : PlanOf Tryz.f56.ntmps 3 (.calc 0 (.calc 2 (.calc 3 (.calc 4 (.read 5 (.act 1 [5] (.act 6 [] (.calc 7 .nil)))))))) := ⟨⟩
instance : PlanOf Tryz.f56.ntmps 4 (.calc 0 (.calc 1 (.calc 2 (.read 3 (.calc 4 (.calc 5 (.calc 6 (.read 7 (.calc 11 (.act 8 [] (.act 9 [] (.calc 10 .nil)))))))))))) := ⟨⟩
instance : PlanOf Tryz.f56.ntmps 9 (.calc 0 (.calc 1 (.calc 2 (.read 3 (.calc 4 (.calc 5 (.read 6 (.read 7 (.act 8 [] .nil))))))))) := ⟨⟩
instance : PlanOf Tryz.f56.ntmps 15 (.calc 0 (.calc 1 (.calc 2 (.calc 3 (.read 4 (.calc 5 (.calc 6 (.calc 7 (.read 8 (.act 9 [] (.act 10 [] (.calc 11 (.calc 12 (.act 13 [] .nil)))))))))))))) := ⟨⟩
instance : PlanOf Tryz.f57.ntmps 5 (.calc 0 (.calc 1 (.calc 2 (.calc 3 (.read 4 (.calc 5 (.calc 6 (.calc 7 (.calc 8 (.read 9 (.calc 10 (.calc 11 (.act 12 [] (.calc 13 .nil)))))))))))))) := ⟨⟩
instance : PlanOf Tryz.f57.ntmps 9 (.calc 0 (.calc 1 (.calc 2 (.calc 3 (.calc 4 (.calc 5 (.read 6 (.calc 7 (.calc 8 (.calc 10 (.calc 11 (.calc 12 (.read 13 (.calc 14 (.act 9 [6, 13] (.calc 15 (.calc 16 (.act 17 [] (.calc 18 (.calc 19 (.act 20 [] (.calc 21 (.calc 22 (.act 23 [] .nil)))))))))))))))))))))))) := ⟨⟩
instance : PlanOf Tryz.f69.ntmps 6 (.calc 0 (.calc 1 (.calc 2 (.read 3 (.calc 4 (.calc 5 (.calc 6 (.read 7 (.calc 8 (.calc 9 (.calc 10 (.read 11 (.calc 12 (.calc 13 (.calc 14 .nil))))))))))))))) := ⟨⟩
instance : PlanOf Tryz.f73.ntmps 3 (.calc 0 (.calc 1 (.calc 2 (.read 3 (.calc 4 (.calc 5 (.calc 6 (.read 7 (.calc 8 (.calc 9 (.calc 10 (.read 11 (.act 12 [3] (.act 13 [] (.calc 14 .nil))))))))))))))) := ⟨⟩
instance : PlanOf Tryz.f77.ntmps 11 (.calc 0 (.read 1 (.calc 2 (.calc 3 (.calc 4 (.read 5 (.calc 6 (.calc 7 (.calc 8 (.calc 9 (.calc 10 (.calc 11 (.read 12 (.calc 13 (.act 14 [12] (.act 15 [] (.calc 16 (.calc 17 .nil)))))))))))))))))) := ⟨⟩
instance : PlanOf Tryz.f84.ntmps 7 (.read 0 (.calc 1 (.read 2 (.calc 3 (.calc 4 (.calc 5 (.act 6 [2] (.calc 7 (.calc 8 (.calc 9 .nil)))))))))) := ⟨⟩
instance : PlanOf Tryz.f88.ntmps 3 (.calc 0 (.read 1 (.calc 2 (.calc 3 (.calc 4 (.read 5 (.calc 6 (.calc 7 (.calc 8 (.read 9 (.calc 10 (.calc 11 (.calc 12 .nil))))))))))))) := ⟨⟩
instance : PlanOf Tryz.f88.ntmps 14 (.calc 0 (.calc 1 (.calc 2 (.read 3 (.calc 4 (.read 5 (.calc 6 (.calc 7 (.calc 8 (.read 9 (.calc 10 (.read 11 (.read 12 (.calc 13 (.read 14 (.calc 15 (.read 16 (.act 17 [3, 5, 9, 11, 12, 14] (.calc 18 (.act 19 [3, 5, 9, 11, 12] (.act 20 [3, 5] (.act 21 [] .nil)))))))))))))))))))))) := ⟨⟩
instance : PlanOf Tryz.f91.ntmps 6 (.calc 0 (.calc 1 (.calc 2 (.read 3 (.calc 4 (.calc 5 (.calc 6 (.read 7 (.calc 8 (.act 9 [] .nil)))))))))) := ⟨⟩
instance : PlanOf Tryz.f97.ntmps 13 (.read 0 (.calc 1 (.calc 2 (.read 3 (.calc 4 (.read 5 (.read 6 (.calc 7 (.calc 8 (.calc 9 (.calc 10 (.calc 11 .nil)))))))))))) := ⟨⟩
instance : PlanOf Tryz.f97.ntmps 22 (.read 0 (.calc 1 (.calc 2 (.read 3 (.calc 4 (.read 5 (.calc 6 (.read 7 (.act 8 [0, 3, 5] (.act 9 [] .nil)))))))))) := ⟨⟩
instance : PlanOf Tryz.f100.ntmps 3 (.calc 0 (.calc 1 (.calc 2 (.read 3 (.calc 4 (.calc 6 (.calc 7 (.calc 8 (.read 9 (.calc 10 (.calc 11 (.calc 12 (.read 13 (.calc 15 (.calc 16 (.calc 17 (.read 18 (.act 5 [3, 9, 13, 18] (.act 14 [3, 9, 18] (.act 19 [3, 9] (.act 20 [] (.calc 21 .nil)))))))))))))))))))))) := ⟨⟩
instance : PlanOf Tryz.f103.ntmps 4 (.calc 0 (.calc 1 (.calc 3 (.read 4 (.calc 5 (.calc 6 (.fork 2 [4] (.act 7 [] (.act 8 [] (.calc 9 .nil))) (.act 7 [] (.act 2 [4] (.act 8 [] (.calc 9 .nil))))))))))) := ⟨⟩
instance : PlanOf Tryz.f104.ntmps 8 (.calc 0 (.calc 1 (.calc 2 (.read 3 (.calc 4 (.calc 5 (.calc 6 (.calc 7 (.calc 8 (.read 9 (.calc 10 (.calc 11 .nil)))))))))))) := ⟨⟩
instance : PlanOf Tryz.f104.ntmps 10 (.calc 0 (.calc 1 (.calc 2 (.calc 3 (.read 4 (.calc 5 (.act 6 [4] (.act 7 [4] (.act 8 [] (.calc 9 (.calc 10 (.act 11 [] .nil)))))))))))) := ⟨⟩
instance : PlanOf Tryz.f106.ntmps 3 (.calc 0 (.calc 1 (.calc 2 (.read 3 (.read 4 (.calc 5 (.calc 6 (.calc 7 (.read 8 (.read 9 (.calc 10 (.calc 11 (.calc 12 (.calc 13 (.read 14 (.read 15 (.calc 16 (.calc 17 (.calc 18 (.read 19 (.read 20 (.calc 21 (.calc 22 (.calc 23 .nil)))))))))))))))))))))))) := ⟨⟩
instance : PlanOf Tryz.f108.ntmps 20 (.calc 0 (.calc 1 (.calc 2 (.read 3 (.calc 4 (.calc 5 (.calc 6 (.calc 7 (.read 8 (.read 9 (.calc 10 (.calc 11 (.calc 12 (.calc 13 (.read 14 (.calc 15 (.calc 16 (.calc 17 (.act 18 [] (.calc 19 (.calc 20 (.calc 21 (.calc 22 .nil))))))))))))))))))))))) := ⟨⟩
instance : PlanOf Tryz.f116.ntmps 8 (.calc 0 (.calc 1 (.calc 2 (.read 3 (.calc 4 (.calc 5 (.calc 6 (.act 7 [3] (.act 8 [3] (.act 9 [] .nil)))))))))) := ⟨⟩
instance : PlanOf Tryz.f118.ntmps 10 (.calc 0 (.read 1 (.read 2 (.calc 3 (.calc 4 (.calc 5 (.calc 6 (.calc 7 (.calc 8 (.calc 9 (.calc 10 (.calc 11 (.calc 12 (.act 13 [1, 2] (.act 14 [1, 2] (.calc 15 (.act 16 [] .nil))))))))))))))))) := ⟨⟩
instance : PlanOf Tryz.f119.ntmps 6 (.calc 0 (.calc 1 (.read 2 (.read 3 (.calc 4 (.calc 5 (.read 6 (.read 7 (.calc 8 .nil))))))))) := ⟨⟩
instance : PlanOf Tryz.f123.ntmps 7 (.calc 0 (.read 1 (.calc 2 (.calc 3 (.calc 4 (.calc 6 (.read 7 (.calc 8 (.calc 9 (.calc 10 (.fork 5 [7] (.calc 12 (.act 11 [1] (.calc 13 .nil))) (.act 11 [1] (.act 5 [7] (.calc 12 (.calc 13 .nil))))))))))))))) := ⟨⟩
instance : PlanOf Tryz.f123.ntmps 15 (.calc 0 (.calc 1 (.calc 2 (.calc 3 (.calc 4 (.calc 5 (.calc 6 (.calc 7 (.calc 8 (.read 9 (.read 10 (.calc 11 (.read 12 (.read 13 (.calc 14 (.calc 15 (.calc 16 (.calc 17 .nil)))))))))))))))))) := ⟨⟩
instance : PlanOf Tryz.f123.ntmps 17 (.calc 0 (.read 1 (.calc 2 (.calc 3 (.calc 4 (.calc 5 (.act 6 [1] (.calc 7 (.act 8 [1] (.act 9 [] (.calc 10 (.act 11 [] .nil)))))))))))) := ⟨⟩
instance : PlanOf Tryz.f123.ntmps 20 (.read 0 (.calc 1 (.calc 2 (.calc 3 (.calc 4 (.read 5 (.act 6 [0] (.calc 7 (.calc 8 (.act 9 [] (.calc 10 .nil))))))))))) := ⟨⟩
instance : PlanOf Tryz.f125.ntmps 4 (.calc 0 (.calc 1 (.read 2 (.calc 3 (.read 4 (.calc 5 (.calc 6 (.calc 7 (.read 8 (.calc 9 (.read 10 (.calc 11 .nil)))))))))))) := ⟨⟩
instance : PlanOf Tryz.f134.ntmps 1 (.calc 0 (.read 1 (.calc 2 (.calc 3 (.calc 4 (.read 5 (.read 6 (.calc 7 (.calc 8 (.read 9 (.calc 10 (.calc 11 (.calc 12 .nil))))))))))))) := ⟨⟩
instance : PlanOf Tryz.f142.ntmps 6 (.calc 0 (.calc 1 (.calc 2 (.calc 3 (.read 4 (.calc 5 (.read 6 (.calc 7 (.calc 8 (.read 9 (.calc 10 (.read 11 (.calc 12 (.calc 13 (.calc 14 (.calc 15 (.calc 16 (.read 17 (.calc 18 (.calc 19 (.calc 20 (.calc 21 (.calc 22 (.read 23 (.act 24 [] (.calc 25 .nil)))))))))))))))))))))))))) := ⟨⟩
instance : PlanOf Tryz.f143.ntmps 5 (.calc 0 (.read 1 (.calc 2 (.calc 3 (.read 4 (.calc 5 (.calc 6 (.calc 8 (.read 9 (.calc 10 (.calc 12 (.read 13 (.calc 14 (.calc 16 (.read 17 (.calc 18 (.calc 20 (.read 21 (.fork 7 [9, 13, 17, 21] (.act 11 [1, 4, 13, 17, 21] (.act 15 [1, 4, 17, 21] (.act 19 [1, 4, 21] (.act 22 [] (.act 23 [] (.calc 24 .nil)))))) (.act 11 [1, 4, 13, 17, 21] (.fork 7 [9, 13, 17, 21] (.act 15 [1, 4, 17, 21] (.act 19 [1, 4, 21] (.act 22 [] (.act 23 [] (.calc 24 .nil))))) (.act 15 [1, 4, 17, 21] (.fork 7 [9, 13, 17, 21] (.act 19 [1, 4, 21] (.act 22 [] (.act 23 [] (.calc 24 .nil)))) (.act 19 [1, 4, 21] (.act 7 [9, 13, 17, 21] (.act 22 [] (.act 23 [] (.calc 24 .nil)))))))))))))))))))))))))))) := ⟨⟩
instance : PlanOf Tryz.f153.ntmps 17 (.calc 0 (.calc 1 (.calc 2 (.calc 3 (.calc 4 (.calc 5 (.read 6 (.read 7 (.calc 8 (.calc 9 (.read 10 (.read 11 (.act 12 [] (.calc 13 (.calc 14 .nil))))))))))))))) := ⟨⟩
instance : PlanOf Tryz.f161.ntmps 11 (.calc 0 (.read 1 (.calc 2 (.read 3 (.calc 4 (.read 5 (.calc 6 (.read 7 (.calc 8 (.calc 9 (.read 10 (.calc 11 (.read 12 (.calc 13 .nil)))))))))))))) := ⟨⟩
instance : PlanOf Tryz.f172.ntmps 4 (.calc 0 (.calc 1 (.calc 2 (.calc 3 (.calc 4 (.calc 5 (.read 6 (.read 7 (.calc 8 (.calc 9 (.calc 10 (.read 11 (.read 12 (.act 13 [] (.calc 14 .nil))))))))))))))) := ⟨⟩
instance : PlanOf Tryz.f172.ntmps 6 (.calc 0 (.calc 1 (.calc 2 (.calc 3 (.calc 4 (.calc 5 (.calc 6 (.calc 7 (.read 8 (.read 9 (.calc 10 (.calc 11 (.read 12 (.read 13 (.read 14 (.act 15 [] (.read 16 (.act 17 [] .nil)))))))))))))))))) := ⟨⟩
instance : PlanOf Tryz.f173.ntmps 10 (.calc 0 (.calc 1 (.calc 2 (.calc 3 (.calc 4 (.calc 5 (.calc 6 (.calc 7 (.calc 8 (.calc 9 (.read 10 (.read 11 (.calc 12 (.calc 13 (.read 14 (.read 15 (.read 16 (.act 17 [] (.read 18 (.act 19 [] .nil)))))))))))))))))))) := ⟨⟩
instance : PlanOf Tryz.f174.ntmps 10 (.calc 0 (.calc 1 (.calc 2 (.calc 3 (.calc 4 (.calc 5 (.calc 6 (.calc 7 (.calc 8 (.calc 9 (.read 10 (.read 11 (.calc 12 (.calc 13 (.read 14 (.read 15 (.read 16 (.act 17 [] (.read 18 (.act 19 [] .nil)))))))))))))))))))) := ⟨⟩
instance : PlanOf Tryz.f176.ntmps 3 (.calc 0 (.calc 1 (.calc 2 (.calc 3 (.calc 4 (.calc 5 (.read 6 (.read 7 (.calc 8 (.calc 9 (.read 10 (.read 11 (.read 12 (.act 13 [] (.read 14 (.act 15 [] .nil)))))))))))))))) := ⟨⟩
instance : PlanOf Tryz.f177.ntmps 5 (.calc 0 (.calc 1 (.calc 2 (.calc 3 (.calc 4 (.calc 5 (.read 6 (.read 7 (.calc 8 (.calc 9 (.calc 10 (.read 11 (.read 12 (.act 13 [] (.calc 14 (.calc 15 .nil)))))))))))))))) := ⟨⟩
instance : PlanOf Tryz.f177.ntmps 11 (.calc 0 (.calc 1 (.calc 2 (.calc 3 (.calc 4 (.calc 5 (.calc 6 (.calc 7 (.read 8 (.read 9 (.calc 10 (.calc 11 (.read 12 (.read 13 (.read 14 (.act 15 [] (.read 16 (.act 17 [] .nil)))))))))))))))))) := ⟨⟩
instance : PlanOf Tryz.f177.ntmps 16 (.calc 0 (.calc 1 (.read 2 (.read 3 (.calc 4 (.calc 5 (.calc 6 (.read 7 (.read 8 (.act 9 [] (.calc 10 .nil))))))))))) := ⟨⟩
instance : PlanOf Tryz.f177.ntmps 17 (.calc 0 (.calc 1 (.calc 2 (.calc 3 (.calc 4 (.calc 5 (.calc 6 (.calc 7 (.read 8 (.read 9 (.calc 10 (.calc 11 (.read 12 (.read 13 (.read 14 (.act 15 [] (.read 16 (.act 17 [] .nil)))))))))))))))))) := ⟨⟩
instance : PlanOf Tryz.f177.ntmps 22 (.calc 0 (.calc 1 (.read 2 (.read 3 (.calc 4 (.calc 5 (.calc 6 (.read 7 (.read 8 (.act 9 [] (.calc 10 .nil))))))))))) := ⟨⟩
instance : PlanOf Tryz.f177.ntmps 23 (.calc 0 (.calc 1 (.calc 2 (.calc 3 (.calc 4 (.calc 5 (.calc 6 (.calc 7 (.read 8 (.read 9 (.calc 10 (.calc 11 (.read 12 (.read 13 (.read 14 (.act 15 [] (.read 16 (.act 17 [] .nil)))))))))))))))))) := ⟨⟩
instance : PlanOf Tryz.f179.ntmps 1 (.calc 0 (.calc 1 (.calc 2 (.calc 3 (.calc 4 (.calc 5 (.read 6 (.read 7 (.calc 8 (.calc 9 (.read 10 (.read 11 (.read 12 (.act 13 [] (.read 14 (.act 15 [] .nil)))))))))))))))) := ⟨⟩
instance : PlanOf Tryz.f179.ntmps 3 (.calc 0 (.calc 1 (.calc 2 (.calc 3 (.calc 4 (.calc 5 (.read 6 (.read 7 (.calc 8 (.calc 9 (.read 10 (.read 11 (.act 12 [] (.calc 13 (.calc 14 .nil))))))))))))))) := ⟨⟩
instance : PlanOf Tryz.f179.ntmps 5 (.calc 0 (.calc 1 (.calc 2 (.calc 3 (.calc 4 (.calc 5 (.read 6 (.read 7 (.calc 8 (.calc 9 (.read 10 (.read 11 (.act 12 [] (.calc 13 .nil)))))))))))))) := ⟨⟩
instance : PlanOf Tryz.f179.ntmps 8 (.calc 0 (.calc 1 (.calc 2 (.calc 3 (.calc 4 (.calc 5 (.read 6 (.read 7 (.calc 8 (.calc 9 (.read 10 (.read 11 (.read 12 (.act 13 [] (.read 14 (.act 15 [] .nil)))))))))))))))) := ⟨⟩
instance : PlanOf Tryz.f180.ntmps 1 (.calc 0 (.calc 1 (.calc 2 (.calc 3 (.calc 4 (.calc 5 (.read 6 (.read 7 (.calc 8 (.calc 9 (.read 10 (.read 11 (.read 12 (.act 13 [] (.read 14 (.act 15 [] .nil)))))))))))))))) := ⟨⟩
instance : PlanOf Tryz.f180.ntmps 3 (.calc 0 (.calc 1 (.calc 2 (.calc 3 (.calc 4 (.calc 5 (.read 6 (.read 7 (.calc 8 (.calc 9 (.read 10 (.read 11 (.act 12 [] (.calc 13 .nil)))))))))))))) := ⟨⟩
instance : PlanOf Tryz.f180.ntmps 5 (.calc 0 (.calc 1 (.calc 2 (.calc 3 (.calc 4 (.calc 5 (.read 6 (.read 7 (.calc 8 (.calc 9 (.read 10 (.read 11 (.act 12 [] (.calc 13 (.calc 14 .nil))))))))))))))) := ⟨⟩
instance : PlanOf Tryz.f180.ntmps 8 (.calc 0 (.calc 1 (.calc 2 (.calc 3 (.calc 4 (.calc 5 (.read 6 (.read 7 (.calc 8 (.calc 9 (.read 10 (.read 11 (.read 12 (.act 13 [] (.read 14 (.act 15 [] .nil)))))))))))))))) := ⟨⟩
instance : PlanOf Tryz.f180.ntmps 10 (.calc 0 (.calc 1 (.calc 2 (.calc 3 (.calc 4 (.calc 5 (.read 6 (.read 7 (.calc 8 (.calc 9 (.read 10 (.read 11 (.read 12 (.act 13 [] (.read 14 (.act 15 [] .nil)))))))))))))))) := ⟨⟩
instance : PlanOf Tryz.f180.ntmps 13 (.calc 0 (.calc 1 (.calc 2 (.calc 3 (.calc 4 (.calc 5 (.read 6 (.read 7 (.calc 8 (.calc 9 (.read 10 (.read 11 (.act 12 [] (.calc 13 .nil)))))))))))))) := ⟨⟩
instance : PlanOf Tryz.f180.ntmps 15 (.calc 0 (.calc 1 (.calc 2 (.calc 3 (.calc 4 (.calc 5 (.read 6 (.read 7 (.calc 8 (.calc 9 (.read 10 (.read 11 (.act 12 [] (.calc 13 (.calc 14 .nil))))))))))))))) := ⟨⟩
instance : PlanOf Tryz.f180.ntmps 18 (.calc 0 (.calc 1 (.calc 2 (.calc 3 (.calc 4 (.calc 5 (.read 6 (.read 7 (.calc 8 (.calc 9 (.read 10 (.read 11 (.read 12 (.act 13 [] (.read 14 (.act 15 [] .nil)))))))))))))))) := ⟨⟩
instance : PlanOf Tryz.f180.ntmps 21 (.calc 0 (.calc 1 (.calc 2 (.calc 3 (.calc 4 (.calc 5 (.read 6 (.read 7 (.calc 8 (.calc 9 (.read 10 (.read 11 (.read 12 (.act 13 [] (.read 14 (.act 15 [] .nil)))))))))))))))) := ⟨⟩
instance : PlanOf Tryz.f187.ntmps 7 (.calc 0 (.calc 1 (.calc 2 (.calc 3 (.read 4 (.calc 5 (.calc 6 (.read 7 (.calc 8 (.read 9 (.calc 10 (.calc 11 (.read 12 (.calc 13 (.read 14 (.calc 15 (.calc 16 (.calc 17 .nil)))))))))))))))))) := ⟨⟩
instance : PlanOf Tryz.f187.ntmps 8 (.calc 0 (.calc 1 (.calc 2 (.calc 3 (.read 4 (.calc 5 (.read 6 (.calc 7 (.read 8 (.calc 9 (.read 10 (.calc 11 (.calc 12 (.calc 13 (.read 14 (.calc 15 (.read 16 (.calc 17 (.calc 18 (.read 19 (.calc 20 (.act 21 [] .nil)))))))))))))))))))))) := ⟨⟩
instance : PlanOf Tryz.f190.ntmps 3 (.calc 0 (.calc 1 (.calc 2 (.calc 3 (.calc 4 (.calc 5 (.calc 6 (.calc 7 (.calc 8 (.read 9 (.read 10 (.calc 11 (.calc 12 (.calc 13 (.calc 14 (.calc 15 (.read 16 (.read 17 (.act 18 [] (.calc 19 .nil)))))))))))))))))))) := ⟨⟩
instance : PlanOf Tryz.f190.ntmps 5 (.calc 0 (.calc 1 (.calc 2 (.calc 3 (.read 4 (.read 5 (.calc 6 (.calc 7 (.calc 8 (.calc 9 (.read 10 (.read 11 (.act 12 [] (.calc 13 .nil)))))))))))))) := ⟨⟩
instance : PlanOf Tryz.f190.ntmps 6 (.calc 0 (.calc 1 (.calc 2 (.calc 3 (.calc 4 (.calc 5 (.calc 6 (.calc 7 (.calc 8 (.calc 9 (.calc 10 (.calc 11 (.read 12 (.read 13 (.calc 14 (.calc 15 (.calc 16 (.calc 17 (.read 18 (.read 19 (.read 20 (.act 21 [] (.read 22 (.act 23 [] .nil)))))))))))))))))))))))) := ⟨⟩
instance : PlanOf Tryz.f192.ntmps 1 (.calc 0 (.calc 1 (.read 2 (.calc 3 (.calc 4 (.read 5 (.calc 6 (.calc 7 (.calc 8 (.act 9 [] .nil)))))))))) := ⟨⟩
instance : PlanOf Tryz.f192.ntmps 2 (.calc 0 (.calc 1 (.read 2 (.calc 3 (.calc 4 (.read 5 (.calc 6 (.calc 7 (.calc 8 (.act 9 [] .nil)))))))))) := ⟨⟩
instance : PlanOf Tryz.f192.ntmps 3 (.calc 0 (.calc 1 (.read 2 (.calc 3 (.calc 4 (.read 5 (.calc 6 (.calc 7 (.calc 8 (.act 9 [] .nil)))))))))) := ⟨⟩
instance : PlanOf Tryz.f204.ntmps 1 (.calc 0 (.calc 1 (.read 2 (.read 3 (.calc 4 (.calc 5 (.read 6 (.read 7 (.act 8 [] .nil))))))))) := ⟨⟩
instance : PlanOf Tryz.f208.ntmps 17 (.calc 0 (.calc 1 (.calc 2 (.calc 3 (.calc 4 (.calc 5 (.calc 6 (.read 7 (.read 8 (.calc 9 (.calc 10 (.read 11 (.read 12 (.act 13 [] (.calc 14 (.calc 15 (.calc 16 .nil))))))))))))))))) := ⟨⟩
instance : PlanOf Tryz.f209.ntmps 4 (.calc 0 (.calc 1 (.calc 2 (.calc 3 (.calc 4 (.calc 5 (.calc 6 (.read 7 (.read 8 (.calc 9 (.calc 10 (.calc 11 (.read 12 (.read 13 (.act 14 [] (.calc 15 (.calc 16 .nil))))))))))))))))) := ⟨⟩
instance : PlanOf Tryz.f209.ntmps 6 (.calc 0 (.calc 1 (.calc 2 (.calc 3 (.calc 4 (.calc 5 (.calc 6 (.calc 7 (.read 8 (.read 9 (.calc 10 (.calc 11 (.read 12 (.read 13 (.read 14 (.act 15 [] (.read 16 (.act 17 [] .nil)))))))))))))))))) := ⟨⟩
instance : PlanOf Tryz.f210.ntmps 10 (.calc 0 (.calc 1 (.calc 2 (.calc 3 (.calc 4 (.calc 5 (.calc 6 (.calc 7 (.calc 8 (.calc 9 (.read 10 (.read 11 (.calc 12 (.calc 13 (.read 14 (.read 15 (.read 16 (.act 17 [] (.read 18 (.act 19 [] .nil)))))))))))))))))))) := ⟨⟩
instance : PlanOf Tryz.f211.ntmps 10 (.calc 0 (.calc 1 (.calc 2 (.calc 3 (.calc 4 (.calc 5 (.calc 6 (.calc 7 (.calc 8 (.calc 9 (.read 10 (.read 11 (.calc 12 (.calc 13 (.read 14 (.read 15 (.read 16 (.act 17 [] (.read 18 (.act 19 [] .nil)))))))))))))))))))) := ⟨⟩
instance : PlanOf Tryz.f213.ntmps 3 (.calc 0 (.calc 1 (.calc 2 (.calc 3 (.calc 4 (.calc 5 (.read 6 (.read 7 (.calc 8 (.calc 9 (.read 10 (.read 11 (.read 12 (.act 13 [] (.read 14 (.act 15 [] .nil)))))))))))))))) := ⟨⟩
instance : PlanOf Tryz.f214.ntmps 5 (.calc 0 (.calc 1 (.calc 2 (.calc 3 (.calc 4 (.calc 5 (.calc 6 (.read 7 (.read 8 (.calc 9 (.calc 10 (.calc 11 (.read 12 (.read 13 (.act 14 [] (.calc 15 (.calc 16 (.calc 17 .nil)))))))))))))))))) := ⟨⟩
instance : PlanOf Tryz.f214.ntmps 11 (.calc 0 (.calc 1 (.calc 2 (.calc 3 (.calc 4 (.calc 5 (.calc 6 (.calc 7 (.read 8 (.read 9 (.calc 10 (.calc 11 (.read 12 (.read 13 (.read 14 (.act 15 [] (.read 16 (.act 17 [] .nil)))))))))))))))))) := ⟨⟩
instance : PlanOf Tryz.f214.ntmps 16 (.calc 0 (.calc 1 (.calc 2 (.read 3 (.read 4 (.calc 5 (.calc 6 (.calc 7 (.read 8 (.read 9 (.act 10 [] (.calc 11 (.calc 12 .nil))))))))))))) := ⟨⟩
instance : PlanOf Tryz.f214.ntmps 17 (.calc 0 (.calc 1 (.calc 2 (.calc 3 (.calc 4 (.calc 5 (.calc 6 (.calc 7 (.read 8 (.read 9 (.calc 10 (.calc 11 (.read 12 (.read 13 (.read 14 (.act 15 [] (.read 16 (.act 17 [] .nil)))))))))))))))))) := ⟨⟩
instance : PlanOf Tryz.f214.ntmps 22 (.calc 0 (.calc 1 (.calc 2 (.read 3 (.read 4 (.calc 5 (.calc 6 (.calc 7 (.read 8 (.read 9 (.act 10 [] (.calc 11 (.calc 12 .nil))))))))))))) := ⟨⟩
instance : PlanOf Tryz.f214.ntmps 23 (.calc 0 (.calc 1 (.calc 2 (.calc 3 (.calc 4 (.calc 5 (.calc 6 (.calc 7 (.read 8 (.read 9 (.calc 10 (.calc 11 (.read 12 (.read 13 (.read 14 (.act 15 [] (.read 16 (.act 17 [] .nil)))))))))))))))))) := ⟨⟩
instance : PlanOf Tryz.f215.ntmps 1 (.calc 0 (.calc 1 (.calc 2 (.calc 3 (.calc 4 (.calc 5 (.read 6 (.read 7 (.calc 8 (.calc 9 (.read 10 (.read 11 (.read 12 (.act 13 [] (.read 14 (.act 15 [] .nil)))))))))))))))) := ⟨⟩
instance : PlanOf Tryz.f215.ntmps 3 (.calc 0 (.calc 1 (.calc 2 (.calc 3 (.calc 4 (.calc 5 (.calc 6 (.read 7 (.read 8 (.calc 9 (.calc 10 (.read 11 (.read 12 (.act 13 [] (.calc 14 (.calc 15 (.calc 16 .nil))))))))))))))))) := ⟨⟩
instance : PlanOf Tryz.f215.ntmps 5 (.calc 0 (.calc 1 (.calc 2 (.calc 3 (.calc 4 (.calc 5 (.calc 6 (.read 7 (.read 8 (.calc 9 (.calc 10 (.read 11 (.read 12 (.act 13 [] (.calc 14 (.calc 15 .nil)))))))))))))))) := ⟨⟩
instance : PlanOf Tryz.f215.ntmps 8 (.calc 0 (.calc 1 (.calc 2 (.calc 3 (.calc 4 (.calc 5 (.read 6 (.read 7 (.calc 8 (.calc 9 (.read 10 (.read 11 (.read 12 (.act 13 [] (.read 14 (.act 15 [] .nil)))))))))))))))) := ⟨⟩
instance : PlanOf Tryz.f216.ntmps 1 (.calc 0 (.calc 1 (.calc 2 (.calc 3 (.calc 4 (.calc 5 (.read 6 (.read 7 (.calc 8 (.calc 9 (.read 10 (.read 11 (.read 12 (.act 13 [] (.read 14 (.act 15 [] .nil)))))))))))))))) := ⟨⟩
instance : PlanOf Tryz.f216.ntmps 3 (.calc 0 (.calc 1 (.calc 2 (.calc 3 (.calc 4 (.calc 5 (.calc 6 (.read 7 (.read 8 (.calc 9 (.calc 10 (.read 11 (.read 12 (.act 13 [] (.calc 14 (.calc 15 .nil)))))))))))))))) := ⟨⟩
instance : PlanOf Tryz.f216.ntmps 5 (.calc 0 (.calc 1 (.calc 2 (.calc 3 (.calc 4 (.calc 5 (.calc 6 (.read 7 (.read 8 (.calc 9 (.calc 10 (.read 11 (.read 12 (.act 13 [] (.calc 14 (.calc 15 (.calc 16 .nil))))))))))))))))) := ⟨⟩
instance : PlanOf Tryz.f216.ntmps 8 (.calc 0 (.calc 1 (.calc 2 (.calc 3 (.calc 4 (.calc 5 (.read 6 (.read 7 (.calc 8 (.calc 9 (.read 10 (.read 11 (.read 12 (.act 13 [] (.read 14 (.act 15 [] .nil)))))))))))))))) := ⟨⟩
instance : PlanOf Tryz.f216.ntmps 10 (.calc 0 (.calc 1 (.calc 2 (.calc 3 (.calc 4 (.calc 5 (.read 6 (.read 7 (.calc 8 (.calc 9 (.read 10 (.read 11 (.read 12 (.act 13 [] (.read 14 (.act 15 [] .nil)))))))))))))))) := ⟨⟩
instance : PlanOf Tryz.f216.ntmps 13 (.calc 0 (.calc 1 (.calc 2 (.calc 3 (.calc 4 (.calc 5 (.calc 6 (.read 7 (.read 8 (.calc 9 (.calc 10 (.read 11 (.read 12 (.act 13 [] (.calc 14 (.calc 15 .nil)))))))))))))))) := ⟨⟩
instance : PlanOf Tryz.f216.ntmps 15 (.calc 0 (.calc 1 (.calc 2 (.calc 3 (.calc 4 (.calc 5 (.calc 6 (.read 7 (.read 8 (.calc 9 (.calc 10 (.read 11 (.read 12 (.act 13 [] (.calc 14 (.calc 15 (.calc 16 .nil))))))))))))))))) := ⟨⟩
instance : PlanOf Tryz.f216.ntmps 18 (.calc 0 (.calc 1 (.calc 2 (.calc 3 (.calc 4 (.calc 5 (.read 6 (.read 7 (.calc 8 (.calc 9 (.read 10 (.read 11 (.read 12 (.act 13 [] (.read 14 (.act 15 [] .nil)))))))))))))))) := ⟨⟩
instance : PlanOf Tryz.f216.ntmps 21 (.calc 0 (.calc 1 (.calc 2 (.calc 3 (.calc 4 (.calc 5 (.read 6 (.read 7 (.calc 8 (.calc 9 (.read 10 (.read 11 (.read 12 (.act 13 [] (.read 14 (.act 15 [] .nil)))))))))))))))) := ⟨⟩
instance : PlanOf Tryz.f217.ntmps 3 (.calc 0 (.calc 1 (.calc 2 (.calc 3 (.calc 4 (.calc 5 (.calc 6 (.calc 7 (.calc 8 (.calc 9 (.read 10 (.read 11 (.calc 12 (.calc 13 (.calc 14 (.calc 15 (.calc 16 (.read 17 (.read 18 (.act 19 [] (.calc 20 (.calc 21 .nil)))))))))))))))))))))) := ⟨⟩
instance : PlanOf Tryz.f217.ntmps 5 (.calc 0 (.calc 1 (.calc 2 (.calc 3 (.calc 4 (.read 5 (.read 6 (.calc 7 (.calc 8 (.calc 9 (.calc 10 (.read 11 (.read 12 (.act 13 [] (.calc 14 (.calc 15 .nil)))))))))))))))) := ⟨⟩
instance : PlanOf Tryz.f217.ntmps 6 (.calc 0 (.calc 1 (.calc 2 (.calc 3 (.calc 4 (.calc 5 (.calc 6 (.calc 7 (.calc 8 (.calc 9 (.calc 10 (.calc 11 (.read 12 (.read 13 (.calc 14 (.calc 15 (.calc 16 (.calc 17 (.read 18 (.read 19 (.read 20 (.act 21 [] (.read 22 (.act 23 [] .nil)))))))))))))))))))))))) := ⟨⟩
instance : PlanOf Tryz.f220.ntmps 1 (.calc 0 (.calc 1 (.calc 2 (.read 3 (.read 4 (.calc 5 (.calc 6 (.read 7 (.read 8 (.act 9 [] (.calc 10 .nil))))))))))) := ⟨⟩
end Go.SL
namespace Go.SL
open Go.Proofs
section
variable {P : Program} {B : World} {n : Nat} {c : Code} {Q : Post} {env : Env} {L : List HProp}
theorem Sy_all {α : Type} {f : α → List HProp} (hL : ∀ w, sat B L w → ∃ x, sat B (f x) w) (h : ∀ x, Sy P B n c Q env (f x)) : Sy P B n c Q env L := fun ok a w hr hs => by
  obtain ⟨x, hx⟩ := hL w hs
  exact h x ok a w hr hx
theorem SyO_all {ops : Array Oper} {l : List Oper} {K : Kont} {α : Type} {f : α → List HProp} (hL : ∀ w, sat B L w → ∃ x, sat B (f x) w) (h : ∀ x, SyO P B n ops l K env (f x)) : SyO P B n ops l K env L := fun ok a w hr hs => by
  obtain ⟨x, hx⟩ := hL w hs
  exact h x ok a w hr hx
end

/-- One slice, freshly laid, behind others. -/
theorem AppG.oneS {P : Program} {β : Type} [Rep β] {t ty e b r : Nat} {zs : List Value} {L R : List HProp} {K : Value → List HProp → Prop} (s : Sl (Sl β)) (x : Sl β) [u : TUnd P t (.slice e)] [ti : TI P e 1 b zs]
    [p : Picks [ownS s, cells true r 0 [.slice x.a x.xs.length x.c], roS x] L R]
    (hb : (s.xs.length + 1) * b ≤ 140737488355328 ∧ s.xs.length + 1 ≤ 140737488355328)
    (h : ∀ a c, K (.slice a (s.xs ++ [x]).length c) (ownS ⟨a, c, s.xs ++ [x]⟩ :: R)) {v1 : Value} (e1 : v1 = s.val := by rfl) : AppG P t ty v1 (.slice (some ⟨r, 0, none⟩) 1 1) L K :=
  AppG.one (t := t) (ty := ty) (e := e) (k := 1) (b := b) (zs := zs) (vs := [.slice x.a x.xs.length x.c]) (P := P) (p := (p : Picks [ownS s, cells true r 0 [.slice x.a x.xs.length x.c], Rep.own x] L R)) s x hb h e1

theorem own_pull {α : Type} [Rep α] {B : World} {L : List HProp} {s : Sl α} {w : World} {j : Nat} (hj : j < s.xs.length) (hs : sat B (ownS s :: L) w) : sat B (Rep.own s.xs[j] :: ownS s :: L) w := by
  obtain ⟨ok, room, hl, hc⟩ := ownS_cells hs
  have hp : Pers (fun h : Hp => ∀ x ∈ s.xs, Rep.own x h) := ⟨fun h h' m a x hx => (Rep.pers x).mono h h' m (a x hx)⟩
  have h1 := (hc.perm (.swap _ _ _)).also (A' := Rep.own s.xs[j]) (fun _ a => a _ (List.getElem_mem hj))
  have h2 := h1.perm (perm3 _ _ _ _)
  have h3 := h2.perm (.swap _ _ _)
  have h4 := ownS_of_cells ok hl (h3 : sat B (cells true (blk s.a) (offs s.a) (flat s.xs ++ room) :: (fun h => ∀ x ∈ s.xs, Rep.own x h) :: Rep.own s.xs[j] :: L) w)
  exact h4.perm (.swap _ _ _)
theorem own_pull_sl {α : Type} [Rep α] {B : World} {L : List HProp} {s : Sl (Sl α)} {w : World} {j : Nat} (hj : j < s.xs.length) (hs : sat B (ownS s :: L) w) : sat B (roS s.xs[j] :: ownS s :: L) w := own_pull hj hs

def upto {α : Type} (f : α → α) (l : List α) (k : Nat) : List α := (l.take k).map f ++ l.drop k
theorem upto_zero {α : Type} (f : α → α) (l : List α) : upto f l 0 = l := by simp [upto]
theorem upto_all {α : Type} (f : α → α) (l : List α) : upto f l l.length = l.map f := by simp [upto]
theorem upto_length {α : Type} (f : α → α) (l : List α) (k : Nat) : (upto f l k).length = l.length := by simp [upto]; omega
theorem upto_get {α : Type} (f : α → α) (l : List α) (k : Nat) (h : k < l.length) : (upto f l k)[k]'(by rw [upto_length]; exact h) = l[k] := by
  have e : ((l.take k).map f).length = k := by simp; omega
  unfold upto
  rw [List.getElem_append_right (by omega)]
  simp only [e, Nat.sub_self, List.getElem_drop, Nat.add_zero]
theorem upto_set {α : Type} (f : α → α) (l : List α) (k : Nat) (h : k < l.length) : (upto f l k).set k (f l[k]) = upto f l (k + 1) := by
  have e : ((l.take k).map f).length = k := by simp; omega
  unfold upto
  rw [List.set_append_right _ _ (by omega), e, Nat.sub_self, List.take_succ_eq_append_getElem h, List.map_append, List.drop_eq_getElem_cons h, List.append_assoc]
  rfl

instance (priority := high) cexec_rem_nat (P : Program) (env : Env) (ty : TypeId) (t u : TypeId) (x y : Operand) (a b : Nat) [e : EvO env x (.int .i64 (a : Int))] [f : EvO env y (.int .i64 (b : Int))] :
    CExec P (.binOp .rem t x y u) ty env (0 < b) (.int .i64 ((a % b : Nat) : Int)) := ⟨fun dst pos after guard w h => by
  have := (cexec_rem (P := P) (env := env) (ty := ty) t u x y (a : Int) (b : Int)).run dst pos after guard w (by omega)
  rw [Int.natCast_emod]
  exact this⟩
instance toNat_l85 : ToNat (85 : Int) 85 := ⟨rfl⟩
instance dec_xor (c : UInt8) (n : Nat) [h : SameB (Nat.ble n 255) true] : DecV UInt8 (.int .u8 ((c.toNat ^^^ n : Nat) : Int)) (c ^^^ UInt8.ofNat n) := ⟨by
  have hn : n ≤ 255 := Nat.le_of_ble_eq_true h.h
  show [Value.int .u8 ((c ^^^ UInt8.ofNat n).toNat : Int)] = _
  have e : (UInt8.ofNat n).toNat = n := by rw [UInt8.toNat_ofNat']; omega
  rw [UInt8.toNat_xor, e], fun _ => trivial⟩
theorem CallG_conv {P : Program} {f : FuncId} {args : Array Value} {L L' : List HProp} {K : Value → List HProp → Prop} (hL : ∀ B w, sat B L w → sat B L' w) (h : CallG P f args L' K) : CallG P f args L K := fun B w hs => h B w (hL B w hs)

theorem SyO_cut {P : Program} {B : World} {n : Nat} {ops : Array Oper} {l : List Oper} {K : Kont} {env : Env} {L : List HProp} (slots : List (Nat × Value)) (h0 : EvAll env slots) (h : ∀ env', SyO P B n ops l K (upds env' slots) L) : SyO P B n ops l K env L := by
  have := h env; rwa [EvAll.upds_eq h0] at this

def scopeQ (Q : Post) : Post := fun e env L => match e with | .normal => Q .normal env L | .ret => Q .ret env L | .exit i => Q (.exit i) env L | _ => False
theorem Sy_scope {P : Program} {B : World} {n : Nat} {c : Code} {Q : Post} {env : Env} {L : List HProp} (h : Sy P B n c (scopeQ Q) env L) : Sy P B n (.scope c) Q env L := by
  intro ok act w hr hs
  refine wp_scope_straight (wp_mono (h ok act w hr hs) ?_)
  rintro e a' w' ⟨env', L', hr', hs', hq⟩
  cases e with
  | normal => exact ⟨env', L', hr', hs', hq⟩
  | ret => exact ⟨env', L', hr', hs', hq⟩
  | exit i => exact ⟨env', L', hr', hs', hq⟩
  | _ => exact hq.elim
section
variable {P : Program} {B : World} {n : Nat} {Q : Post} {env : Env} {L : List HProp}
instance adv_scope (c : Code) : Adv (Sy P B n (.scope c) Q env L) (Sy P B n c (scopeQ Q) env L) := ⟨Sy_scope⟩
instance adv_scope_n : Adv (scopeQ Q .normal env L) (Q .normal env L) := ⟨id⟩
instance adv_scope_r : Adv (scopeQ Q .ret env L) (Q .ret env L) := ⟨id⟩
end

section
variable {P : Program} {env : Env} {ty : TypeId}
instance cexec_indexArr (t el : TypeId) (x i : Operand) (r o n j : Nat) (k : IntKind) (idx : Int) [ex : EvO env x (.pointer (some ⟨r, o, none⟩))] [ei : EvO env i (.int k idx)] [u : TUnd P t (.array n el)] [z : TSize P el 1] [nj : ToNat idx j] :
    CExec P (.indexAddr t x i) ty env (0 ≤ idx ∧ idx < n) (.pointer (some ⟨r, o + j, none⟩)) := ⟨fun dst pos after guard w h => by
  have hn : idx.toNat = j := nj.h
  simp only [execOp, ex.h, ei.h, Instr.indexAt, asIntOf, Sem.run_bind, Sem.run_pure, Result.andThen_ok, u.run, Instr.sureAddr]
  simp [h, hn, z.h, Addr.add_lit]⟩
instance cexec_buildArr (t el : TypeId) (s n : Nat) (parts : List (Nat × Operand)) (z : Value) (zs out : List Value) [e : TZero P t z] [c : CellsOf z zs] [u : TUnd P t (.array n el)] [ts : TSize P el s] [k : CatL env s 0 parts out] :
    CExec P (.build t parts.toArray) ty env (zs.length = parts.length * s) (.agg out.toArray) := ⟨fun dst pos after guard w h => by
  have hm : (Array.map (fun (x : Nat × Operand) => (x.1, ev env x.2)) parts.toArray).toList = parts.map fun p => (p.1, ev env p.2) := by simp
  have h4 := k.h [] zs (by simp) h
  rw [List.nil_append, List.nil_append] at h4
  simp only [execOp, Instr.build, Sem.run_bind, e.h, Result.andThen_ok, u.run, ts.h, hm, c.h, h4, Sem.run_pure]⟩
end

theorem ownAll_nil {α : Type} [Rep α] (g : Hp) : (fun h : Hp => ∀ x ∈ ([] : List α), Rep.own x h) g := fun _ h => by cases h
theorem ownAll_cons {α : Type} [Rep α] {B : World} {L : List HProp} {w : World} {x : α} {xs : List α} (hs : sat B (Rep.own x :: (fun h => ∀ y ∈ xs, Rep.own y h) :: L) w) : sat B ((fun h => ∀ y ∈ x :: xs, Rep.own y h) :: L) w := by
  rw [sat.star2] at hs
  refine hs.head ?_
  rintro h ⟨h₁, h₂, c, rfl, a, h₃, h₄, c', rfl, o, _⟩ y hy
  rcases List.mem_cons.1 hy with rfl | hy
  · exact (Rep.pers y).mono h₁ _ (fun k z hz => join_left hz) a
  · exact (Rep.pers y).mono h₃ _ (fun k z hz => join_ro_right c (join_left hz)) (o y hy)
theorem ownAll_of {β : Type} [Rep β] {B : World} {w : World} : ∀ {xs : List (Sl β)} {L : List HProp}, sat B (xs.map roS ++ L) w → sat B ((fun h => ∀ y ∈ xs, Rep.own y h) :: L) w
  | [], _, hs => sat_true ownAll_nil hs
  | x :: xs, L, hs => by
    have h1 : sat B (xs.map roS ++ roS x :: L) w := hs.perm List.perm_middle.symm
    have h2 := ownAll_of h1
    exact ownAll_cons (h2.perm (.swap _ _ _))
theorem flat_vals {β : Type} [Rep β] (xs : List (Sl β)) : flat xs = xs.map Sl.val := by
  unfold flat
  induction xs with
  | nil => rfl
  | cons x xs ih => rw [List.flatMap_cons, ih]; rfl
/-- A literal of slices, from its parts. -/
theorem roS_pack {β : Type} [Rep β] {B : World} {w : World} {L : List HProp} {r c : Nat} (xs : List (Sl β)) (hc : xs.length ≤ c) (hl : xs.length ≤ 1000) (hs : sat B (cells true r 0 (xs.map Sl.val) :: (xs.map roS ++ L)) w) :
    sat B (roS (⟨some ⟨r, 0, none⟩, c, xs⟩ : Sl (Sl β)) :: L) w := by
  have h1 : sat B (xs.map roS ++ cells true r 0 (xs.map Sl.val) :: L) w := hs.perm List.perm_middle.symm
  have h2 := ownAll_of h1
  rw [← flat_vals] at h2
  exact roS_of_cells hc (by omega) (h2.perm (.swap _ _ _))
/-- A literal of plain elements. -/
theorem ownAll_true {α : Type} [Rep α] {B : World} {w : World} {xs : List α} {L : List HProp} (ho : ∀ (x : α) (g : Hp), Rep.own x g) (hs : sat B L w) : sat B ((fun h => ∀ y ∈ xs, Rep.own y h) :: L) w := sat_true (fun g y _ => ho y g) hs
theorem roS_lit {α : Type} [Rep α] {B : World} {w : World} {L : List HProp} {r c : Nat} (xs : List α) (vs : List Value) (hv : flat xs = vs) (ho : ∀ (x : α) (g : Hp), Rep.own x g) (hc : xs.length ≤ c) (hl : xs.length ≤ 1000) (hs : sat B (cells true r 0 vs :: L) w) :
    sat B (roS (⟨some ⟨r, 0, none⟩, c, xs⟩ : Sl α) :: L) w := by
  subst hv
  exact roS_of_cells hc (by omega) ((ownAll_true (xs := xs) ho hs).perm (.swap _ _ _))
end Go.SL
namespace Go.SL
open Go.Proofs
set_option synthInstance.maxSize 4000
set_option synthInstance.maxHeartbeats 400000
set_option maxRecDepth 4000
set_option maxHeartbeats 2000000

/-- A fresh slice of these elements. -/
def freshS {α : Type} [Rep α] (xs : List α) (v : Value) (L : List HProp) : Prop := ∃ a c, v = .slice a xs.length c ∧ L = [ownS (⟨a, c, xs⟩ : Sl α)]
theorem freshS.mk {α : Type} [Rep α] {xs : List α} (a : Option Addr) (c : Nat) : freshS xs (.slice a xs.length c) [ownS (⟨a, c, xs⟩ : Sl α)] := ⟨a, c, rfl, rfl⟩

theorem own_empty {α : Type} [Rep α] (r : Nat) (g : Hp) : ownS (⟨some ⟨r, 0, none⟩, 0, []⟩ : Sl α) g :=
  ⟨⟨fun x hx => by cases hx; rfl, Nat.le_refl _, by simp, Nat.zero_le _⟩, ⟨[], by simp, fun i v hi => by simp [flat] at hi⟩, fun _ h => by cases h⟩

theorem AppG.first {P : Program} {α : Type} [Rep α] {t ty e k b r : Nat} {zs : List Value} {L R : List HProp} {K : Value → List HProp → Prop} (y : Sl α) [u : TUnd P t (.slice e)] [ti : TI P e k b zs] [kk : KIs α k] [p : Picks [roS y] L R]
    (hb : y.xs.length * b ≤ 140737488355328 ∧ y.xs.length ≤ 140737488355328)
    (h : ∀ a c, K (.slice a y.xs.length c) (ownS ⟨a, c, y.xs⟩ :: R)) {v2 : Value} (e2 : v2 = y.val := by rfl) : AppG P t ty (.slice (some ⟨r, 0, none⟩) 0 0) v2 L K := by
  intro B w hs
  subst e2
  have h1 : sat B (roS y :: R) w := by simpa using p.out B [] w (by simpa using hs)
  have h2 : sat B (ownS (⟨some ⟨r, 0, none⟩, 0, []⟩ : Sl α) :: roS y :: R) w := sat_true (own_empty r) h1
  obtain ⟨a, c, w', hr, hs'⟩ := append_run (P := P) (t := t) (ty := ty) (e := e) (zs := zs) kk.h.symm (by simpa using hb.1) (by simpa using hb.2) h2
  exact ⟨_, w', _, hr, (hs'.perm (.swap _ _ _)).tail, h a c⟩

theorem sl_nil {α : Type} {s : Sl α} (h : s.ok) (hn : s.a.isNone = true) : s = ⟨none, 0, []⟩ := by
  obtain ⟨a, c, xs⟩ := s
  simp only [Option.isNone_iff_eq_none] at hn
  subst hn
  have h1 := h.null rfl
  have h2 := h.cap
  simp only at h1 h2
  subst h1
  have : xs = [] := List.eq_nil_of_length_eq_zero (by omega)
  rw [this]

theorem clone_bytes (s : Sl UInt8) : Spec Tryz.prog 79 #[s.val] [roS s] (freshS s.xs) := by
  refine enter1 Tryz.func79 rfl (by decide) (by decide) ?_
  intro B F
  dsimp only [lcA, lnA]
  refine Sy_know (ro_ok s) (fun hs => ?_)
  have hsl := hs.len
  repeat' first | refine adv ?_ | refine Side.go ?_ | refine Giv.mk fun _ => ?_ | refine All.mk fun q => ?_ | refine Fork.mk ?_ ?_ | (refine Two.mk (fun h => ?_) (fun h => ?_) <;> try first | contradiction | (exfalso; omega))
  · have := sl_nil hs (by assumption)
    subst this
    exact endQ_conv (fun w h => sat_true (own_nil (α := UInt8)) h) (endQ.one Tryz.results79 (freshS.mk (α := UInt8) none 0))
  · refine AppG.first s (by omega) (fun a c => ?_)
    repeat' first | refine adv ?_ | refine Side.go ?_ | refine Giv.mk fun _ => ?_ | refine All.mk fun q => ?_ | refine Fork.mk ?_ ?_ | (refine Two.mk (fun h => ?_) (fun h => ?_) <;> try first | contradiction | (exfalso; omega))
    exact endQ.one Tryz.results79 (freshS.mk a c)

theorem take_snoc_eq {α : Type} (s t : List α) (k : Nat) (h : k < s.length) (h' : k < t.length) (e : s.take k = t.take k) (e' : s[k] = t[k]) : s.take (k + 1) = t.take (k + 1) := by
  rw [List.take_succ_eq_append_getElem h, List.take_succ_eq_append_getElem h', e, e']

theorem equal_bytes (s t : Sl UInt8) :
   Spec Tryz.prog 119 #[s.val, t.val] [roS s, roS t] (fun v L => v = .bool (decide (s.xs = t.xs)) ∧ L = []) := by
  refine enter2 Tryz.func119 rfl (by decide) (by decide) ?_
  intro B F
  dsimp only [lcA, lnA]
  refine Sy_know (ro_ok s) (fun hs => ?_)
  have hsl := hs.len
  repeat' first | refine adv ?_ | refine Side.go ?_ | refine Giv.mk fun _ => ?_ | refine All.mk fun q => ?_ | refine Fork.mk ?_ ?_ | (refine Two.mk (fun h => ?_) (fun h => ?_) <;> try first | contradiction | (exfalso; omega))
  · refine endQ.one Tryz.results119 ⟨?_, rfl⟩
    have : s.xs ≠ t.xs := fun e => h (by rw [e])
    simp [this]
  · have hl : s.xs.length = t.xs.length := by omega
    refine Sy_loop (ι := {k : Nat // k ≤ s.xs.length ∧ s.xs.take k = t.xs.take k}) (fun k => [(13, .int .i64 k.1), (12, .int .i64 s.xs.length), (0, s.val), (1, t.val)]) (fun _ => roS s :: roS t :: F)
      (fun k => s.xs.length - k.1) ⟨0, by simp⟩ (evs rfl (evs rfl (evs rfl (evs rfl .nil)))) (fun _ h => h) ?_
    rintro ⟨k, hk, he⟩ env
    dsimp only [upds]
    repeat' first | refine adv ?_ | refine Side.go ?_ | refine Giv.mk fun _ => ?_ | refine All.mk fun q => ?_ | refine Fork.mk ?_ ?_ | (refine Two.mk (fun h => ?_) (fun h => ?_) <;> try first | contradiction | (exfalso; omega))
    · refine endQ.one Tryz.results119 ⟨?_, rfl⟩
      have : s.xs ≠ t.xs := fun e => h (by simp [e])
      simp [this]
    · refine loopQ.next ⟨k + 1, by omega, take_snoc_eq _ _ k (by omega) (by omega) he (UInt8.toNat_inj.1 (by omega))⟩ (by simp only []; omega) (evs rfl (evs rfl (evs rfl (evs rfl .nil)))) (fun _ h => h)
    · refine endQ.one Tryz.results119 ⟨?_, rfl⟩
      have hk2 : k = s.xs.length := by omega
      subst hk2
      rw [List.take_of_length_le (Nat.le_refl _), List.take_of_length_le (by omega)] at he
      simp [he]

theorem grow_nil (n : Nat) (hn : n ≤ 1000000000) : Spec Tryz.prog 168 #[.slice none 0 0, .int .i64 n] [] (freshS ([] : List UInt8)) := by
  refine enter2 Tryz.func168 rfl (by decide) (by decide) ?_
  intro B F
  dsimp only [lcA, lnA]
  refine Sy_conv (fun w h => sat_true (own_nil (α := UInt8)) h) ?_
  repeat' first | refine adv ?_ | refine Side.go ?_ | refine Giv.mk fun _ => ?_ | refine All.mk fun q => ?_ | refine Fork.mk ?_ ?_ | (refine Two.mk (fun h => ?_) (fun h => ?_) <;> try first | contradiction | (exfalso; omega))
  · refine AppZ_conv (L' := ownS (⟨none, 0, []⟩ : Sl UInt8) :: F) (fun _ _ h => h) ?_
    refine AppZ.use (⟨none, 0, []⟩ : Sl UInt8) n (by omega) (by simp; omega) (fun a c => ?_)
    repeat' first | refine adv ?_ | refine Side.go ?_ | refine Giv.mk fun _ => ?_ | refine All.mk fun q => ?_ | refine Fork.mk ?_ ?_ | (refine Two.mk (fun h => ?_) (fun h => ?_) <;> try first | contradiction | (exfalso; omega))
    refine endQ_conv (L' := ownS (⟨a, c, []⟩ : Sl UInt8) :: F) (fun _ h => h) ?_
    exact endQ.one Tryz.results168 (freshS.mk a c)
  · exact endQ.one Tryz.results168 (freshS.mk none 0)

theorem cat_take {α β : Type} (l : List α) (f : α → List β) (k : Nat) (h : k < l.length) : (l.take (k + 1)).flatMap f = (l.take k).flatMap f ++ f l[k] := by
  rw [List.take_succ_eq_append_getElem h, List.flatMap_append, List.flatMap_singleton]
theorem cat_len {α β : Type} (l : List α) (f : α → List β) (k : Nat) (h : k < l.length) : ((l.take k).flatMap f).length + (f l[k]).length ≤ (l.flatMap f).length := by
  have h1 : l = l.take (k + 1) ++ l.drop (k + 1) := (List.take_append_drop _ _).symm
  have h2 : l.flatMap f = (l.take k).flatMap f ++ f l[k] ++ (l.drop (k + 1)).flatMap f := by
    rw [← cat_take l f k h, ← List.flatMap_append, ← h1]
  rw [h2]; simp only [List.length_append]; omega

theorem concat_bytes (ps : Sl (Sl UInt8)) (hl : (ps.xs.flatMap (·.xs)).length ≤ 1000000000) : Spec Tryz.prog 149 #[ps.val] [roS ps] (freshS (ps.xs.flatMap (·.xs))) := by
  refine enter1 Tryz.func149 rfl (by decide) (by decide) ?_
  intro B F
  dsimp only [lcA, lnA]
  refine Sy_know (ro_ok ps) (fun hs => ?_)
  have hsl := hs.len
  repeat' first | refine adv ?_ | refine Side.go ?_ | refine Giv.mk fun _ => ?_ | refine All.mk fun q => ?_ | refine Fork.mk ?_ ?_ | (refine Two.mk (fun h => ?_) (fun h => ?_) <;> try first | contradiction | (exfalso; omega))
  refine Sy_loop (ι := {k : Nat // k ≤ ps.xs.length}) (fun k => [(11, .int .i64 k.1), (10, .int .i64 ps.xs.length), (9, ps.val), (3, .int .i64 (((ps.xs.take k.1).flatMap (·.xs)).length : Nat)), (0, ps.val)]) (fun _ => roS ps :: F)
      (fun k => ps.xs.length - k.1) ⟨0, Nat.zero_le _⟩ (evs rfl (evs rfl (evs rfl (evs rfl (evs rfl .nil))))) (fun _ h => h) ?_
  rintro ⟨k, hk⟩ env
  dsimp only [upds]
  have hcl := cat_len ps.xs (·.xs) k
  repeat' first | refine adv ?_ | refine Side.go ?_ | refine Giv.mk fun _ => ?_ | refine All.mk fun q => ?_ | refine Fork.mk ?_ ?_ | (refine Two.mk (fun h => ?_) (fun h => ?_) <;> try first | contradiction | (exfalso; omega))
  · have hk2 : k < ps.xs.length := by omega
    have hcl2 := hcl hk2
    repeat' first | refine adv ?_ | refine Side.go ?_ | refine Giv.mk fun _ => ?_ | refine All.mk fun q => ?_ | refine Fork.mk ?_ ?_ | (refine Two.mk (fun h => ?_) (fun h => ?_) <;> try first | contradiction | (exfalso; omega))
    refine loopQ.next ⟨k + 1, by omega⟩ (by simp only []; omega) (evs rfl (evs rfl (evs rfl (evs ?_ (evs rfl .nil))))) (fun _ h => h)
    rw [cat_take _ _ _ hk2, List.length_append]
    rfl
  · have hk8 : k = ps.xs.length := by omega
    subst hk8
    rw [List.take_length] at *
    refine CallG.use (grow_nil _ hl) ?_
    rintro r M ⟨a, c, rfl, rfl⟩
    dsimp only [lcA, lnA]
    repeat' first | refine adv ?_ | refine Side.go ?_ | refine Giv.mk fun _ => ?_ | refine All.mk fun q => ?_ | refine Fork.mk ?_ ?_ | (refine Two.mk (fun h => ?_) (fun h => ?_) <;> try first | contradiction | (exfalso; omega))
    refine Sy_loop (ι := {k : Nat // k ≤ ps.xs.length} × Option Addr × Nat) (fun k => [(27, .int .i64 k.1.1), (26, .int .i64 ps.xs.length), (25, ps.val), (6, .slice k.2.1 ((ps.xs.take k.1.1).flatMap (·.xs)).length k.2.2)])
      (fun k => ownS (⟨k.2.1, k.2.2, (ps.xs.take k.1.1).flatMap (·.xs)⟩ : Sl UInt8) :: roS ps :: F)
      (fun k => ps.xs.length - k.1.1) ⟨⟨0, Nat.zero_le _⟩, a, c⟩ (evs rfl (evs rfl (evs rfl (evs rfl .nil)))) (fun _ h => h) ?_
    rintro ⟨⟨k, hk⟩, a, c⟩ env
    dsimp only [upds]
    have hcl := cat_len ps.xs (·.xs) k
    repeat' first | refine adv ?_ | refine Side.go ?_ | refine Giv.mk fun _ => ?_ | refine All.mk fun q => ?_ | refine Fork.mk ?_ ?_ | (refine Two.mk (fun h => ?_) (fun h => ?_) <;> try first | contradiction | (exfalso; omega))
    · have hk2 : k < ps.xs.length := by omega
      have hcl2 := hcl hk2
      refine AppG_conv (L' := roS ps.xs[k] :: roS ps :: ownS (⟨a, c, (ps.xs.take k).flatMap (·.xs)⟩ : Sl UInt8) :: F) (fun B w h => ro_pull_sl hk2 (h.perm (.swap _ _ _))) ?_
      have hb : ((ps.xs.take k).flatMap (·.xs)).length + ps.xs[k].xs.length ≤ 140737488355328 := by omega
      refine AppG.many (⟨a, c, (ps.xs.take k).flatMap (·.xs)⟩ : Sl UInt8) (ps.xs[k]'hk2) ?_ (fun a c => ?_)
      · rw [Nat.mul_one]; exact ⟨hb, hb⟩
      repeat' first | refine adv ?_ | refine Side.go ?_ | refine Giv.mk fun _ => ?_ | refine All.mk fun q => ?_ | refine Fork.mk ?_ ?_ | (refine Two.mk (fun h => ?_) (fun h => ?_) <;> try first | contradiction | (exfalso; omega))
      refine loopQ.next ⟨⟨k + 1, by omega⟩, a, c⟩ (by simp only []; omega) (evs rfl (evs rfl (evs rfl (evs ?_ .nil)))) (fun w h => ?_)
      · rw [cat_take _ _ _ hk2]
      · rw [cat_take _ _ _ hk2]; exact goes w h
    · have hk8 : k = ps.xs.length := by omega
      subst hk8
      rw [List.take_length] at *
      repeat' first | refine adv ?_ | refine Side.go ?_ | refine Giv.mk fun _ => ?_ | refine All.mk fun q => ?_ | refine Fork.mk ?_ ?_ | (refine Two.mk (fun h => ?_) (fun h => ?_) <;> try first | contradiction | (exfalso; omega))
      exact endQ.one Tryz.results149 (freshS.mk a c)
end Go.SL
namespace Go.SL
open Go.Proofs
set_option synthInstance.maxSize 4000
set_option synthInstance.maxHeartbeats 400000
set_option maxRecDepth 4000
set_option maxHeartbeats 2000000

/-- A zone as it lies in memory. -/
structure ZR where
  b : Sl (Sl UInt8)
  g : Nat
def zoneO (q : Ptr × ZR) : HProp := star [cells true q.1.r 0 [q.2.b.val, .int .i64 q.2.g], ownS q.2.b]

/-- A device as it lies in memory. -/
structure DR where
  Z : Nat
  S : Nat
  a : Option Addr
  c : Nat
  zs : List (Ptr × ZR)
  ops : Int
  reads : Int
  cut : Bool
  left : Nat
  off : Bool
def DR.zp (d : DR) : Sl Ptr := ⟨d.a, d.c, d.zs.map (·.1)⟩
@[reducible] def devH (r : Nat) (d : DR) : HProp := cells true r 0 [.int .i64 d.Z, .int .i64 d.S, .slice d.a (d.zs.map (·.1)).length d.c, .int .i64 (cnt d.ops), .int .i64 (cnt d.reads), .bool d.cut, .int .i64 d.left, .bool d.off]
@[reducible] def devR (d : DR) : HProp := roS (⟨d.a, d.c, d.zs.map (·.1)⟩ : Sl Ptr)
@[reducible] def devL (r : Nat) (d : DR) : List HProp := [devH r d, devR d, bigS zoneO d.zs]

instance (priority := low) to_zone (p : Ptr) (z : ZR) (L M : List HProp) [t : To L (cells true p.r 0 [z.b.val, .int .i64 z.g] :: ownS z.b :: M)] : To L (zoneO (p, z) :: M) :=
  t.of fun _ _ _ s => sat_star (M := [cells true p.r 0 [z.b.val, .int .i64 z.g], ownS z.b]).2 s

structure ZR.ok (S : Nat) (z : ZR) : Prop where
  len : z.b.xs.length ≤ S
  good : z.g ≤ z.b.xs.length
  size : ∀ b ∈ z.b.xs, b.xs.length = 64
structure DR.ok (d : DR) : Prop where
  z0 : 8 ≤ d.Z
  z1 : d.Z ≤ 64
  s0 : 96 ≤ d.S
  s1 : d.S ≤ 192
  n : d.zs.length = d.Z
  zs : ∀ z ∈ d.zs, z.2.ok d.S
  left : d.left < 9223372036854775807

theorem dev_new (Z S : Int) : Spec Tryz.prog 11 #[.agg #[.int .i64 Z, .int .i64 S]] [] (fun v L =>
    (¬ ((8 ≤ Z ∧ Z ≤ 64) ∧ 96 ≤ S ∧ S ≤ 192) ∧ v = .tuple #[.pointer none, .int .i64 1] ∧ L = []) ∨
    (((8 ≤ Z ∧ Z ≤ 64) ∧ 96 ≤ S ∧ S ≤ 192) ∧ ∃ r a c, ∃ ps : List Ptr, ps.length = Z.toNat ∧ v = .tuple #[.pointer (some ⟨r, 0, none⟩), .int .i64 0] ∧
      L = devL r ⟨Z.toNat, S.toNat, a, c, ps.map (fun p => (p, ⟨⟨none, 0, []⟩, 0⟩)), 0, 0, false, 0, false⟩)) := by
  refine enter1 Tryz.func11 rfl (by decide) (by decide) ?_
  intro B F
  dsimp only [lcA, lnA]
  repeat' first | refine adv ?_ | refine Side.go ?_ | refine Giv.mk fun _ => ?_ | refine All.mk fun q => ?_ | refine Fork.mk ?_ ?_ | (refine Two.mk (fun h => ?_) (fun h => ?_) <;> try first | contradiction | (exfalso; omega))
  · exact endQ.two Tryz.results11 (.inl ⟨by omega, rfl, rfl⟩)
  · exact endQ.two Tryz.results11 (.inl ⟨by omega, rfl, rfl⟩)
  · exact endQ.two Tryz.results11 (.inl ⟨by omega, rfl, rfl⟩)
  · exact endQ.two Tryz.results11 (.inl ⟨by omega, rfl, rfl⟩)
  · have hz : (8 ≤ Z ∧ Z ≤ 64) ∧ 96 ≤ S ∧ S ≤ 192 := by omega
    obtain ⟨Z, rfl⟩ := Int.eq_ofNat_of_zero_le (a := Z) (by omega)
    obtain ⟨S, rfl⟩ := Int.eq_ofNat_of_zero_le (a := S) (by omega)
    refine Sy_loop (ι := {ps : List Ptr // ps.length ≤ Z} × Option Addr × Nat) (fun i => [(28, .int .i64 i.1.1.length), (27, .int .i64 Z), (4, .pointer (some ⟨q, 0, none⟩))])
      (fun i => cells true q 0 [.int .i64 Z, .int .i64 S, .slice i.2.1 i.1.1.length i.2.2, .int .i64 0, .int .i64 0, .bool false, .int .i64 0, .bool false] :: ownS (⟨i.2.1, i.2.2, i.1.1⟩ : Sl Ptr) :: bigS zoneO (i.1.1.map fun p => (p, ⟨⟨none, 0, []⟩, 0⟩)) :: F)
      (fun i => Z - i.1.1.length) ⟨⟨[], Nat.zero_le _⟩, none, 0⟩ (evs rfl (evs rfl (evs rfl .nil))) (fun w h => ?_) ?_
    · have h2 := sat_true (own_nil (α := Ptr)) (sat_true (A := bigS zoneO (List.map (fun p => (p, ⟨⟨none, 0, []⟩, 0⟩)) ([] : List Ptr))) (bigS_nil zoneO) h)
      dsimp only [List.length_nil]
      exact goes w h2
    rintro ⟨⟨ps, hps⟩, a, c⟩ env
    dsimp only [upds]
    repeat' first | refine adv ?_ | refine Side.go ?_ | refine Giv.mk fun _ => ?_ | refine All.mk fun q => ?_ | refine Fork.mk ?_ ?_ | (refine Two.mk (fun h => ?_) (fun h => ?_) <;> try first | contradiction | (exfalso; omega))
    · rename_i zp
      refine AppG.one' (⟨a, c, ps⟩ : Sl Ptr) ⟨zp⟩ (fun _ => trivial) ?_ (fun a c => ?_)
      · simp only []; omega
      repeat' first | refine adv ?_ | refine Side.go ?_ | refine Giv.mk fun _ => ?_ | refine All.mk fun q => ?_ | refine Fork.mk ?_ ?_ | (refine Two.mk (fun h => ?_) (fun h => ?_) <;> try first | contradiction | (exfalso; omega))
      refine loopQ.next ⟨⟨ps ++ [⟨zp⟩], by simp; omega⟩, a, c⟩ (by simp; omega) (evs (by simp) (evs rfl (evs rfl .nil))) (fun w h => ?_)
      simp only [List.map_append, List.map_cons, List.map_nil]
      exact goes w h
    · have hz2 : ps.length = Z := by omega
      refine endQ.twoW Tryz.results11 (.inr ⟨hz, q, a, c, ps, hz2, rfl, rfl⟩) (fun w h => ?_)
      have e : (ps.map (fun p => (p, (⟨⟨none, 0, []⟩, 0⟩ : ZR)))).map (·.1) = ps := by simp [Function.comp_def]
      have e0 : cnt 0 = 0 := by decide
      dsimp only [devL, devH, devR, List.cons_append, List.nil_append, Int.toNat_natCast]
      rw [e, e0]
      exact goes w h

structure Dv where
  Z : Nat
  S : Nat
  zs : List (List (List UInt8) × Nat)
  ops : Int
  reads : Int
  cut : Bool
  left : Nat
  off : Bool
def ZR.zv (z : ZR) : List (List UInt8) × Nat := (z.b.xs.map (·.xs), z.g)
def DR.dv (d : DR) : Dv := ⟨d.Z, d.S, d.zs.map (·.2.zv), d.ops, d.reads, d.cut, d.left, d.off⟩
structure Dv.ok (d : Dv) : Prop where
  z0 : 8 ≤ d.Z
  z1 : d.Z ≤ 64
  s0 : 96 ≤ d.S
  s1 : d.S ≤ 192
  n : d.zs.length = d.Z
  zs : ∀ z ∈ d.zs, z.1.length ≤ d.S ∧ z.2 ≤ z.1.length ∧ ∀ b ∈ z.1, b.length = 64
  left : d.left < 9223372036854775807
/-- A device. -/
def devO (r : Nat) (D : Dv) : HProp := ex fun d : DR => star (says (d.dv = D) :: devL r d)

theorem devO_open {B : World} {L : List HProp} {r : Nat} {D : Dv} {w : World} (h : sat B (devO r D :: L) w) : ∃ d : {d : DR // d.dv = D}, sat B (devL r d.1 ++ L) w := by
  obtain ⟨d, hd⟩ := sat_ex.1 h
  have h1 := sat_star.1 hd
  obtain ⟨e, h2⟩ := sat_says.1 h1
  exact ⟨⟨d, e⟩, h2⟩
theorem devO_close {B : World} {L : List HProp} {r : Nat} {w : World} (d : DR) {D : Dv} (e : d.dv = D)
    (h : sat B (cells true r 0 [.int .i64 d.Z, .int .i64 d.S, .slice d.a (d.zs.map (·.1)).length d.c, .int .i64 (cnt d.ops), .int .i64 (cnt d.reads), .bool d.cut, .int .i64 d.left, .bool d.off] :: roS (⟨d.a, d.c, d.zs.map (·.1)⟩ : Sl Ptr) :: bigS zoneO d.zs :: L) w) : sat B (devO r D :: L) w :=
  sat_ex.2 ⟨d, sat_star.2 (sat_says.2 ⟨e, h⟩)⟩
theorem zone_open {B : World} {L : List HProp} {zs : List (Ptr × ZR)} {i : Nat} {w : World} (hi : i < zs.length) (h : sat B (bigS zoneO zs :: L) w) :
    sat B (cells true zs[i].1.r 0 [zs[i].2.b.val, .int .i64 zs[i].2.g] :: ownS zs[i].2.b :: bigS zoneO (zs.eraseIdx i) :: L) w :=
  sat_star.1 ((bigS_open hi).1 h)
theorem zone_shut {B : World} {L : List HProp} {zs : List (Ptr × ZR)} {i : Nat} {w : World} (hi : i < zs.length)
    (h : sat B (cells true zs[i].1.r 0 [zs[i].2.b.val, .int .i64 zs[i].2.g] :: ownS zs[i].2.b :: bigS zoneO (zs.eraseIdx i) :: L) w) : sat B (bigS zoneO zs :: L) w :=
  (bigS_open hi).2 (sat_star.2 h)
theorem zone_close {B : World} {L : List HProp} {zs : List (Ptr × ZR)} {i : Nat} {w : World} (hi : i < zs.length) (z : ZR)
    (h : sat B (cells true zs[i].1.r 0 [z.b.val, .int .i64 z.g] :: ownS z.b :: bigS zoneO (zs.eraseIdx i) :: L) w) : sat B (bigS zoneO (zs.set i (zs[i].1, z)) :: L) w :=
  bigS_close hi (zs[i].1, z) (sat_star.2 h)

theorem DR.len {d : DR} {D : Dv} (ok : D.ok) (e : d.dv = D) : d.zs.length = D.Z ∧ 8 ≤ d.zs.length := by
  have := ok.n
  have h0 := ok.z0
  rw [← e] at this h0 ⊢
  simp [DR.dv] at this h0 ⊢
  omega

theorem dev_gone (r : Nat) (d : DR) (ok : d.dv.ok) : Spec Tryz.prog 49 #[.pointer (some ⟨r, 0, none⟩)] (devL r d) (fun v L => v = .bool false ∧ L = devL r d) := by
  refine enter1 Tryz.func49 rfl (by decide) (by decide) ?_
  intro B F
  dsimp only [lcA, lnA]
  dsimp only [List.cons_append, List.nil_append, devL, devH, devR]
  repeat' first | refine adv ?_ | refine Side.go ?_ | refine Giv.mk fun _ => ?_ | refine All.mk fun q => ?_ | refine Fork.mk ?_ ?_ | (refine Two.mk (fun h => ?_) (fun h => ?_) <;> try first | contradiction | (exfalso; omega))
  have hn := DR.len ok rfl
  have e1 : decide (((d.zs.map (·.1)).length : Int) = 0) = false := by simp; intro h; simp [h] at hn
  exact endQ.one Tryz.results49 ⟨by rw [e1], rfl⟩

/-- Which pointer a zone has. -/
theorem dev_at (r : Nat) (d : DR) (ok : d.dv.ok) (i : Int) : Spec Tryz.prog 111 #[.pointer (some ⟨r, 0, none⟩), .int .i64 i] (devL r d) (fun v L => L = devL r d ∧
    ((∃ j : Nat, ∃ h : j < d.zs.length, i = j ∧ v = .pointer (some ⟨d.zs[j].1.r, 0, none⟩)) ∨ (¬ (0 ≤ i ∧ i < d.dv.Z) ∧ v = .pointer none))) := by
  refine enter2 Tryz.func111 rfl (by decide) (by decide) ?_
  intro B F
  dsimp only [lcA, lnA]
  dsimp only [List.cons_append, List.nil_append, devL, devH, devR]
  have hn := DR.len ok rfl
  have hn2 : (d.zs.map (·.1)).length = d.dv.Z := by simp; omega
  repeat' first | refine adv ?_ | refine Side.go ?_ | refine Giv.mk fun _ => ?_ | refine All.mk fun q => ?_ | refine Fork.mk ?_ ?_ | (refine Two.mk (fun h => ?_) (fun h => ?_) <;> try first | contradiction | (exfalso; omega))
  refine CallG.use (dev_gone r d ok) ?_
  rintro r M ⟨rfl, rfl⟩
  dsimp only [lcA, lnA]
  repeat' first | refine adv ?_ | refine Side.go ?_ | refine Giv.mk fun _ => ?_ | refine All.mk fun q => ?_ | refine Fork.mk ?_ ?_ | (refine Two.mk (fun h => ?_) (fun h => ?_) <;> try first | contradiction | (exfalso; omega))
  · exact endQ.one Tryz.results111 ⟨rfl, .inr ⟨by omega, rfl⟩⟩
  · exact endQ.one Tryz.results111 ⟨rfl, .inr ⟨by omega, rfl⟩⟩
  · have hi : i.toNat < d.zs.length := by omega
    exact endQ.one Tryz.results111 ⟨rfl, .inl ⟨i.toNat, hi, by omega, by simp⟩⟩

def DR.begin (d : DR) : Bool × DR :=
  if d.off ∨ (d.cut ∧ d.left < 1) then (false, { d with ops := d.ops + 1, off := true })
  else (true, { d with ops := d.ops + 1, left := if d.cut then d.left - 1 else d.left })

theorem dev_begin0 (r : Nat) (d : DR) (ok : d.dv.ok) : Spec Tryz.prog 112 #[.pointer (some ⟨r, 0, none⟩)] (devL r d) (fun v L => v = .bool d.begin.1 ∧ L = devL r d.begin.2) := by
  refine enter1 Tryz.func112 rfl (by decide) (by decide) ?_
  intro B F
  dsimp only [lcA, lnA]
  dsimp only [List.cons_append, List.nil_append, devL, devH, devR]
  have hl : d.left < 9223372036854775807 := ok.left
  repeat' first | refine adv ?_ | refine Side.go ?_ | refine Giv.mk fun _ => ?_ | refine All.mk fun q => ?_ | refine Fork.mk ?_ ?_ | (refine Two.mk (fun h => ?_) (fun h => ?_) <;> try first | contradiction | (exfalso; omega))
  · have e : d.begin = (false, { d with ops := d.ops + 1, off := true }) := by unfold DR.begin; rw [if_pos (.inl (by assumption))]
    rw [e]
    exact endQ.one Tryz.results112 ⟨rfl, rfl⟩
  · have e : d.begin = (false, { d with ops := d.ops + 1, off := true }) := by unfold DR.begin; rw [if_pos (.inr ⟨by assumption, by omega⟩)]
    have e2 : decide ((d.left : Int) < 1) = true := by simp; omega
    rw [e, e2]
    exact endQ.one Tryz.results112 ⟨rfl, rfl⟩
  · rename_i h0 h1 h2
    have e : d.begin = (true, { d with ops := d.ops + 1, left := d.left - 1 }) := by unfold DR.begin; rw [if_neg (by rintro (h | ⟨_, h⟩) <;> first | exact h0 h | omega), if_pos h1]
    have e2 : decide ((d.left : Int) < 1) = d.off := by rw [Bool.eq_false_iff.2 h0]; simp; omega
    have e3 : (d.left : Int) - 1 = ((d.left - 1 : Nat) : Int) := by omega
    rw [e, e2, e3]
    exact endQ.one Tryz.results112 ⟨rfl, rfl⟩
  · rename_i h0 h1
    have e : d.begin = (true, { d with ops := d.ops + 1 }) := by unfold DR.begin; rw [if_neg (by rintro (h | ⟨h, _⟩) <;> contradiction), if_neg h1]
    have e2 : false = d.off := (Bool.eq_false_iff.2 h0).symm
    rw [e, e2]
    exact endQ.one Tryz.results112 ⟨by rw [← e2], rfl⟩

theorem DR.begin_ok {d : DR} (ok : d.dv.ok) : d.begin.2.dv.ok := by
  unfold DR.begin
  split
  · exact ⟨ok.z0, ok.z1, ok.s0, ok.s1, ok.n, ok.zs, ok.left⟩
  · refine ⟨ok.z0, ok.z1, ok.s0, ok.s1, ok.n, ok.zs, ?_⟩
    have : d.left < 9223372036854775807 := ok.left
    show (if d.cut then d.left - 1 else d.left) < _
    split <;> omega

def Dv.begin (d : Dv) : Bool × Dv :=
  if d.off ∨ (d.cut ∧ d.left < 1) then (false, { d with ops := d.ops + 1, off := true })
  else (true, { d with ops := d.ops + 1, left := if d.cut then d.left - 1 else d.left })
theorem DR.begin_eq (d : DR) : d.begin.1 = d.dv.begin.1 ∧ d.begin.2.dv = d.dv.begin.2 := by
  unfold DR.begin Dv.begin
  by_cases h : d.off = true ∨ (d.cut = true ∧ d.left < 1)
  · rw [if_pos h, if_pos (show d.dv.off = true ∨ (d.dv.cut = true ∧ d.dv.left < 1) from h)]; exact ⟨rfl, rfl⟩
  · rw [if_neg h, if_neg (show ¬ (d.dv.off = true ∨ (d.dv.cut = true ∧ d.dv.left < 1)) from h)]; exact ⟨rfl, rfl⟩

theorem Spec.mono {P : Program} {f : FuncId} {args : Array Value} {pre : List HProp} {p q : Value → List HProp → Prop} (h : Spec P f args pre p) (hpq : ∀ v L, p v L → q v L) : Spec P f args pre q := fun B F w hs =>
  (h B F w hs).mono fun _ _ ⟨v, L, e, hp, hs'⟩ => ⟨v, L, e, hpq v L hp, hs'⟩

theorem dev_begin (r : Nat) (d : DR) (ok : d.dv.ok) : Spec Tryz.prog 112 #[.pointer (some ⟨r, 0, none⟩)] (devL r d) (fun v L => ∃ (o : Int) (l : Nat) (f : Bool), v = .bool d.dv.begin.1 ∧ L = devL r { d with ops := o, left := l, off := f } ∧
    d.dv.begin.2 = { d.dv with ops := o, left := l, off := f }) := by
  refine (dev_begin0 r d ok).mono ?_
  rintro v L ⟨rfl, rfl⟩
  rw [(DR.begin_eq d).1, ← (DR.begin_eq d).2]
  unfold DR.begin
  split
  · exact ⟨_, _, _, rfl, rfl, rfl⟩
  · exact ⟨_, _, _, rfl, rfl, rfl⟩

instance ld_zone0 (zs : List (Ptr × ZR)) (j : Nat) (L : List HProp) [lt : Lt j zs.length] : Ld (bigS zoneO zs :: L) (zs[j]'lt.h).1.r 0 (.slice (zs[j]'lt.h).2.b.a (zs[j]'lt.h).2.b.xs.length (zs[j]'lt.h).2.b.c) :=
  ⟨fun _ _ hs => (zone_open lt.h hs).cell (i := 0) rfl⟩
theorem ntt {b : Bool} (h : ¬¬ b = true) : ¬ b = false := by simpa using h
theorem zone_ok {d : DR} (ok : d.dv.ok) {j : Nat} (hj : j < d.zs.length) : d.zs[j].2.b.xs.length ≤ d.S ∧ d.S ≤ 192 ∧ d.zs[j].2.g ≤ d.zs[j].2.b.xs.length ∧ ∀ b ∈ d.zs[j].2.b.xs, b.xs.length = 64 := by
  have h2 := ok.zs d.zs[j].2.zv (List.mem_map.2 ⟨d.zs[j], List.getElem_mem hj, rfl⟩)
  have h3 : d.S ≤ 192 := ok.s1
  have hl : d.zs[j].2.zv.1.length = d.zs[j].2.b.xs.length := by simp [ZR.zv]
  rw [hl] at h2
  exact ⟨h2.1, h3, h2.2.1, fun b hb => h2.2.2 b.xs (List.mem_map.2 ⟨b, hb, rfl⟩)⟩
theorem map_set_fst (zs : List (Ptr × ZR)) (j : Nat) (z : ZR) {hj : j < zs.length} : (zs.set j (zs[j].1, z)).map (·.1) = zs.map (·.1) := by
  rw [List.map_set]
  have : (zs.map (·.1))[j]? = some zs[j].1 := by simp [hj]
  apply List.ext_getElem?
  intro i
  rw [List.getElem?_set]
  split
  · rename_i h; subst h; simp [hj]
  · rfl

/-- What Append answers, and what becomes of the device. -/
def Dv.append (D : Dv) (i : Int) (p : List UInt8) : Int × Int × Dv :=
  if 0 ≤ i ∧ i < D.Z then
    if p.length ≠ 64 then (0, 3, D)
    else if D.begin.1 = false then (0, 12, D.begin.2)
    else if D.S ≤ (D.zs[i.toNat]?.getD ([], 0)).1.length then (0, 9, D.begin.2)
    else ((D.zs[i.toNat]?.getD ([], 0)).1.length, 0, { D.begin.2 with zs := D.zs.set i.toNat ((D.zs[i.toNat]?.getD ([], 0)).1 ++ [p], (D.zs[i.toNat]?.getD ([], 0)).2) })
  else (0, 1, D)

theorem dev_append (r : Nat) (D : Dv) (ok : D.ok) (i : Int) (p : Sl UInt8) : Spec Tryz.prog 104 #[.pointer (some ⟨r, 0, none⟩), .int .i64 i, p.val] [devO r D, roS p]
    (fun v L => v = .tuple #[.int .i64 (D.append i p.xs).1, .int .i64 (D.append i p.xs).2.1] ∧ L = [devO r (D.append i p.xs).2.2]) := by
  refine enter3 Tryz.func104 rfl (by decide) (by decide) ?_
  intro B F
  dsimp only [lcA, lnA]
  refine Sy_all (fun w h => devO_open h) (fun d => ?_)
  obtain ⟨d, rfl⟩ := d
  dsimp only [List.cons_append, List.nil_append, devL, devH, devR]
  repeat' first | refine adv ?_ | refine Side.go ?_ | refine Giv.mk fun _ => ?_ | refine All.mk fun q => ?_ | refine Fork.mk ?_ ?_ | (refine Two.mk (fun h => ?_) (fun h => ?_) <;> try first | contradiction | (exfalso; omega))
  refine CallG.use (dev_at r d ok i) ?_
  rintro v M ⟨rfl, hat⟩
  dsimp only [lcA, lnA]
  rcases hat with ⟨j, hj, rfl, rfl⟩ | ⟨hi, rfl⟩
  · have hn := DR.len ok rfl
    have hij : (0 ≤ (j : Int) ∧ (j : Int) < d.dv.Z) := by omega
    repeat' first | refine adv ?_ | refine Side.go ?_ | refine Giv.mk fun _ => ?_ | refine All.mk fun q => ?_ | refine Fork.mk ?_ ?_ | (refine Two.mk (fun h => ?_) (fun h => ?_) <;> try first | contradiction | (exfalso; omega))
    · have e : d.dv.append j p.xs = (0, 3, d.dv) := by unfold Dv.append; rw [if_pos hij, if_pos (by omega)]
      rw [e]
      exact endQ.twoW Tryz.results104 ⟨rfl, rfl⟩ (fun w h => devO_close d rfl (goes w h))
    · have hlen : ¬ (p.xs.length ≠ 64) := by omega
      refine CallG.use (dev_begin r d ok) ?_
      rintro r M ⟨o, l, f, rfl, rfl, hb⟩
      dsimp only [lcA, lnA]
      dsimp only [devH, devR]
      have hz : (d.dv.zs[(j : Int).toNat]?.getD ([], 0)) = d.zs[j].2.zv := by simp [DR.dv, hj]
      have hzl : d.zs[j].2.zv.1.length = d.zs[j].2.b.xs.length := by simp [ZR.zv]
      have hzo := zone_ok ok hj
      haveI : Lt j d.zs.length := ⟨hj⟩
      repeat' first | refine adv ?_ | refine Side.go ?_ | refine Giv.mk fun _ => ?_ | refine All.mk fun q => ?_ | refine Fork.mk ?_ ?_ | (refine Two.mk (fun h => ?_) (fun h => ?_) <;> try first | contradiction | (exfalso; omega))
      · have e : d.dv.append j p.xs = (0, 12, d.dv.begin.2) := by unfold Dv.append; rw [if_pos hij, if_neg hlen, if_pos (by simpa using h)]
        rw [e, hb]
        exact endQ.twoW Tryz.results104 ⟨rfl, rfl⟩ (fun w h => devO_close { d with ops := o, left := l, off := f } rfl (goes w h))
      · have e : d.dv.append j p.xs = (0, 9, d.dv.begin.2) := by
          unfold Dv.append; rw [if_pos hij, if_neg hlen, if_neg (ntt (by assumption)), hz, hzl, if_pos (by show d.S ≤ _; omega)]
        rw [e, hb]
        exact endQ.twoW Tryz.results104 ⟨rfl, rfl⟩ (fun w h => devO_close { d with ops := o, left := l, off := f } rfl (goes w h))
      · refine CallG.use (clone_bytes p) ?_
        rintro r M ⟨a, c, rfl, rfl⟩
        dsimp only [lcA, lnA]
        repeat' first | refine adv ?_ | refine Side.go ?_ | refine Giv.mk fun _ => ?_ | refine All.mk fun q => ?_ | refine Fork.mk ?_ ?_ | (refine Two.mk (fun h => ?_) (fun h => ?_) <;> try first | contradiction | (exfalso; omega))
        refine AppG_conv (fun B w h => zone_open hj (goes w h : sat B (bigS zoneO d.zs :: cells true q 0 [.slice a p.xs.length c] :: ownS (⟨a, c, p.xs⟩ : Sl UInt8) :: devH r { d with ops := o, left := l, off := f } :: devR d :: F) w)) ?_
        refine AppG.oneS d.zs[j].2.b (⟨a, c, p.xs⟩ : Sl UInt8) ?_ (fun a' c' => ?_)
        · omega
        dsimp only [devH, devR]
        repeat' first | refine adv ?_ | refine Side.go ?_ | refine Giv.mk fun _ => ?_ | refine All.mk fun q => ?_ | refine Fork.mk ?_ ?_ | (refine Two.mk (fun h => ?_) (fun h => ?_) <;> try first | contradiction | (exfalso; omega))
        have hS : ¬ d.dv.S ≤ d.zs[j].2.zv.1.length := by show ¬ d.S ≤ _; omega
        have e : d.dv.append j p.xs = (((d.zs[j].2.b.xs ++ [(⟨a, c, p.xs⟩ : Sl UInt8)]).length : Int) - 1, 0, ({ d with ops := o, left := l, off := f, zs := d.zs.set j (d.zs[j].1, ⟨⟨a', c', d.zs[j].2.b.xs ++ [⟨a, c, p.xs⟩]⟩, d.zs[j].2.g⟩) } : DR).dv) := by
          unfold Dv.append
          rw [if_pos hij, if_neg hlen, if_neg (ntt (by assumption)), hz, if_neg hS, hzl, hb]
          simp [DR.dv, ZR.zv, List.map_set, hj]
        rw [e]
        refine endQ.twoW Tryz.results104 ⟨rfl, rfl⟩ (fun w h => devO_close { d with ops := o, left := l, off := f, zs := d.zs.set j (d.zs[j].1, ⟨⟨a', c', d.zs[j].2.b.xs ++ [⟨a, c, p.xs⟩]⟩, d.zs[j].2.g⟩) } rfl ?_)
        have h2 := zone_close hj ⟨⟨a', c', d.zs[j].2.b.xs ++ [⟨a, c, p.xs⟩]⟩, d.zs[j].2.g⟩ (goes w h : sat B (_ :: _ :: bigS zoneO (d.zs.eraseIdx j) :: devH r { d with ops := o, left := l, off := f } :: devR d :: F) w)
        have e2 : (d.zs.set j (d.zs[j].1, ⟨⟨a', c', d.zs[j].2.b.xs ++ [⟨a, c, p.xs⟩]⟩, d.zs[j].2.g⟩)).map (·.1) = d.zs.map (·.1) := map_set_fst _ _ _
        rw [e2]
        exact goes w h2
  · repeat' first | refine adv ?_ | refine Side.go ?_ | refine Giv.mk fun _ => ?_ | refine All.mk fun q => ?_ | refine Fork.mk ?_ ?_ | (refine Two.mk (fun h => ?_) (fun h => ?_) <;> try first | contradiction | (exfalso; omega))
    have e : d.dv.append i p.xs = (0, 1, d.dv) := by unfold Dv.append; rw [if_neg hi]
    rw [e]
    exact endQ.twoW Tryz.results104 ⟨rfl, rfl⟩ (fun w h => devO_close d rfl (goes w h))

/-- What Read answers. -/
def Dv.read (D : Dv) (i j : Int) : Option (List UInt8) := if 0 ≤ i ∧ i < D.Z ∧ 0 ≤ j then ((D.zs[i.toNat]?.getD ([], 0)).1)[j.toNat]? else none

theorem dev_read (r : Nat) (D : Dv) (ok : D.ok) (i j : Int) : Spec Tryz.prog 82 #[.pointer (some ⟨r, 0, none⟩), .int .i64 i, .int .i64 j] [devO r D]
    (fun v L => (D.read i j = none ∧ ∃ e : Int, e ≠ 0 ∧ v = .tuple #[.slice none 0 0, .int .i64 e] ∧ L = [devO r D]) ∨
      (∃ b : List UInt8, D.read i j = some b ∧ b.length = 64 ∧ ∃ a c, v = .tuple #[.slice a 64 c, .int .i64 0] ∧ L = [devO r { D with reads := D.reads + 1 }, ownS (⟨a, c, b⟩ : Sl UInt8)])) := by
  refine enter3 Tryz.func82 rfl (by decide) (by decide) ?_
  intro B F
  dsimp only [lcA, lnA]
  refine Sy_all (fun w h => devO_open h) (fun d => ?_)
  obtain ⟨d, rfl⟩ := d
  dsimp only [List.cons_append, List.nil_append, devL, devH, devR]
  repeat' first | refine adv ?_ | refine Side.go ?_ | refine Giv.mk fun _ => ?_ | refine All.mk fun q => ?_ | refine Fork.mk ?_ ?_ | (refine Two.mk (fun h => ?_) (fun h => ?_) <;> try first | contradiction | (exfalso; omega))
  refine CallG.use (dev_at r d ok i) ?_
  rintro v M ⟨rfl, hat⟩
  dsimp only [List.cons_append, List.nil_append, devH, devR]
  rcases hat with ⟨k, hk, rfl, rfl⟩ | ⟨hi, rfl⟩
  · have hn := DR.len ok rfl
    have hij : (0 ≤ (k : Int) ∧ (k : Int) < d.dv.Z) := by omega
    have hz : (d.dv.zs[(k : Int).toNat]?.getD ([], 0)) = d.zs[k].2.zv := by simp [DR.dv, hk]
    have hzl : d.zs[k].2.zv.1.length = d.zs[k].2.b.xs.length := by simp [ZR.zv]
    have hzo := zone_ok ok hk
    haveI : Lt k d.zs.length := ⟨hk⟩
    repeat' first | refine adv ?_ | refine Side.go ?_ | refine Giv.mk fun _ => ?_ | refine All.mk fun q => ?_ | refine Fork.mk ?_ ?_ | (refine Two.mk (fun h => ?_) (fun h => ?_) <;> try first | contradiction | (exfalso; omega))
    · have e : d.dv.read k j = none := by unfold Dv.read; rw [if_neg (by omega)]
      exact endQ.twoW Tryz.results82 (.inl ⟨e, 14, by decide, rfl, rfl⟩) (fun w h => devO_close d rfl (goes w h))
    · have e : d.dv.read k j = none := by unfold Dv.read; rw [hz, if_pos (by omega)]; exact List.getElem?_eq_none (by omega)
      exact endQ.twoW Tryz.results82 (.inl ⟨e, 14, by decide, rfl, rfl⟩) (fun w h => devO_close d rfl (goes w h))
    · obtain ⟨j, rfl⟩ := Int.eq_ofNat_of_zero_le (a := j) (by omega)
      have hj : j < d.zs[k].2.b.xs.length := by omega
      refine SyO_conv (L' := roS (d.zs[k].2.b.xs[j]'hj) :: ownS d.zs[k].2.b :: cells true d.zs[k].1.r 0 [d.zs[k].2.b.val, .int .i64 d.zs[k].2.g] :: bigS zoneO (d.zs.eraseIdx k) :: devH r { d with reads := d.reads + 1 } :: devR d :: F) (fun w h => ?_) ?_
      · exact own_pull_sl hj ((zone_open hk (goes w h : sat B (bigS zoneO d.zs :: devH r { d with reads := d.reads + 1 } :: devR d :: F) w)).perm (.swap _ _ _))
      repeat' first | refine adv ?_ | refine Side.go ?_ | refine Giv.mk fun _ => ?_ | refine All.mk fun q => ?_ | refine Fork.mk ?_ ?_ | (refine Two.mk (fun h => ?_) (fun h => ?_) <;> try first | contradiction | (exfalso; omega))
      have hsz := hzo.2.2.2 _ (List.getElem_mem hj)
      have e : d.dv.read k j = some d.zs[k].2.b.xs[j].xs := by
        unfold Dv.read
        rw [hz, if_pos (by omega)]
        simp [ZR.zv, hj]
      refine CallG.use (clone_bytes d.zs[k].2.b.xs[j]) ?_
      rintro r M ⟨a, c, rfl, rfl⟩
      dsimp only [lcA, lnA]
      repeat' first | refine adv ?_ | refine Side.go ?_ | refine Giv.mk fun _ => ?_ | refine All.mk fun q => ?_ | refine Fork.mk ?_ ?_ | (refine Two.mk (fun h => ?_) (fun h => ?_) <;> try first | contradiction | (exfalso; omega))
      refine endQ.twoW Tryz.results82 (.inr ⟨_, e, hsz, a, c, by rw [hsz], rfl⟩) (fun w h => devO_close { d with reads := d.reads + 1 } rfl ?_)
      exact goes w (zone_shut hk (goes w h : sat B (_ :: _ :: bigS zoneO (d.zs.eraseIdx k) :: devH r { d with reads := d.reads + 1 } :: devR d :: ownS (⟨a, c, d.zs[k].2.b.xs[j].xs⟩ : Sl UInt8) :: F) w))
  · repeat' first | refine adv ?_ | refine Side.go ?_ | refine Giv.mk fun _ => ?_ | refine All.mk fun q => ?_ | refine Fork.mk ?_ ?_ | (refine Two.mk (fun h => ?_) (fun h => ?_) <;> try first | contradiction | (exfalso; omega))
    have e : d.dv.read i j = none := by unfold Dv.read; rw [if_neg (by omega)]
    exact endQ.twoW Tryz.results82 (.inl ⟨e, 1, by decide, rfl, rfl⟩) (fun w h => devO_close d rfl (goes w h))
end Go.SL
namespace Go.SL
open Go.Proofs
set_option synthInstance.maxSize 4000
set_option synthInstance.maxHeartbeats 400000
set_option maxRecDepth 4000
set_option maxHeartbeats 2000000

def Dv.pointer (D : Dv) (i : Int) : Int × Int := if 0 ≤ i ∧ i < D.Z then ((D.zs[i.toNat]?.getD ([], 0)).1.length, 0) else (0, 1)
theorem dev_pointer (r : Nat) (D : Dv) (ok : D.ok) (i : Int) : Spec Tryz.prog 59 #[.pointer (some ⟨r, 0, none⟩), .int .i64 i] [devO r D]
    (fun v L => v = .tuple #[.int .i64 (D.pointer i).1, .int .i64 (D.pointer i).2] ∧ L = [devO r D]) := by
  refine enter2 Tryz.func59 rfl (by decide) (by decide) ?_
  intro B F
  dsimp only [lcA, lnA]
  refine Sy_all (fun w h => devO_open h) (fun d => ?_)
  obtain ⟨d, rfl⟩ := d
  dsimp only [List.cons_append, List.nil_append, devL, devH, devR]
  repeat' first | refine adv ?_ | refine Side.go ?_ | refine Giv.mk fun _ => ?_ | refine All.mk fun q => ?_ | refine Fork.mk ?_ ?_ | (refine Two.mk (fun h => ?_) (fun h => ?_) <;> try first | contradiction | (exfalso; omega))
  refine CallG.use (dev_at r d ok i) ?_
  rintro v M ⟨rfl, hat⟩
  dsimp only [List.cons_append, List.nil_append, devH, devR]
  rcases hat with ⟨k, hk, rfl, rfl⟩ | ⟨hi, rfl⟩
  · have hn := DR.len ok rfl
    have hz : (d.dv.zs[(k : Int).toNat]?.getD ([], 0)) = d.zs[k].2.zv := by simp [DR.dv, hk]
    have hzl : d.zs[k].2.zv.1.length = d.zs[k].2.b.xs.length := by simp [ZR.zv]
    haveI : Lt k d.zs.length := ⟨hk⟩
    have e : d.dv.pointer k = ((d.zs[k].2.b.xs.length : Int), 0) := by unfold Dv.pointer; rw [if_pos (by omega), hz, hzl]
    repeat' first | refine adv ?_ | refine Side.go ?_ | refine Giv.mk fun _ => ?_ | refine All.mk fun q => ?_ | refine Fork.mk ?_ ?_ | (refine Two.mk (fun h => ?_) (fun h => ?_) <;> try first | contradiction | (exfalso; omega))
    rw [e]
    exact endQ.twoW Tryz.results59 ⟨rfl, rfl⟩ (fun w h => devO_close d rfl (goes w h))
  · repeat' first | refine adv ?_ | refine Side.go ?_ | refine Giv.mk fun _ => ?_ | refine All.mk fun q => ?_ | refine Fork.mk ?_ ?_ | (refine Two.mk (fun h => ?_) (fun h => ?_) <;> try first | contradiction | (exfalso; omega))
    have e : d.dv.pointer i = (0, 1) := by unfold Dv.pointer; rw [if_neg hi]
    rw [e]
    exact endQ.twoW Tryz.results59 ⟨rfl, rfl⟩ (fun w h => devO_close d rfl (goes w h))

def Dv.reset (D : Dv) (i : Int) : Int × Dv :=
  if 0 ≤ i ∧ i < D.Z then if D.begin.1 = false then (12, D.begin.2) else (0, { D.begin.2 with zs := D.zs.set i.toNat ([], 0) }) else (1, D)
theorem dev_reset (r : Nat) (D : Dv) (ok : D.ok) (i : Int) : Spec Tryz.prog 60 #[.pointer (some ⟨r, 0, none⟩), .int .i64 i] [devO r D]
    (fun v L => v = .int .i64 (D.reset i).1 ∧ L = [devO r (D.reset i).2]) := by
  refine enter2 Tryz.func60 rfl (by decide) (by decide) ?_
  intro B F
  dsimp only [lcA, lnA]
  refine Sy_all (fun w h => devO_open h) (fun d => ?_)
  obtain ⟨d, rfl⟩ := d
  dsimp only [List.cons_append, List.nil_append, devL, devH, devR]
  repeat' first | refine adv ?_ | refine Side.go ?_ | refine Giv.mk fun _ => ?_ | refine All.mk fun q => ?_ | refine Fork.mk ?_ ?_ | (refine Two.mk (fun h => ?_) (fun h => ?_) <;> try first | contradiction | (exfalso; omega))
  refine CallG.use (dev_at r d ok i) ?_
  rintro v M ⟨rfl, hat⟩
  dsimp only [List.cons_append, List.nil_append, devH, devR]
  rcases hat with ⟨k, hk, rfl, rfl⟩ | ⟨hi, rfl⟩
  · have hn := DR.len ok rfl
    haveI : Lt k d.zs.length := ⟨hk⟩
    have hij : (0 ≤ (k : Int) ∧ (k : Int) < d.dv.Z) := by omega
    repeat' first | refine adv ?_ | refine Side.go ?_ | refine Giv.mk fun _ => ?_ | refine All.mk fun q => ?_ | refine Fork.mk ?_ ?_ | (refine Two.mk (fun h => ?_) (fun h => ?_) <;> try first | contradiction | (exfalso; omega))
    refine CallG.use (dev_begin r d ok) ?_
    rintro r M ⟨o, l, f, rfl, rfl, hb⟩
    dsimp only [lcA, lnA]
    dsimp only [devH, devR]
    repeat' first | refine adv ?_ | refine Side.go ?_ | refine Giv.mk fun _ => ?_ | refine All.mk fun q => ?_ | refine Fork.mk ?_ ?_ | (refine Two.mk (fun h => ?_) (fun h => ?_) <;> try first | contradiction | (exfalso; omega))
    · have e : d.dv.reset k = (12, d.dv.begin.2) := by unfold Dv.reset; rw [if_pos hij, if_pos (by simpa using h)]
      rw [e, hb]
      exact endQ.oneW Tryz.results60 ⟨rfl, rfl⟩ (fun w h => devO_close { d with ops := o, left := l, off := f } rfl (goes w h))
    · refine SyO_conv (L' := cells true d.zs[k].1.r 0 [d.zs[k].2.b.val, .int .i64 d.zs[k].2.g] :: bigS zoneO (d.zs.eraseIdx k) :: devH r { d with ops := o, left := l, off := f } :: devR d :: F) (fun w h => ?_) ?_
      · exact goes w (zone_open hk (goes w h : sat B (bigS zoneO d.zs :: devH r { d with ops := o, left := l, off := f } :: devR d :: F) w))
      dsimp only [devH, devR]
      repeat' first | refine adv ?_ | refine Side.go ?_ | refine Giv.mk fun _ => ?_ | refine All.mk fun q => ?_ | refine Fork.mk ?_ ?_ | (refine Two.mk (fun h => ?_) (fun h => ?_) <;> try first | contradiction | (exfalso; omega))
      have e : d.dv.reset k = (0, ({ d with ops := o, left := l, off := f, zs := d.zs.set k (d.zs[k].1, ⟨⟨none, 0, []⟩, 0⟩) } : DR).dv) := by
        unfold Dv.reset
        rw [if_pos hij, if_neg (ntt (by assumption)), hb]
        simp [DR.dv, ZR.zv, List.map_set]
      rw [e]
      refine endQ.oneW Tryz.results60 ⟨rfl, rfl⟩ (fun w h => devO_close { d with ops := o, left := l, off := f, zs := d.zs.set k (d.zs[k].1, ⟨⟨none, 0, []⟩, 0⟩) } rfl ?_)
      have h2 := zone_close hk ⟨⟨none, 0, []⟩, 0⟩ (goes w (sat_true (own_nil (α := Sl UInt8)) h) : sat B (_ :: _ :: bigS zoneO (d.zs.eraseIdx k) :: devH r { d with ops := o, left := l, off := f } :: devR d :: F) w)
      have e2 : (d.zs.set k (d.zs[k].1, ⟨⟨none, 0, []⟩, 0⟩)).map (·.1) = d.zs.map (·.1) := map_set_fst _ _ _
      rw [e2]
      exact goes w h2
  · repeat' first | refine adv ?_ | refine Side.go ?_ | refine Giv.mk fun _ => ?_ | refine All.mk fun q => ?_ | refine Fork.mk ?_ ?_ | (refine Two.mk (fun h => ?_) (fun h => ?_) <;> try first | contradiction | (exfalso; omega))
    have e : d.dv.reset i = (1, d.dv) := by unfold Dv.reset; rw [if_neg hi]
    rw [e]
    exact endQ.oneW Tryz.results60 ⟨rfl, rfl⟩ (fun w h => devO_close d rfl (goes w h))

theorem dev_geometry (r : Nat) (D : Dv) (ok : D.ok) : Spec Tryz.prog 37 #[.pointer (some ⟨r, 0, none⟩)] [devO r D] (fun v L => v = .agg #[.int .i64 D.Z, .int .i64 D.S] ∧ L = [devO r D]) := by
  refine enter1 Tryz.func37 rfl (by decide) (by decide) ?_
  intro B F
  dsimp only [lcA, lnA]
  refine Sy_all (fun w h => devO_open h) (fun d => ?_)
  obtain ⟨d, rfl⟩ := d
  dsimp only [List.cons_append, List.nil_append, devL, devH, devR]
  repeat' first | refine adv ?_ | refine Side.go ?_ | refine Giv.mk fun _ => ?_ | refine All.mk fun q => ?_ | refine Fork.mk ?_ ?_ | (refine Two.mk (fun h => ?_) (fun h => ?_) <;> try first | contradiction | (exfalso; omega))
  refine CallG.use (dev_gone r d ok) ?_
  rintro r M ⟨rfl, rfl⟩
  dsimp only [lcA, lnA]
  dsimp only [devH, devR]
  repeat' first | refine adv ?_ | refine Side.go ?_ | refine Giv.mk fun _ => ?_ | refine All.mk fun q => ?_ | refine Fork.mk ?_ ?_ | (refine Two.mk (fun h => ?_) (fun h => ?_) <;> try first | contradiction | (exfalso; omega))
  exact endQ.resW Tryz.results37 ⟨rfl, rfl⟩ (fun w h => devO_close d rfl (goes w h))

def Dv.flush (D : Dv) : Int × Dv := if D.begin.1 = false then (12, D.begin.2) else (0, { D.begin.2 with zs := D.zs.map fun z => (z.1, z.1.length) })
def ZR.hard (z : Ptr × ZR) : Ptr × ZR := (z.1, ⟨z.2.b, z.2.b.xs.length⟩)
theorem dev_flush (r : Nat) (D : Dv) (ok : D.ok) : Spec Tryz.prog 78 #[.pointer (some ⟨r, 0, none⟩)] [devO r D] (fun v L => v = .int .i64 D.flush.1 ∧ L = [devO r D.flush.2]) := by
  refine enter1 Tryz.func78 rfl (by decide) (by decide) ?_
  intro B F
  dsimp only [lcA, lnA]
  refine Sy_all (fun w h => devO_open h) (fun d => ?_)
  obtain ⟨d, rfl⟩ := d
  dsimp only [List.cons_append, List.nil_append, devL, devH, devR]
  repeat' first | refine adv ?_ | refine Side.go ?_ | refine Giv.mk fun _ => ?_ | refine All.mk fun q => ?_ | refine Fork.mk ?_ ?_ | (refine Two.mk (fun h => ?_) (fun h => ?_) <;> try first | contradiction | (exfalso; omega))
  refine CallG.use (dev_gone r d ok) ?_
  rintro r M ⟨rfl, rfl⟩
  dsimp only [lcA, lnA]
  dsimp only [devH, devR]
  repeat' first | refine adv ?_ | refine Side.go ?_ | refine Giv.mk fun _ => ?_ | refine All.mk fun q => ?_ | refine Fork.mk ?_ ?_ | (refine Two.mk (fun h => ?_) (fun h => ?_) <;> try first | contradiction | (exfalso; omega))
  refine CallG.use (dev_begin r d ok) ?_
  rintro r M ⟨o, l, f, rfl, rfl, hb⟩
  dsimp only [lcA, lnA]
  dsimp only [devH, devR]
  repeat' first | refine adv ?_ | refine Side.go ?_ | refine Giv.mk fun _ => ?_ | refine All.mk fun q => ?_ | refine Fork.mk ?_ ?_ | (refine Two.mk (fun h => ?_) (fun h => ?_) <;> try first | contradiction | (exfalso; omega))
  · have e : d.dv.flush = (12, d.dv.begin.2) := by unfold Dv.flush; rw [if_pos (by simpa using h)]
    rw [e, hb]
    exact endQ.oneW Tryz.results78 ⟨rfl, rfl⟩ (fun w h => devO_close { d with ops := o, left := l, off := f } rfl (goes w h))
  · have hn := DR.len ok rfl
    have hz1 : d.dv.Z ≤ 64 := ok.z1
    refine Sy_loop (ι := {k : Nat // k ≤ d.zs.length}) (fun k => [(17, .int .i64 k.1), (16, .int .i64 (d.zs.map (·.1)).length), (15, .slice d.a (d.zs.map (·.1)).length d.c)])
      (fun k => devH r { d with ops := o, left := l, off := f } :: devR d :: bigS zoneO (upto ZR.hard d.zs k.1) :: F) (fun k => d.zs.length - k.1) ⟨0, Nat.zero_le _⟩ (evs rfl (evs rfl (evs rfl .nil))) (fun w h => ?_) ?_
    · simp only [upto_zero]
      exact goes w h
    rintro ⟨k, hk⟩ env
    dsimp only [upds, devH, devR]
    repeat' first | refine adv ?_ | refine Side.go ?_ | refine Giv.mk fun _ => ?_ | refine All.mk fun q => ?_ | refine Fork.mk ?_ ?_ | (refine Two.mk (fun h => ?_) (fun h => ?_) <;> try first | contradiction | (exfalso; omega))
    · have hk2 : k < d.zs.length := by simp at h; omega
      have hzo := zone_ok ok hk2
      have hcl : k < (upto ZR.hard d.zs k).length := by rw [upto_length]; exact hk2
      have hck := upto_get ZR.hard d.zs k hk2
      have hset := upto_set ZR.hard d.zs k hk2
      refine SyO_conv (L' := cells true d.zs[k].1.r 0 [d.zs[k].2.b.val, .int .i64 d.zs[k].2.g] :: ownS d.zs[k].2.b :: bigS zoneO ((upto ZR.hard d.zs k).eraseIdx k) :: devH r { d with ops := o, left := l, off := f } :: devR d :: F) (fun w h => ?_) ?_
      · have h2 := zone_open hcl (goes w h : sat B (bigS zoneO (upto ZR.hard d.zs k) :: devH r { d with ops := o, left := l, off := f } :: devR d :: F) w)
        rw [hck] at h2
        exact h2
      simp only [List.getElem_map]
      dsimp only [devH, devR]
      repeat' first | refine adv ?_ | refine Side.go ?_ | refine Giv.mk fun _ => ?_ | refine All.mk fun q => ?_ | refine Fork.mk ?_ ?_ | (refine Two.mk (fun h => ?_) (fun h => ?_) <;> try first | contradiction | (exfalso; omega))
      refine loopQ.next ⟨k + 1, by omega⟩ (by simp only []; omega) (evs rfl (evs rfl (evs rfl .nil))) (fun w h => ?_)
      have h2 := zone_close hcl ⟨d.zs[k].2.b, d.zs[k].2.b.xs.length⟩ (L := devH r { d with ops := o, left := l, off := f } :: devR d :: F) (w := w) (B := B) (by rw [hck]; exact goes w h)
      rw [hck] at h2
      have h3 : sat B (bigS zoneO (upto ZR.hard d.zs (k + 1)) :: devH r { d with ops := o, left := l, off := f } :: devR d :: F) w := by rw [← hset]; exact h2
      exact goes w h3
    · have hk2 : k = d.zs.length := by simp at h; omega
      subst hk2
      have e : d.dv.flush = (0, ({ d with ops := o, left := l, off := f, zs := d.zs.map ZR.hard } : DR).dv) := by
        unfold Dv.flush
        rw [if_neg (ntt (by assumption)), hb]
        simp [DR.dv, ZR.zv, ZR.hard]
      have e2 : (d.zs.map ZR.hard).map (·.1) = d.zs.map (·.1) := by rw [List.map_map]; rfl
      rw [e]
      refine endQ.oneW Tryz.results78 ⟨rfl, rfl⟩ (fun w h => devO_close { d with ops := o, left := l, off := f, zs := d.zs.map ZR.hard } rfl ?_)
      rw [upto_all] at h
      rw [e2]
      exact goes w h
end Go.SL
namespace Go.SL
open Go.Proofs
set_option synthInstance.maxSize 4000
set_option synthInstance.maxHeartbeats 400000
set_option maxRecDepth 4000
set_option maxHeartbeats 2000000

def pickOf (l : List Int) (k : Nat) : Int × Bool := if l.length = 0 then (0, false) else (l[k % l.length]?.getD 0, true)
theorem dev_pick0 (s : Sl Int) (k : Nat) : Spec Tryz.prog 61 #[s.val, .int .i64 k] [roS s] (fun v L => v = .tuple #[.int .i64 (pickOf s.xs k).1, .bool (pickOf s.xs k).2] ∧ L = []) := by
  refine enter2 Tryz.func61 rfl (by decide) (by decide) ?_
  intro B F
  dsimp only [lcA, lnA]
  refine Sy_know (ro_ok s) (fun hs => ?_)
  have hsl := hs.len
  repeat' first | refine adv ?_ | refine Side.go ?_ | refine Giv.mk fun _ => ?_ | refine All.mk fun q => ?_ | refine Fork.mk ?_ ?_ | (refine Two.mk (fun h => ?_) (fun h => ?_) <;> try first | contradiction | (exfalso; omega))
  · have e : pickOf s.xs k = (0, false) := by unfold pickOf; rw [if_pos (by omega)]
    rw [e]
    exact endQ.two Tryz.results61 ⟨rfl, rfl⟩
  · have hlt : k % s.xs.length < s.xs.length := Nat.mod_lt _ (by omega)
    repeat' first | refine adv ?_ | refine Side.go ?_ | refine Giv.mk fun _ => ?_ | refine All.mk fun q => ?_ | refine Fork.mk ?_ ?_ | (refine Two.mk (fun h => ?_) (fun h => ?_) <;> try first | contradiction | (exfalso; omega))
    have e : pickOf s.xs k = (s.xs[k % s.xs.length], true) := by unfold pickOf; rw [if_neg (by omega)]; simp [hlt]
    rw [e]
    exact endQ.two Tryz.results61 ⟨rfl, rfl⟩

theorem dev_pickE (a : Option Addr) (c k : Nat) : Spec Tryz.prog 61 #[.slice a 0 c, .int .i64 k] [] (fun v L => v = .tuple #[.int .i64 0, .bool false] ∧ L = []) := by
  refine enter2 Tryz.func61 rfl (by decide) (by decide) ?_
  intro B F
  dsimp only [lcA, lnA]
  repeat' first | refine adv ?_ | refine Side.go ?_ | refine Giv.mk fun _ => ?_ | refine All.mk fun q => ?_ | refine Fork.mk ?_ ?_ | (refine Two.mk (fun h => ?_) (fun h => ?_) <;> try first | contradiction | (exfalso; omega))
  exact endQ.two Tryz.results61 ⟨rfl, rfl⟩
/-- Whole numbers that came in: a slice that is only read. -/
def liI (v : Value) (xs : List Int) : HProp := fun h => (∃ s : Sl Int, s.val = v ∧ s.xs = xs ∧ roS s h) ∨ (xs = [] ∧ ∃ a c, v = .slice a 0 c)
instance pers_liI (v : Value) (xs : List Int) : Pers (liI v xs) := ⟨fun h h' m x => x.imp (fun ⟨s, a, b, c⟩ => ⟨s, a, b, (pers_roS s).mono h h' m c⟩) id⟩
theorem liI_nil (g : Hp) : liI (.slice none 0 0) [] g := .inr ⟨rfl, none, 0, rfl⟩
theorem liI_open {B : World} {L : List HProp} {w : World} {v : Value} {xs : List Int} (h : sat B (liI v xs :: L) w) : (∃ s : Sl Int, s.val = v ∧ s.xs = xs ∧ sat B (roS s :: L) w) ∨ (xs = [] ∧ (∃ a c, v = .slice a 0 c) ∧ sat B L w) := by
  have ht := h.tail
  obtain ⟨b, g, ⟨h₁, h₂, c, e, a, l⟩, hr⟩ := h
  rcases a with ⟨s, e1, e2, h3⟩ | ⟨e1, e2⟩
  · exact .inl ⟨s, e1, e2, b, g, ⟨h₁, h₂, c, e, h3, l⟩, hr⟩
  · exact .inr ⟨e1, e2, ht⟩
theorem dev_pick (v : Value) (xs : List Int) (k : Nat) : Spec Tryz.prog 61 #[v, .int .i64 k] [liI v xs] (fun u L => u = .tuple #[.int .i64 (pickOf xs k).1, .bool (pickOf xs k).2] ∧ L = []) := by
  intro B F w hs
  rcases liI_open (show sat B (liI v xs :: F) w from hs) with ⟨s, rfl, rfl, h2⟩ | ⟨rfl, ⟨a, c, rfl⟩, h2⟩
  · exact dev_pick0 s k B F w h2
  · exact dev_pickE a c k B F w h2

def restOf (n b : Int) : Int := if n.tmod b < 0 then n.tmod b + b else n.tmod b
theorem restOf_lt (n b : Int) (hb : 0 < b) : 0 ≤ restOf n b ∧ restOf n b < b := by
  unfold restOf
  have h1 := Int.tmod_lt_of_pos n hb
  have h2 := Int.lt_tmod_of_pos n hb
  split <;> omega
theorem dev_rest (n b : Int) (hb : 0 < b ∧ b ≤ 1000000) : Spec Tryz.prog 62 #[.int .i64 n, .int .i64 b] [] (fun v L => v = .int .i64 (restOf n b) ∧ L = []) := by
  refine enter2 Tryz.func62 rfl (by decide) (by decide) ?_
  intro B F
  dsimp only [lcA, lnA]
  have h1 := Int.tmod_lt_of_pos n hb.1
  have h2 := Int.lt_tmod_of_pos n hb.1
  repeat' first | refine adv ?_ | refine Side.go ?_ | refine Giv.mk fun _ => ?_ | refine All.mk fun q => ?_ | refine Fork.mk ?_ ?_ | (refine Two.mk (fun h => ?_) (fun h => ?_) <;> try first | contradiction | (exfalso; omega))
  · refine endQ.one Tryz.results62 ⟨?_, rfl⟩
    unfold restOf; rw [if_pos h]
  · refine endQ.one Tryz.results62 ⟨?_, rfl⟩
    unfold restOf; rw [if_neg h]

def tornTo (l : List UInt8) (k : Nat) : List UInt8 := l.mapIdx fun i c => if 32 ≤ i ∧ i < k then c ^^^ UInt8.ofNat 85 else c
def tearOf (l : List UInt8) : List UInt8 := l.mapIdx fun i c => if 32 ≤ i then c ^^^ UInt8.ofNat 85 else c
theorem tornTo_len (l : List UInt8) (k : Nat) : (tornTo l k).length = l.length := by simp [tornTo]
theorem tornTo_start (l : List UInt8) : tornTo l 32 = l := by
  unfold tornTo
  apply List.ext_getElem (by simp)
  intro i h1 h2
  simp only [List.getElem_mapIdx]
  rw [if_neg (by omega)]
theorem tornTo_end (l : List UInt8) (h : l.length = 64) : tornTo l 64 = tearOf l := by
  unfold tornTo tearOf
  apply List.ext_getElem (by simp)
  intro i h1 h2
  simp only [List.length_mapIdx] at h1
  simp only [List.getElem_mapIdx]
  split <;> split <;> first | rfl | omega
theorem tornTo_step (l : List UInt8) (k : Nat) (h : k < (tornTo l k).length) (hk : 32 ≤ k) : (tornTo l k).set k ((tornTo l k)[k] ^^^ UInt8.ofNat 85) = tornTo l (k + 1) := by
  unfold tornTo at h ⊢
  apply List.ext_getElem (by simp)
  intro i h1 h2
  rw [List.getElem_set]
  simp only [List.getElem_mapIdx]
  split
  · rename_i e; subst e; rw [if_neg (by omega), if_pos (by omega)]
  · split <;> split <;> first | rfl | omega

theorem dev_tear (s : Sl UInt8) (h64 : s.xs.length = 64) : Spec Tryz.prog 64 #[s.val] [roS s] (freshS (tearOf s.xs)) := by
  refine enter1 Tryz.func64 rfl (by decide) (by decide) ?_
  intro B F
  dsimp only [lcA, lnA]
  repeat' first | refine adv ?_ | refine Side.go ?_ | refine Giv.mk fun _ => ?_ | refine All.mk fun q => ?_ | refine Fork.mk ?_ ?_ | (refine Two.mk (fun h => ?_) (fun h => ?_) <;> try first | contradiction | (exfalso; omega))
  refine CallG.use (clone_bytes s) ?_
  rintro r M ⟨a, c, rfl, rfl⟩
  dsimp only [lcA, lnA]
  repeat' first | refine adv ?_ | refine Side.go ?_ | refine Giv.mk fun _ => ?_ | refine All.mk fun q => ?_ | refine Fork.mk ?_ ?_ | (refine Two.mk (fun h => ?_) (fun h => ?_) <;> try first | contradiction | (exfalso; omega))
  refine Sy_loop (ι := {k : Nat // 32 ≤ k ∧ k ≤ 64}) (fun k => [(4, .int .i64 k.1), (3, .slice a (tornTo s.xs k.1).length c)]) (fun k => ownS (⟨a, c, tornTo s.xs k.1⟩ : Sl UInt8) :: F) (fun k => 64 - k.1) ⟨32, by decide, by decide⟩
    (evs rfl (evs (by rw [tornTo_start]) .nil)) (fun w h => by rw [tornTo_start]; exact goes w h) ?_
  rintro ⟨k, hk⟩ env
  dsimp only [upds]
  have hl : (tornTo s.xs k).length = 64 := by rw [tornTo_len]; exact h64
  repeat' first | refine adv ?_ | refine Side.go ?_ | refine Giv.mk fun _ => ?_ | refine All.mk fun q => ?_ | refine Fork.mk ?_ ?_ | (refine Two.mk (fun h => ?_) (fun h => ?_) <;> try first | contradiction | (exfalso; omega))
  · refine loopQ.next ⟨k + 1, by omega⟩ (by simp only []; omega) (evs rfl (evs (by rw [tornTo_len, tornTo_len]) .nil)) (fun w h => ?_)
    rw [← tornTo_step s.xs k (by omega) (by omega)]
    exact goes w h
  · have hk2 : k = 64 := by omega
    subst hk2
    rw [tornTo_end _ h64]
    repeat' first | refine adv ?_ | refine Side.go ?_ | refine Giv.mk fun _ => ?_ | refine All.mk fun q => ?_ | refine Fork.mk ?_ ?_ | (refine Two.mk (fun h => ?_) (fun h => ?_) <;> try first | contradiction | (exfalso; omega))
    exact endQ.one Tryz.results64 (freshS.mk a c)

/-- The contents of slices. -/
def raws (l : List (Sl UInt8)) : List (List UInt8) := l.map (·.xs)
theorem raws_take (l : List (Sl UInt8)) (k : Nat) (h : k < l.length) : raws (l.take (k + 1)) = raws (l.take k) ++ [l[k].xs] := by
  unfold raws; rw [List.take_succ_eq_append_getElem h, List.map_append]; rfl
theorem raws_snoc (l : List (Sl UInt8)) (x : Sl UInt8) : raws (l ++ [x]) = raws l ++ [x.xs] := by unfold raws; rw [List.map_append]; rfl
theorem raws_len (l : List (Sl UInt8)) : (raws l).length = l.length := by simp [raws]

theorem dev_own (s : Sl (Sl UInt8)) (hl : s.xs.length ≤ 192) : Spec Tryz.prog 63 #[s.val] [roS s] (fun v L => ∃ t : Sl (Sl UInt8), v = t.val ∧ raws t.xs = raws s.xs ∧ L = [ownS t]) := by
  refine enter1 Tryz.func63 rfl (by decide) (by decide) ?_
  intro B F
  dsimp only [lcA, lnA]
  repeat' first | refine adv ?_ | refine Side.go ?_ | refine Giv.mk fun _ => ?_ | refine All.mk fun q => ?_ | refine Fork.mk ?_ ?_ | (refine Two.mk (fun h => ?_) (fun h => ?_) <;> try first | contradiction | (exfalso; omega))
  refine Sy_loop (ι := {p : Nat × Sl (Sl UInt8) // p.1 ≤ s.xs.length ∧ raws p.2.xs = raws (s.xs.take p.1)}) (fun p => [(7, .int .i64 p.1.1), (6, .int .i64 s.xs.length), (5, s.val), (2, p.1.2.val)])
    (fun p => ownS p.1.2 :: roS s :: F) (fun p => s.xs.length - p.1.1) ⟨(0, ⟨none, 0, []⟩), Nat.zero_le _, rfl⟩ (evs rfl (evs rfl (evs rfl (evs rfl .nil)))) (fun w h => goes w (sat_true (own_nil (α := Sl UInt8)) h)) ?_
  rintro ⟨⟨k, t⟩, hk, ht⟩ env
  dsimp only [upds] at hk ht ⊢
  have htl : t.xs.length = k := by rw [← raws_len, ht, raws_len, List.length_take]; omega
  repeat' first | refine adv ?_ | refine Side.go ?_ | refine Giv.mk fun _ => ?_ | refine All.mk fun q => ?_ | refine Fork.mk ?_ ?_ | (refine Two.mk (fun h => ?_) (fun h => ?_) <;> try first | contradiction | (exfalso; omega))
  · have hk2 : k < s.xs.length := by omega
    refine CallG_conv (L' := roS (s.xs[k]'hk2) :: ownS t :: roS s :: F) (fun B w h => goes w (ro_pull_sl hk2 (h.perm (.swap _ _ _)))) ?_
    refine CallG.use (clone_bytes s.xs[k]) ?_
    rintro r M ⟨a, c, rfl, rfl⟩
    dsimp only [lcA, lnA]
    repeat' first | refine adv ?_ | refine Side.go ?_ | refine Giv.mk fun _ => ?_ | refine All.mk fun q => ?_ | refine Fork.mk ?_ ?_ | (refine Two.mk (fun h => ?_) (fun h => ?_) <;> try first | contradiction | (exfalso; omega))
    refine AppG.oneS t (⟨a, c, s.xs[k].xs⟩ : Sl UInt8) ?_ (fun a' c' => ?_)
    · omega
    repeat' first | refine adv ?_ | refine Side.go ?_ | refine Giv.mk fun _ => ?_ | refine All.mk fun q => ?_ | refine Fork.mk ?_ ?_ | (refine Two.mk (fun h => ?_) (fun h => ?_) <;> try first | contradiction | (exfalso; omega))
    refine loopQ.next ⟨(k + 1, ⟨a', c', t.xs ++ [⟨a, c, s.xs[k].xs⟩]⟩), hk2, ?_⟩ (by simp only []; omega) (evs rfl (evs rfl (evs rfl (evs rfl .nil)))) (fun w h => goes w h)
    rw [raws_snoc, ht, raws_take _ _ hk2]
  · have hk2 : k = s.xs.length := by omega
    subst hk2
    rw [List.take_length] at ht
    exact endQ.oneW Tryz.results63 ⟨t, rfl, ht, rfl⟩ (fun w h => goes w h)
end Go.SL
namespace Go.SL
open Go.Proofs
set_option synthInstance.maxSize 4000
set_option synthInstance.maxHeartbeats 400000
set_option maxRecDepth 4000
set_option maxHeartbeats 2000000

def crashN (picks : List Int) (k : Nat) (len good : Nat) : Nat := if (pickOf picks k).2 then good + (restOf (pickOf picks k).1 ((len : Int) - good + 1)).toNat else good
def crashL (torn : List Int) (k n : Nat) (l : List (List UInt8)) : List (List UInt8) :=
  l.take n ++ (if (pickOf torn k).2 = true ∧ n < l.length ∧ (pickOf torn k).1.tmod 2 ≠ 0 then [tearOf (l[n]?.getD [])] else [])
def crashZ (picks torn : List Int) (k : Nat) (z : List (List UInt8) × Nat) : List (List UInt8) × Nat :=
  (crashL torn k (crashN picks k z.1.length z.2) z.1, (crashL torn k (crashN picks k z.1.length z.2) z.1).length)
def Dv.crash (D : Dv) (picks torn : List Int) : Dv := ⟨D.Z, D.S, D.zs.mapIdx (crashZ picks torn), 0, 0, false, 0, false⟩

theorem crashN_le (picks : List Int) (k : Nat) {len good : Nat} (h : good ≤ len) : crashN picks k len good ≤ len := by
  unfold crashN
  split
  · have := restOf_lt (pickOf picks k).1 ((len : Int) - good + 1) (by omega)
    omega
  · exact h

theorem raws_take2 (l : List (Sl UInt8)) (n : Nat) : raws (l.take n) = (raws l).take n := by unfold raws; rw [List.map_take]
theorem crash_step (d : DR) (picks torn : List Int) (k : Nat) (nz : List (Ptr × ZR)) (hk : k < d.zs.length) (hkn : k < nz.length) (hnl : nz.length = d.zs.length)
    (hz : nz.map (·.2.zv) = (d.dv.zs.mapIdx (crashZ picks torn)).take k ++ List.replicate (d.zs.length - k) ([], 0)) (n : Nat) (hc : crashN picks k d.zs[k].2.b.xs.length d.zs[k].2.g = n)
    (T : Sl (Sl UInt8)) (hT : raws T.xs = crashL torn k n (raws d.zs[k].2.b.xs)) :
    (nz.set k ((nz[k]'hkn).1, ⟨T, T.xs.length⟩)).map (·.2.zv) = (d.dv.zs.mapIdx (crashZ picks torn)).take (k + 1) ++ List.replicate (d.zs.length - (k + 1)) ([], 0) := by
  have hA : (d.dv.zs.mapIdx (crashZ picks torn)).length = d.zs.length := by simp [DR.dv]
  have e1 : ((d.dv.zs.mapIdx (crashZ picks torn)).take k).length = k := by rw [List.length_take]; omega
  have e2 : d.zs.length - k = (d.zs.length - (k + 1)) + 1 := by omega
  rw [List.map_set, hz, List.set_append_right _ _ (by omega), e1, Nat.sub_self, e2, List.replicate_succ, List.set_cons_zero, List.take_succ_eq_append_getElem (by omega), List.append_assoc]
  congr 1
  simp only [List.getElem_mapIdx, List.cons_append, List.nil_append, List.cons.injEq, and_true]
  have e3 : d.dv.zs[k]'(by simp [DR.dv]; exact hk) = (raws d.zs[k].2.b.xs, d.zs[k].2.g) := by simp [DR.dv, ZR.zv, raws]
  rw [e3]
  unfold crashZ
  simp only [raws_len, hc, ← hT]
  simp [ZR.zv, raws]

theorem dev_crash (r : Nat) (D : Dv) (ok : D.ok) (pv tv : Value) (picks torn : List Int) : Spec Tryz.prog 23 #[.pointer (some ⟨r, 0, none⟩), pv, tv] [devO r D, liI pv picks, liI tv torn]
    (fun v L => ∃ r', v = .pointer (some ⟨r', 0, none⟩) ∧ L = [devO r' (D.crash picks torn)]) := by
  refine enter3 Tryz.func23 rfl (by decide) (by decide) ?_
  intro B F
  dsimp only [lcA, lnA]
  refine Sy_all (fun w h => devO_open h) (fun d => ?_)
  obtain ⟨d, rfl⟩ := d
  dsimp only [List.cons_append, List.nil_append, devL, devH, devR]
  repeat' first | refine adv ?_ | refine Side.go ?_ | refine Giv.mk fun _ => ?_ | refine All.mk fun q => ?_ | refine Fork.mk ?_ ?_ | (refine Two.mk (fun h => ?_) (fun h => ?_) <;> try first | contradiction | (exfalso; omega))
  refine CallG.use (dev_gone r d ok) ?_
  rintro r M ⟨rfl, rfl⟩
  dsimp only [lcA, lnA]
  dsimp only [devH, devR]
  repeat' first | refine adv ?_ | refine Side.go ?_ | refine Giv.mk fun _ => ?_ | refine All.mk fun q => ?_ | refine Fork.mk ?_ ?_ | (refine Two.mk (fun h => ?_) (fun h => ?_) <;> try first | contradiction | (exfalso; omega))
  refine CallG.use (dev_new d.Z d.S) ?_
  have z0 : 8 ≤ d.Z := ok.z0
  have z1 : d.Z ≤ 64 := ok.z1
  have s0 : 96 ≤ d.S := ok.s0
  have s1 : d.S ≤ 192 := ok.s1
  rintro v M (⟨hno, -, -⟩ | ⟨-, r', a', c', ps, hps, rfl, rfl⟩)
  · exact absurd (by omega) hno
  dsimp only [List.cons_append, List.nil_append, devH, devR]
  simp only [Int.toNat_natCast] at hps ⊢
  have hn := DR.len ok rfl
  have hn2 : d.zs.length = d.Z := hn.1
  have e1 : (ps.map (fun p => (p, (⟨⟨none, 0, []⟩, 0⟩ : ZR)))).map (·.1) = ps := by simp [Function.comp_def]
  rw [e1]
  repeat' first | refine adv ?_ | refine Side.go ?_ | refine Giv.mk fun _ => ?_ | refine All.mk fun q => ?_ | refine Fork.mk ?_ ?_ | (refine Two.mk (fun h => ?_) (fun h => ?_) <;> try first | contradiction | (exfalso; omega))
  let A := d.dv.zs.mapIdx (crashZ picks torn)
  have hA : A.length = d.zs.length := by simp [A, DR.dv]
  refine Sy_loop (ι := {p : Nat × List (Ptr × ZR) // p.1 ≤ d.zs.length ∧ p.2.map (·.1) = ps ∧ p.2.map (·.2.zv) = A.take p.1 ++ List.replicate (d.zs.length - p.1) ([], 0)})
    (fun p => [(33, .int .i64 p.1.1), (32, .int .i64 (d.zs.map (·.1)).length), (31, .slice d.a (d.zs.map (·.1)).length d.c), (1, pv), (2, tv), (7, .pointer (some ⟨r', 0, none⟩))])
    (fun p => roS (⟨d.a, d.c, d.zs.map (·.1)⟩ : Sl Ptr) :: bigS zoneO (d.zs.drop p.1.1) :: cells true r' 0 [.int .i64 d.Z, .int .i64 d.S, .slice a' ps.length c', .int .i64 (cnt 0), .int .i64 (cnt 0), .bool false, .int .i64 ((0 : Nat) : Int), .bool false]
      :: roS (⟨a', c', ps⟩ : Sl Ptr) :: bigS zoneO p.1.2 :: liI pv picks :: liI tv torn :: F)
    (fun p => d.zs.length - p.1.1) ⟨(0, ps.map (fun p => (p, ⟨⟨none, 0, []⟩, 0⟩))), Nat.zero_le _, e1, ?_⟩ (evs rfl (evs rfl (evs rfl (evs rfl (evs rfl (evs rfl .nil)))))) (fun w h => ?_) ?_
  · simp only [List.take_zero, List.nil_append, Nat.sub_zero, List.map_map, hn2, ← hps]
    rw [List.eq_replicate_iff]
    simp [ZR.zv, raws]
  · simp only [List.drop_zero]
    exact goes w h
  rintro ⟨⟨k, nz⟩, hk, hp, hz⟩ env
  dsimp only [upds] at hk hp hz ⊢
  have hnl : nz.length = d.zs.length := by
    have := congrArg List.length hp
    simp at this; omega
  repeat' first | refine adv ?_ | refine Side.go ?_ | refine Giv.mk fun _ => ?_ | refine All.mk fun q => ?_ | refine Fork.mk ?_ ?_ | (refine Two.mk (fun h => ?_) (fun h => ?_) <;> try first | contradiction | (exfalso; omega))
  · have hk2 : k < d.zs.length := by simp at h; omega
    have hzo := zone_ok ok hk2
    refine RP_conv (L' := cells true d.zs[k].1.r 0 [d.zs[k].2.b.val, .int .i64 d.zs[k].2.g] :: roS d.zs[k].2.b :: bigS zoneO (d.zs.drop (k + 1)) :: roS (⟨d.a, d.c, d.zs.map (·.1)⟩ : Sl Ptr) :: cells true r' 0 [.int .i64 d.Z, .int .i64 d.S, .slice a' ps.length c', .int .i64 (cnt 0), .int .i64 (cnt 0), .bool false, .int .i64 ((0 : Nat) : Int), .bool false] :: roS (⟨a', c', ps⟩ : Sl Ptr) :: bigS zoneO nz :: liI pv picks :: liI tv torn :: F) (fun w h => ?_) ?_
    · have h2 := (goes w h : sat B (bigS zoneO (d.zs.drop k) :: roS (⟨d.a, d.c, d.zs.map (·.1)⟩ : Sl Ptr) :: cells true r' 0 [.int .i64 d.Z, .int .i64 d.S, .slice a' ps.length c', .int .i64 (cnt 0), .int .i64 (cnt 0), .bool false, .int .i64 ((0 : Nat) : Int), .bool false] :: roS (⟨a', c', ps⟩ : Sl Ptr) :: bigS zoneO nz :: liI pv picks :: liI tv torn :: F) w)
      rw [List.drop_eq_getElem_cons hk2, sat_bigS_cons] at h2
      have h3 : sat B (cells true d.zs[k].1.r 0 [d.zs[k].2.b.val, .int .i64 d.zs[k].2.g] :: ownS d.zs[k].2.b :: bigS zoneO (d.zs.drop (k + 1)) :: roS (⟨d.a, d.c, d.zs.map (·.1)⟩ : Sl Ptr) :: cells true r' 0 [.int .i64 d.Z, .int .i64 d.S, .slice a' ps.length c', .int .i64 (cnt 0), .int .i64 (cnt 0), .bool false, .int .i64 ((0 : Nat) : Int), .bool false] :: roS (⟨a', c', ps⟩ : Sl Ptr) :: bigS zoneO nz :: liI pv picks :: liI tv torn :: F) w := sat_star.1 h2
      exact goes w h3
    simp only [List.getElem_map]
    have hkp : k < ps.length := by omega
    have hkn : k < nz.length := by omega
    have hpk : (nz[k]'hkn).1 = ps[k]'hkp := by
      have : (nz.map (·.1))[k]? = ps[k]? := by rw [hp]
      simpa [hkn, hkp] using this
    repeat' first | refine adv ?_ | refine Side.go ?_ | refine Giv.mk fun _ => ?_ | refine All.mk fun q => ?_ | refine Fork.mk ?_ ?_ | (refine Two.mk (fun h => ?_) (fun h => ?_) <;> try first | contradiction | (exfalso; omega))
    refine CallG.use (dev_pick pv picks k) ?_
    rintro r M ⟨rfl, rfl⟩
    dsimp only [lcA, lnA]
    have hrl : (raws d.zs[k].2.b.xs).length = d.zs[k].2.b.xs.length := raws_len _
    refine SyO_cut [(33, .int .i64 k), (32, .int .i64 (d.zs.map (fun x : Ptr × ZR => x.1)).length), (31, .slice d.a (d.zs.map (fun x : Ptr × ZR => x.1)).length d.c), (1, pv), (2, tv), (7, .pointer (some ⟨r', 0, none⟩)), (9, .int .i64 k), (10, .pointer (some ⟨d.zs[k].1.r, 0, none⟩)), (11, .int .i64 d.zs[k].2.g), (12, .int .i64 d.zs[k].2.b.xs.length), (50, .tuple #[.int .i64 (pickOf picks k).1, .bool (pickOf picks k).2])] (evs rfl (evs rfl (evs rfl (evs rfl (evs rfl (evs rfl (evs rfl (evs rfl (evs rfl (evs rfl (evs rfl .nil))))))))))) (fun env => ?_)
    dsimp only [upds]
    repeat' first | refine adv ?_ | refine Side.go ?_ | refine Giv.mk fun _ => ?_ | refine All.mk fun q => ?_ | refine Fork.mk ?_ ?_ | (refine Two.mk (fun h => ?_) (fun h => ?_) <;> try first | contradiction | (exfalso; omega))
    · refine CallG.use (dev_rest (pickOf picks k).1 ((d.zs[k].2.b.xs.length : Int) - d.zs[k].2.g + 1) (by omega)) ?_
      rintro r M ⟨rfl, rfl⟩
      dsimp only [lcA, lnA]
      have hr := restOf_lt (pickOf picks k).1 ((d.zs[k].2.b.xs.length : Int) - d.zs[k].2.g + 1) (by omega)
      obtain ⟨n, hN⟩ : ∃ n : Nat, (d.zs[k].2.g : Int) + restOf (pickOf picks k).1 ((d.zs[k].2.b.xs.length : Int) - d.zs[k].2.g + 1) = n := ⟨((d.zs[k].2.g : Int) + restOf (pickOf picks k).1 ((d.zs[k].2.b.xs.length : Int) - d.zs[k].2.g + 1)).toNat, by omega⟩
      have hc : crashN picks k d.zs[k].2.b.xs.length d.zs[k].2.g = n := by unfold crashN; rw [if_pos h]; omega
      have hnl2 : n ≤ d.zs[k].2.b.xs.length := by omega
      have hstep := crash_step d picks torn k nz hk2 hkn hnl hz n hc
      repeat' first | refine adv ?_ | refine Side.go ?_ | refine Giv.mk fun _ => ?_ | refine All.mk fun q => ?_ | refine Fork.mk ?_ ?_ | (refine Two.mk (fun h => ?_) (fun h => ?_) <;> try first | contradiction | (exfalso; omega))
      simp only [hN, Int.toNat_natCast, List.drop_zero, Nat.sub_zero]
      refine CallG.use (dev_own ⟨q, d.zs[k].2.b.c, d.zs[k].2.b.xs.take n⟩ (by simp; omega)) ?_
      rintro v M ⟨t, rfl, ht, rfl⟩
      dsimp only [lcA, lnA] at ht ⊢
      have htl : t.xs.length = n := by rw [← raws_len, ht, raws_len, List.length_take]; omega
      refine SyO_cut [(33, .int .i64 k), (32, .int .i64 (d.zs.map (fun x : Ptr × ZR => x.1)).length), (31, .slice d.a (d.zs.map (fun x : Ptr × ZR => x.1)).length d.c), (1, pv), (2, tv), (7, .pointer (some ⟨r', 0, none⟩)), (9, .int .i64 k), (10, .pointer (some ⟨d.zs[k].1.r, 0, none⟩)), (11, .int .i64 n), (12, .int .i64 d.zs[k].2.b.xs.length), (68, t.val)] (evs rfl (evs rfl (evs rfl (evs rfl (evs rfl (evs rfl (evs rfl (evs rfl (evs rfl (evs rfl (evs rfl .nil))))))))))) (fun env => ?_)
      dsimp only [upds]
      repeat' first | refine adv ?_ | refine Side.go ?_ | refine Giv.mk fun _ => ?_ | refine All.mk fun q => ?_ | refine Fork.mk ?_ ?_ | (refine Two.mk (fun h => ?_) (fun h => ?_) <;> try first | contradiction | (exfalso; omega))
      refine CallG.use (dev_pick tv torn k) ?_
      rintro r M ⟨rfl, rfl⟩
      dsimp only [lcA, lnA]
      repeat' first | refine adv ?_ | refine Side.go ?_ | refine Giv.mk fun _ => ?_ | refine All.mk fun q => ?_ | refine Fork.mk ?_ ?_ | (refine Two.mk (fun h => ?_) (fun h => ?_) <;> try first | contradiction | (exfalso; omega))
      · have hnl3 : n < d.zs[k].2.b.xs.length := by omega
        have h64 := hzo.2.2.2 _ (List.getElem_mem hnl3)
        refine CallG_conv (L' := roS (d.zs[k].2.b.xs[n]'hnl3) :: ownS t :: bigS zoneO (d.zs.drop (k + 1)) :: roS (⟨d.a, d.c, d.zs.map (·.1)⟩ : Sl Ptr) :: cells true r' 0 [.int .i64 d.Z, .int .i64 d.S, .slice a' ps.length c', .int .i64 (cnt 0), .int .i64 (cnt 0), .bool false, .int .i64 ((0 : Nat) : Int), .bool false] :: roS (⟨a', c', ps⟩ : Sl Ptr) :: bigS zoneO nz :: liI pv picks :: liI tv torn :: F) (fun B w h => goes w (ro_pull_sl hnl3 (goes w h : sat B (roS d.zs[k].2.b :: ownS t :: bigS zoneO (d.zs.drop (k + 1)) :: roS (⟨d.a, d.c, d.zs.map (·.1)⟩ : Sl Ptr) :: cells true r' 0 [.int .i64 d.Z, .int .i64 d.S, .slice a' ps.length c', .int .i64 (cnt 0), .int .i64 (cnt 0), .bool false, .int .i64 ((0 : Nat) : Int), .bool false] :: roS (⟨a', c', ps⟩ : Sl Ptr) :: bigS zoneO nz :: liI pv picks :: liI tv torn :: F) w))) ?_
        refine CallG.use (dev_tear d.zs[k].2.b.xs[n] h64) ?_
        rintro r M ⟨a2, c2, rfl, rfl⟩
        dsimp only [lcA, lnA]
        repeat' first | refine adv ?_ | refine Side.go ?_ | refine Giv.mk fun _ => ?_ | refine All.mk fun q => ?_ | refine Fork.mk ?_ ?_ | (refine Two.mk (fun h => ?_) (fun h => ?_) <;> try first | contradiction | (exfalso; omega))
        refine AppG.oneS t (⟨a2, c2, tearOf d.zs[k].2.b.xs[n].xs⟩ : Sl UInt8) ?_ (fun a3 c3 => ?_)
        · omega
        repeat' first | refine adv ?_ | refine Side.go ?_ | refine Giv.mk fun _ => ?_ | refine All.mk fun q => ?_ | refine Fork.mk ?_ ?_ | (refine Two.mk (fun h => ?_) (fun h => ?_) <;> try first | contradiction | (exfalso; omega))
        refine SyO_conv (L' := cells true (ps[k]'hkp).r 0 [(nz[k]'hkn).2.b.val, .int .i64 (nz[k]'hkn).2.g] :: bigS zoneO (nz.eraseIdx k) :: ownS (⟨a3, c3, t.xs ++ [⟨a2, c2, tearOf d.zs[k].2.b.xs[n].xs⟩]⟩ : Sl (Sl UInt8)) :: bigS zoneO (d.zs.drop (k + 1)) :: roS (⟨d.a, d.c, d.zs.map (·.1)⟩ : Sl Ptr) :: cells true r' 0 [.int .i64 d.Z, .int .i64 d.S, .slice a' ps.length c', .int .i64 (cnt 0), .int .i64 (cnt 0), .bool false, .int .i64 ((0 : Nat) : Int), .bool false] :: roS (⟨a', c', ps⟩ : Sl Ptr) :: liI pv picks :: liI tv torn :: F) (fun w h => ?_) ?_
        · have h2 := zone_open hkn (goes w h : sat B (bigS zoneO nz :: ownS (⟨a3, c3, t.xs ++ [⟨a2, c2, tearOf d.zs[k].2.b.xs[n].xs⟩]⟩ : Sl (Sl UInt8)) :: bigS zoneO (d.zs.drop (k + 1)) :: roS (⟨d.a, d.c, d.zs.map (·.1)⟩ : Sl Ptr) :: cells true r' 0 [.int .i64 d.Z, .int .i64 d.S, .slice a' ps.length c', .int .i64 (cnt 0), .int .i64 (cnt 0), .bool false, .int .i64 ((0 : Nat) : Int), .bool false] :: roS (⟨a', c', ps⟩ : Sl Ptr) :: liI pv picks :: liI tv torn :: F) w)
          rw [hpk] at h2
          exact goes w h2
        repeat' first | refine adv ?_ | refine Side.go ?_ | refine Giv.mk fun _ => ?_ | refine All.mk fun q => ?_ | refine Fork.mk ?_ ?_ | (refine Two.mk (fun h => ?_) (fun h => ?_) <;> try first | contradiction | (exfalso; omega))
        refine loopQ.next ⟨(k + 1, nz.set k ((nz[k]'hkn).1, ⟨(⟨a3, c3, t.xs ++ [⟨a2, c2, tearOf d.zs[k].2.b.xs[n].xs⟩]⟩ : Sl (Sl UInt8)), (⟨a3, c3, t.xs ++ [⟨a2, c2, tearOf d.zs[k].2.b.xs[n].xs⟩]⟩ : Sl (Sl UInt8)).xs.length⟩)), by omega, by rw [map_set_fst]; exact hp, ?_⟩ (by simp only []; omega) (evs rfl (evs rfl (evs rfl (evs rfl (evs rfl (evs rfl .nil)))))) (fun w h => ?_)
        · refine hstep (⟨a3, c3, t.xs ++ [⟨a2, c2, tearOf d.zs[k].2.b.xs[n].xs⟩]⟩ : Sl (Sl UInt8)) ?_
          unfold crashL; rw [if_pos (by refine ⟨by assumption, by omega, by assumption⟩), raws_snoc, ht, raws_take2]; simp [ZR.zv, raws, hnl3]
        · have h2 := zone_close hkn ⟨(⟨a3, c3, t.xs ++ [⟨a2, c2, tearOf d.zs[k].2.b.xs[n].xs⟩]⟩ : Sl (Sl UInt8)), (⟨a3, c3, t.xs ++ [⟨a2, c2, tearOf d.zs[k].2.b.xs[n].xs⟩]⟩ : Sl (Sl UInt8)).xs.length⟩ (L := ownS (⟨none, 0, []⟩ : Sl UInt8) :: bigS zoneO (d.zs.drop (k + 1)) :: roS (⟨d.a, d.c, d.zs.map (·.1)⟩ : Sl Ptr) :: cells true r' 0 [.int .i64 d.Z, .int .i64 d.S, .slice a' ps.length c', .int .i64 (cnt 0), .int .i64 (cnt 0), .bool false, .int .i64 ((0 : Nat) : Int), .bool false] :: roS (⟨a', c', ps⟩ : Sl Ptr) :: liI pv picks :: liI tv torn :: F) (w := w) (B := B) (by rw [hpk]; exact goes w h)
          exact goes w h2
      · refine SyO_conv (L' := cells true (ps[k]'hkp).r 0 [(nz[k]'hkn).2.b.val, .int .i64 (nz[k]'hkn).2.g] :: bigS zoneO (nz.eraseIdx k) :: ownS t :: bigS zoneO (d.zs.drop (k + 1)) :: roS (⟨d.a, d.c, d.zs.map (·.1)⟩ : Sl Ptr) :: cells true r' 0 [.int .i64 d.Z, .int .i64 d.S, .slice a' ps.length c', .int .i64 (cnt 0), .int .i64 (cnt 0), .bool false, .int .i64 ((0 : Nat) : Int), .bool false] :: roS (⟨a', c', ps⟩ : Sl Ptr) :: liI pv picks :: liI tv torn :: F) (fun w h => ?_) ?_
        · have h2 := zone_open hkn (goes w h : sat B (bigS zoneO nz :: ownS t :: bigS zoneO (d.zs.drop (k + 1)) :: roS (⟨d.a, d.c, d.zs.map (·.1)⟩ : Sl Ptr) :: cells true r' 0 [.int .i64 d.Z, .int .i64 d.S, .slice a' ps.length c', .int .i64 (cnt 0), .int .i64 (cnt 0), .bool false, .int .i64 ((0 : Nat) : Int), .bool false] :: roS (⟨a', c', ps⟩ : Sl Ptr) :: liI pv picks :: liI tv torn :: F) w)
          rw [hpk] at h2
          exact goes w h2
        repeat' first | refine adv ?_ | refine Side.go ?_ | refine Giv.mk fun _ => ?_ | refine All.mk fun q => ?_ | refine Fork.mk ?_ ?_ | (refine Two.mk (fun h => ?_) (fun h => ?_) <;> try first | contradiction | (exfalso; omega))
        refine loopQ.next ⟨(k + 1, nz.set k ((nz[k]'hkn).1, ⟨t, t.xs.length⟩)), by omega, by rw [map_set_fst]; exact hp, ?_⟩ (by simp only []; omega) (evs rfl (evs rfl (evs rfl (evs rfl (evs rfl (evs rfl .nil)))))) (fun w h => ?_)
        · refine hstep t ?_
          unfold crashL; rw [if_neg (by rintro ⟨x1, x2, x3⟩; first | contradiction | omega), List.append_nil, ht, raws_take2]
        · have h2 := zone_close hkn ⟨t, t.xs.length⟩ (L := ownS (⟨none, 0, []⟩ : Sl UInt8) :: bigS zoneO (d.zs.drop (k + 1)) :: roS (⟨d.a, d.c, d.zs.map (·.1)⟩ : Sl Ptr) :: cells true r' 0 [.int .i64 d.Z, .int .i64 d.S, .slice a' ps.length c', .int .i64 (cnt 0), .int .i64 (cnt 0), .bool false, .int .i64 ((0 : Nat) : Int), .bool false] :: roS (⟨a', c', ps⟩ : Sl Ptr) :: liI pv picks :: liI tv torn :: F) (w := w) (B := B) (by rw [hpk]; exact goes w h)
          exact goes w h2
      · refine SyO_conv (L' := cells true (ps[k]'hkp).r 0 [(nz[k]'hkn).2.b.val, .int .i64 (nz[k]'hkn).2.g] :: bigS zoneO (nz.eraseIdx k) :: ownS t :: bigS zoneO (d.zs.drop (k + 1)) :: roS (⟨d.a, d.c, d.zs.map (·.1)⟩ : Sl Ptr) :: cells true r' 0 [.int .i64 d.Z, .int .i64 d.S, .slice a' ps.length c', .int .i64 (cnt 0), .int .i64 (cnt 0), .bool false, .int .i64 ((0 : Nat) : Int), .bool false] :: roS (⟨a', c', ps⟩ : Sl Ptr) :: liI pv picks :: liI tv torn :: F) (fun w h => ?_) ?_
        · have h2 := zone_open hkn (goes w h : sat B (bigS zoneO nz :: ownS t :: bigS zoneO (d.zs.drop (k + 1)) :: roS (⟨d.a, d.c, d.zs.map (·.1)⟩ : Sl Ptr) :: cells true r' 0 [.int .i64 d.Z, .int .i64 d.S, .slice a' ps.length c', .int .i64 (cnt 0), .int .i64 (cnt 0), .bool false, .int .i64 ((0 : Nat) : Int), .bool false] :: roS (⟨a', c', ps⟩ : Sl Ptr) :: liI pv picks :: liI tv torn :: F) w)
          rw [hpk] at h2
          exact goes w h2
        repeat' first | refine adv ?_ | refine Side.go ?_ | refine Giv.mk fun _ => ?_ | refine All.mk fun q => ?_ | refine Fork.mk ?_ ?_ | (refine Two.mk (fun h => ?_) (fun h => ?_) <;> try first | contradiction | (exfalso; omega))
        refine loopQ.next ⟨(k + 1, nz.set k ((nz[k]'hkn).1, ⟨t, t.xs.length⟩)), by omega, by rw [map_set_fst]; exact hp, ?_⟩ (by simp only []; omega) (evs rfl (evs rfl (evs rfl (evs rfl (evs rfl (evs rfl .nil)))))) (fun w h => ?_)
        · refine hstep t ?_
          unfold crashL; rw [if_neg (by rintro ⟨x1, x2, x3⟩; first | contradiction | omega), List.append_nil, ht, raws_take2]
        · have h2 := zone_close hkn ⟨t, t.xs.length⟩ (L := ownS (⟨none, 0, []⟩ : Sl UInt8) :: bigS zoneO (d.zs.drop (k + 1)) :: roS (⟨d.a, d.c, d.zs.map (·.1)⟩ : Sl Ptr) :: cells true r' 0 [.int .i64 d.Z, .int .i64 d.S, .slice a' ps.length c', .int .i64 (cnt 0), .int .i64 (cnt 0), .bool false, .int .i64 ((0 : Nat) : Int), .bool false] :: roS (⟨a', c', ps⟩ : Sl Ptr) :: liI pv picks :: liI tv torn :: F) (w := w) (B := B) (by rw [hpk]; exact goes w h)
          exact goes w h2
      · refine SyO_conv (L' := cells true (ps[k]'hkp).r 0 [(nz[k]'hkn).2.b.val, .int .i64 (nz[k]'hkn).2.g] :: bigS zoneO (nz.eraseIdx k) :: ownS t :: bigS zoneO (d.zs.drop (k + 1)) :: roS (⟨d.a, d.c, d.zs.map (·.1)⟩ : Sl Ptr) :: cells true r' 0 [.int .i64 d.Z, .int .i64 d.S, .slice a' ps.length c', .int .i64 (cnt 0), .int .i64 (cnt 0), .bool false, .int .i64 ((0 : Nat) : Int), .bool false] :: roS (⟨a', c', ps⟩ : Sl Ptr) :: liI pv picks :: liI tv torn :: F) (fun w h => ?_) ?_
        · have h2 := zone_open hkn (goes w h : sat B (bigS zoneO nz :: ownS t :: bigS zoneO (d.zs.drop (k + 1)) :: roS (⟨d.a, d.c, d.zs.map (·.1)⟩ : Sl Ptr) :: cells true r' 0 [.int .i64 d.Z, .int .i64 d.S, .slice a' ps.length c', .int .i64 (cnt 0), .int .i64 (cnt 0), .bool false, .int .i64 ((0 : Nat) : Int), .bool false] :: roS (⟨a', c', ps⟩ : Sl Ptr) :: liI pv picks :: liI tv torn :: F) w)
          rw [hpk] at h2
          exact goes w h2
        repeat' first | refine adv ?_ | refine Side.go ?_ | refine Giv.mk fun _ => ?_ | refine All.mk fun q => ?_ | refine Fork.mk ?_ ?_ | (refine Two.mk (fun h => ?_) (fun h => ?_) <;> try first | contradiction | (exfalso; omega))
        refine loopQ.next ⟨(k + 1, nz.set k ((nz[k]'hkn).1, ⟨t, t.xs.length⟩)), by omega, by rw [map_set_fst]; exact hp, ?_⟩ (by simp only []; omega) (evs rfl (evs rfl (evs rfl (evs rfl (evs rfl (evs rfl .nil)))))) (fun w h => ?_)
        · refine hstep t ?_
          unfold crashL; rw [if_neg (by rintro ⟨x1, x2, x3⟩; first | contradiction | omega), List.append_nil, ht, raws_take2]
        · have h2 := zone_close hkn ⟨t, t.xs.length⟩ (L := ownS (⟨none, 0, []⟩ : Sl UInt8) :: bigS zoneO (d.zs.drop (k + 1)) :: roS (⟨d.a, d.c, d.zs.map (·.1)⟩ : Sl Ptr) :: cells true r' 0 [.int .i64 d.Z, .int .i64 d.S, .slice a' ps.length c', .int .i64 (cnt 0), .int .i64 (cnt 0), .bool false, .int .i64 ((0 : Nat) : Int), .bool false] :: roS (⟨a', c', ps⟩ : Sl Ptr) :: liI pv picks :: liI tv torn :: F) (w := w) (B := B) (by rw [hpk]; exact goes w h)
          exact goes w h2
    · obtain ⟨n, hN⟩ : ∃ n : Nat, d.zs[k].2.g = n := ⟨_, rfl⟩
      have hc : crashN picks k d.zs[k].2.b.xs.length d.zs[k].2.g = n := by unfold crashN; rw [if_neg h]; exact hN
      have hnl2 : n ≤ d.zs[k].2.b.xs.length := by omega
      have hstep := crash_step d picks torn k nz hk2 hkn hnl hz n hc
      simp only [hN, List.drop_zero, Nat.sub_zero]
      refine CallG.use (dev_own ⟨q, d.zs[k].2.b.c, d.zs[k].2.b.xs.take n⟩ (by simp; omega)) ?_
      rintro v M ⟨t, rfl, ht, rfl⟩
      dsimp only [lcA, lnA] at ht ⊢
      have htl : t.xs.length = n := by rw [← raws_len, ht, raws_len, List.length_take]; omega
      refine SyO_cut [(33, .int .i64 k), (32, .int .i64 (d.zs.map (fun x : Ptr × ZR => x.1)).length), (31, .slice d.a (d.zs.map (fun x : Ptr × ZR => x.1)).length d.c), (1, pv), (2, tv), (7, .pointer (some ⟨r', 0, none⟩)), (9, .int .i64 k), (10, .pointer (some ⟨d.zs[k].1.r, 0, none⟩)), (11, .int .i64 n), (12, .int .i64 d.zs[k].2.b.xs.length), (68, t.val)] (evs rfl (evs rfl (evs rfl (evs rfl (evs rfl (evs rfl (evs rfl (evs rfl (evs rfl (evs rfl (evs rfl .nil))))))))))) (fun env => ?_)
      dsimp only [upds]
      repeat' first | refine adv ?_ | refine Side.go ?_ | refine Giv.mk fun _ => ?_ | refine All.mk fun q => ?_ | refine Fork.mk ?_ ?_ | (refine Two.mk (fun h => ?_) (fun h => ?_) <;> try first | contradiction | (exfalso; omega))
      refine CallG.use (dev_pick tv torn k) ?_
      rintro r M ⟨rfl, rfl⟩
      dsimp only [lcA, lnA]
      repeat' first | refine adv ?_ | refine Side.go ?_ | refine Giv.mk fun _ => ?_ | refine All.mk fun q => ?_ | refine Fork.mk ?_ ?_ | (refine Two.mk (fun h => ?_) (fun h => ?_) <;> try first | contradiction | (exfalso; omega))
      · have hnl3 : n < d.zs[k].2.b.xs.length := by omega
        have h64 := hzo.2.2.2 _ (List.getElem_mem hnl3)
        refine CallG_conv (L' := roS (d.zs[k].2.b.xs[n]'hnl3) :: ownS t :: bigS zoneO (d.zs.drop (k + 1)) :: roS (⟨d.a, d.c, d.zs.map (·.1)⟩ : Sl Ptr) :: cells true r' 0 [.int .i64 d.Z, .int .i64 d.S, .slice a' ps.length c', .int .i64 (cnt 0), .int .i64 (cnt 0), .bool false, .int .i64 ((0 : Nat) : Int), .bool false] :: roS (⟨a', c', ps⟩ : Sl Ptr) :: bigS zoneO nz :: liI pv picks :: liI tv torn :: F) (fun B w h => goes w (ro_pull_sl hnl3 (goes w h : sat B (roS d.zs[k].2.b :: ownS t :: bigS zoneO (d.zs.drop (k + 1)) :: roS (⟨d.a, d.c, d.zs.map (·.1)⟩ : Sl Ptr) :: cells true r' 0 [.int .i64 d.Z, .int .i64 d.S, .slice a' ps.length c', .int .i64 (cnt 0), .int .i64 (cnt 0), .bool false, .int .i64 ((0 : Nat) : Int), .bool false] :: roS (⟨a', c', ps⟩ : Sl Ptr) :: bigS zoneO nz :: liI pv picks :: liI tv torn :: F) w))) ?_
        refine CallG.use (dev_tear d.zs[k].2.b.xs[n] h64) ?_
        rintro r M ⟨a2, c2, rfl, rfl⟩
        dsimp only [lcA, lnA]
        repeat' first | refine adv ?_ | refine Side.go ?_ | refine Giv.mk fun _ => ?_ | refine All.mk fun q => ?_ | refine Fork.mk ?_ ?_ | (refine Two.mk (fun h => ?_) (fun h => ?_) <;> try first | contradiction | (exfalso; omega))
        refine AppG.oneS t (⟨a2, c2, tearOf d.zs[k].2.b.xs[n].xs⟩ : Sl UInt8) ?_ (fun a3 c3 => ?_)
        · omega
        repeat' first | refine adv ?_ | refine Side.go ?_ | refine Giv.mk fun _ => ?_ | refine All.mk fun q => ?_ | refine Fork.mk ?_ ?_ | (refine Two.mk (fun h => ?_) (fun h => ?_) <;> try first | contradiction | (exfalso; omega))
        refine SyO_conv (L' := cells true (ps[k]'hkp).r 0 [(nz[k]'hkn).2.b.val, .int .i64 (nz[k]'hkn).2.g] :: bigS zoneO (nz.eraseIdx k) :: ownS (⟨a3, c3, t.xs ++ [⟨a2, c2, tearOf d.zs[k].2.b.xs[n].xs⟩]⟩ : Sl (Sl UInt8)) :: bigS zoneO (d.zs.drop (k + 1)) :: roS (⟨d.a, d.c, d.zs.map (·.1)⟩ : Sl Ptr) :: cells true r' 0 [.int .i64 d.Z, .int .i64 d.S, .slice a' ps.length c', .int .i64 (cnt 0), .int .i64 (cnt 0), .bool false, .int .i64 ((0 : Nat) : Int), .bool false] :: roS (⟨a', c', ps⟩ : Sl Ptr) :: liI pv picks :: liI tv torn :: F) (fun w h => ?_) ?_
        · have h2 := zone_open hkn (goes w h : sat B (bigS zoneO nz :: ownS (⟨a3, c3, t.xs ++ [⟨a2, c2, tearOf d.zs[k].2.b.xs[n].xs⟩]⟩ : Sl (Sl UInt8)) :: bigS zoneO (d.zs.drop (k + 1)) :: roS (⟨d.a, d.c, d.zs.map (·.1)⟩ : Sl Ptr) :: cells true r' 0 [.int .i64 d.Z, .int .i64 d.S, .slice a' ps.length c', .int .i64 (cnt 0), .int .i64 (cnt 0), .bool false, .int .i64 ((0 : Nat) : Int), .bool false] :: roS (⟨a', c', ps⟩ : Sl Ptr) :: liI pv picks :: liI tv torn :: F) w)
          rw [hpk] at h2
          exact goes w h2
        repeat' first | refine adv ?_ | refine Side.go ?_ | refine Giv.mk fun _ => ?_ | refine All.mk fun q => ?_ | refine Fork.mk ?_ ?_ | (refine Two.mk (fun h => ?_) (fun h => ?_) <;> try first | contradiction | (exfalso; omega))
        refine loopQ.next ⟨(k + 1, nz.set k ((nz[k]'hkn).1, ⟨(⟨a3, c3, t.xs ++ [⟨a2, c2, tearOf d.zs[k].2.b.xs[n].xs⟩]⟩ : Sl (Sl UInt8)), (⟨a3, c3, t.xs ++ [⟨a2, c2, tearOf d.zs[k].2.b.xs[n].xs⟩]⟩ : Sl (Sl UInt8)).xs.length⟩)), by omega, by rw [map_set_fst]; exact hp, ?_⟩ (by simp only []; omega) (evs rfl (evs rfl (evs rfl (evs rfl (evs rfl (evs rfl .nil)))))) (fun w h => ?_)
        · refine hstep (⟨a3, c3, t.xs ++ [⟨a2, c2, tearOf d.zs[k].2.b.xs[n].xs⟩]⟩ : Sl (Sl UInt8)) ?_
          unfold crashL; rw [if_pos (by refine ⟨by assumption, by omega, by assumption⟩), raws_snoc, ht, raws_take2]; simp [ZR.zv, raws, hnl3]
        · have h2 := zone_close hkn ⟨(⟨a3, c3, t.xs ++ [⟨a2, c2, tearOf d.zs[k].2.b.xs[n].xs⟩]⟩ : Sl (Sl UInt8)), (⟨a3, c3, t.xs ++ [⟨a2, c2, tearOf d.zs[k].2.b.xs[n].xs⟩]⟩ : Sl (Sl UInt8)).xs.length⟩ (L := ownS (⟨none, 0, []⟩ : Sl UInt8) :: bigS zoneO (d.zs.drop (k + 1)) :: roS (⟨d.a, d.c, d.zs.map (·.1)⟩ : Sl Ptr) :: cells true r' 0 [.int .i64 d.Z, .int .i64 d.S, .slice a' ps.length c', .int .i64 (cnt 0), .int .i64 (cnt 0), .bool false, .int .i64 ((0 : Nat) : Int), .bool false] :: roS (⟨a', c', ps⟩ : Sl Ptr) :: liI pv picks :: liI tv torn :: F) (w := w) (B := B) (by rw [hpk]; exact goes w h)
          exact goes w h2
      · refine SyO_conv (L' := cells true (ps[k]'hkp).r 0 [(nz[k]'hkn).2.b.val, .int .i64 (nz[k]'hkn).2.g] :: bigS zoneO (nz.eraseIdx k) :: ownS t :: bigS zoneO (d.zs.drop (k + 1)) :: roS (⟨d.a, d.c, d.zs.map (·.1)⟩ : Sl Ptr) :: cells true r' 0 [.int .i64 d.Z, .int .i64 d.S, .slice a' ps.length c', .int .i64 (cnt 0), .int .i64 (cnt 0), .bool false, .int .i64 ((0 : Nat) : Int), .bool false] :: roS (⟨a', c', ps⟩ : Sl Ptr) :: liI pv picks :: liI tv torn :: F) (fun w h => ?_) ?_
        · have h2 := zone_open hkn (goes w h : sat B (bigS zoneO nz :: ownS t :: bigS zoneO (d.zs.drop (k + 1)) :: roS (⟨d.a, d.c, d.zs.map (·.1)⟩ : Sl Ptr) :: cells true r' 0 [.int .i64 d.Z, .int .i64 d.S, .slice a' ps.length c', .int .i64 (cnt 0), .int .i64 (cnt 0), .bool false, .int .i64 ((0 : Nat) : Int), .bool false] :: roS (⟨a', c', ps⟩ : Sl Ptr) :: liI pv picks :: liI tv torn :: F) w)
          rw [hpk] at h2
          exact goes w h2
        repeat' first | refine adv ?_ | refine Side.go ?_ | refine Giv.mk fun _ => ?_ | refine All.mk fun q => ?_ | refine Fork.mk ?_ ?_ | (refine Two.mk (fun h => ?_) (fun h => ?_) <;> try first | contradiction | (exfalso; omega))
        refine loopQ.next ⟨(k + 1, nz.set k ((nz[k]'hkn).1, ⟨t, t.xs.length⟩)), by omega, by rw [map_set_fst]; exact hp, ?_⟩ (by simp only []; omega) (evs rfl (evs rfl (evs rfl (evs rfl (evs rfl (evs rfl .nil)))))) (fun w h => ?_)
        · refine hstep t ?_
          unfold crashL; rw [if_neg (by rintro ⟨x1, x2, x3⟩; first | contradiction | omega), List.append_nil, ht, raws_take2]
        · have h2 := zone_close hkn ⟨t, t.xs.length⟩ (L := ownS (⟨none, 0, []⟩ : Sl UInt8) :: bigS zoneO (d.zs.drop (k + 1)) :: roS (⟨d.a, d.c, d.zs.map (·.1)⟩ : Sl Ptr) :: cells true r' 0 [.int .i64 d.Z, .int .i64 d.S, .slice a' ps.length c', .int .i64 (cnt 0), .int .i64 (cnt 0), .bool false, .int .i64 ((0 : Nat) : Int), .bool false] :: roS (⟨a', c', ps⟩ : Sl Ptr) :: liI pv picks :: liI tv torn :: F) (w := w) (B := B) (by rw [hpk]; exact goes w h)
          exact goes w h2
      · refine SyO_conv (L' := cells true (ps[k]'hkp).r 0 [(nz[k]'hkn).2.b.val, .int .i64 (nz[k]'hkn).2.g] :: bigS zoneO (nz.eraseIdx k) :: ownS t :: bigS zoneO (d.zs.drop (k + 1)) :: roS (⟨d.a, d.c, d.zs.map (·.1)⟩ : Sl Ptr) :: cells true r' 0 [.int .i64 d.Z, .int .i64 d.S, .slice a' ps.length c', .int .i64 (cnt 0), .int .i64 (cnt 0), .bool false, .int .i64 ((0 : Nat) : Int), .bool false] :: roS (⟨a', c', ps⟩ : Sl Ptr) :: liI pv picks :: liI tv torn :: F) (fun w h => ?_) ?_
        · have h2 := zone_open hkn (goes w h : sat B (bigS zoneO nz :: ownS t :: bigS zoneO (d.zs.drop (k + 1)) :: roS (⟨d.a, d.c, d.zs.map (·.1)⟩ : Sl Ptr) :: cells true r' 0 [.int .i64 d.Z, .int .i64 d.S, .slice a' ps.length c', .int .i64 (cnt 0), .int .i64 (cnt 0), .bool false, .int .i64 ((0 : Nat) : Int), .bool false] :: roS (⟨a', c', ps⟩ : Sl Ptr) :: liI pv picks :: liI tv torn :: F) w)
          rw [hpk] at h2
          exact goes w h2
        repeat' first | refine adv ?_ | refine Side.go ?_ | refine Giv.mk fun _ => ?_ | refine All.mk fun q => ?_ | refine Fork.mk ?_ ?_ | (refine Two.mk (fun h => ?_) (fun h => ?_) <;> try first | contradiction | (exfalso; omega))
        refine loopQ.next ⟨(k + 1, nz.set k ((nz[k]'hkn).1, ⟨t, t.xs.length⟩)), by omega, by rw [map_set_fst]; exact hp, ?_⟩ (by simp only []; omega) (evs rfl (evs rfl (evs rfl (evs rfl (evs rfl (evs rfl .nil)))))) (fun w h => ?_)
        · refine hstep t ?_
          unfold crashL; rw [if_neg (by rintro ⟨x1, x2, x3⟩; first | contradiction | omega), List.append_nil, ht, raws_take2]
        · have h2 := zone_close hkn ⟨t, t.xs.length⟩ (L := ownS (⟨none, 0, []⟩ : Sl UInt8) :: bigS zoneO (d.zs.drop (k + 1)) :: roS (⟨d.a, d.c, d.zs.map (·.1)⟩ : Sl Ptr) :: cells true r' 0 [.int .i64 d.Z, .int .i64 d.S, .slice a' ps.length c', .int .i64 (cnt 0), .int .i64 (cnt 0), .bool false, .int .i64 ((0 : Nat) : Int), .bool false] :: roS (⟨a', c', ps⟩ : Sl Ptr) :: liI pv picks :: liI tv torn :: F) (w := w) (B := B) (by rw [hpk]; exact goes w h)
          exact goes w h2
      · refine SyO_conv (L' := cells true (ps[k]'hkp).r 0 [(nz[k]'hkn).2.b.val, .int .i64 (nz[k]'hkn).2.g] :: bigS zoneO (nz.eraseIdx k) :: ownS t :: bigS zoneO (d.zs.drop (k + 1)) :: roS (⟨d.a, d.c, d.zs.map (·.1)⟩ : Sl Ptr) :: cells true r' 0 [.int .i64 d.Z, .int .i64 d.S, .slice a' ps.length c', .int .i64 (cnt 0), .int .i64 (cnt 0), .bool false, .int .i64 ((0 : Nat) : Int), .bool false] :: roS (⟨a', c', ps⟩ : Sl Ptr) :: liI pv picks :: liI tv torn :: F) (fun w h => ?_) ?_
        · have h2 := zone_open hkn (goes w h : sat B (bigS zoneO nz :: ownS t :: bigS zoneO (d.zs.drop (k + 1)) :: roS (⟨d.a, d.c, d.zs.map (·.1)⟩ : Sl Ptr) :: cells true r' 0 [.int .i64 d.Z, .int .i64 d.S, .slice a' ps.length c', .int .i64 (cnt 0), .int .i64 (cnt 0), .bool false, .int .i64 ((0 : Nat) : Int), .bool false] :: roS (⟨a', c', ps⟩ : Sl Ptr) :: liI pv picks :: liI tv torn :: F) w)
          rw [hpk] at h2
          exact goes w h2
        repeat' first | refine adv ?_ | refine Side.go ?_ | refine Giv.mk fun _ => ?_ | refine All.mk fun q => ?_ | refine Fork.mk ?_ ?_ | (refine Two.mk (fun h => ?_) (fun h => ?_) <;> try first | contradiction | (exfalso; omega))
        refine loopQ.next ⟨(k + 1, nz.set k ((nz[k]'hkn).1, ⟨t, t.xs.length⟩)), by omega, by rw [map_set_fst]; exact hp, ?_⟩ (by simp only []; omega) (evs rfl (evs rfl (evs rfl (evs rfl (evs rfl (evs rfl .nil)))))) (fun w h => ?_)
        · refine hstep t ?_
          unfold crashL; rw [if_neg (by rintro ⟨x1, x2, x3⟩; first | contradiction | omega), List.append_nil, ht, raws_take2]
        · have h2 := zone_close hkn ⟨t, t.xs.length⟩ (L := ownS (⟨none, 0, []⟩ : Sl UInt8) :: bigS zoneO (d.zs.drop (k + 1)) :: roS (⟨d.a, d.c, d.zs.map (·.1)⟩ : Sl Ptr) :: cells true r' 0 [.int .i64 d.Z, .int .i64 d.S, .slice a' ps.length c', .int .i64 (cnt 0), .int .i64 (cnt 0), .bool false, .int .i64 ((0 : Nat) : Int), .bool false] :: roS (⟨a', c', ps⟩ : Sl Ptr) :: liI pv picks :: liI tv torn :: F) (w := w) (B := B) (by rw [hpk]; exact goes w h)
          exact goes w h2
  · have hk3 : k = d.zs.length := by simp at h; omega
    subst hk3
    have e : (⟨d.Z, d.S, a', c', nz, 0, 0, false, 0, false⟩ : DR).dv = d.dv.crash picks torn := by
      unfold DR.dv Dv.crash
      simp only [hz, Nat.sub_self, List.replicate_zero, List.append_nil]
      rw [List.take_of_length_le (by rw [hA]; exact Nat.le_refl _)]
      rfl
    refine endQ.oneW Tryz.results23 ⟨r', rfl, rfl⟩ (fun w h => devO_close ⟨d.Z, d.S, a', c', nz, 0, 0, false, 0, false⟩ e ?_)
    dsimp only
    rw [hp]
    exact goes w h
end Go.SL
namespace Go.SL
open Go.Proofs

/-- A number in n bytes, the least first. -/
def leB (v n : Nat) : List UInt8 := (List.range n).map fun i => UInt8.ofNat (v / 2 ^ (8 * i) % 256)
/-- The number that n bytes are. -/
def leN (b : List UInt8) : Nat → Nat
  | 0 => 0
  | n + 1 => leN b n + (b[n]?.getD 0).toNat * 2 ^ (8 * n)

theorem leB_length (v n : Nat) : (leB v n).length = n := by simp [leB]

theorem set_next {α : Type} (l : List α) (z : α) (n k : Nat) (hl : l.length = n) (hk : k < n) : (l.take k ++ List.replicate (n - k) z).set k l[k] = l.take (k + 1) ++ List.replicate (n - (k + 1)) z := by
  have h1 : (l.take k).length = k := by simp; omega
  rw [List.set_append_right _ _ (by omega), h1, Nat.sub_self]
  have h2 : n - k = (n - (k + 1)) + 1 := by omega
  rw [h2, List.replicate_succ, List.set_cons_zero, List.take_succ_eq_append_getElem (by omega), List.append_assoc]
  rfl

theorem put_spec (v n : Nat) (hn : n ≤ 8) : Spec Tryz.prog 144 #[.int .u64 v, .int .i64 n] [] (fun r L => ∃ a c, r = .slice a (leB v n).length c ∧ L = [ownS ⟨a, c, leB v n⟩]) := by
  refine enter2 Tryz.func144 rfl (by decide) (by decide) ?_
  intro B F
  dsimp only [List.cons_append, List.nil_append]
  repeat' first | refine adv ?_ | refine Side.mk (by first | omega | decide) ?_ | refine Giv.mk (fun _ => ?_) | refine All.mk (fun r => ?_) | refine Two.mk (fun h => ?_) (fun h => ?_)
  have hb : (leB v n).length = n := leB_length v n
  refine Sy_loop (ι := {k : Nat // k ≤ n}) (fun k => [(11, .int .i64 k.1), (10, .int .i64 n), (5, .slice (some ⟨r, 0, none⟩) n n), (0, .int .u64 v)])
    (fun k => ownS ⟨some ⟨r, 0, none⟩, n, (leB v n).take k.1 ++ List.replicate (n - k.1) 0⟩ :: F) (fun k => n - k.1) ⟨0, Nat.zero_le _⟩
    (evs rfl (evs (by simp) (evs (by simp) (evs rfl .nil)))) (fun _ h => h) ?_
  rintro ⟨k, hk⟩ env
  dsimp only [upds]
  have hX : ((leB v n).take k ++ List.replicate (n - k) (0 : UInt8)).length = n := by simp [hb]; omega
  repeat' first | refine adv ?_ | refine Side.mk (by first | omega | decide) ?_ | refine Giv.mk (fun _ => ?_) | refine All.mk (fun r => ?_) | refine Two.mk (fun h => ?_) (fun h => ?_)
  · haveI : Lt k ((leB v n).take k ++ List.replicate (n - k) (0 : UInt8)).length := ⟨by rw [hX]; omega⟩
    repeat' first | refine adv ?_ | refine Side.mk (by first | omega | decide) ?_ | refine Giv.mk (fun _ => ?_) | refine All.mk (fun r => ?_) | refine Two.mk (fun h => ?_) (fun h => ?_)
    have hk' : k < n := by omega
    have hbyte : UInt8.ofNat ((v : Int) / 2 ^ ((8 : Int) * k).toNat % 256).toNat = (leB v n)[k]'(by omega) := by
      have e1 : ((8 : Int) * k).toNat = 8 * k := by omega
      simp only [leB, List.getElem_map, List.getElem_range, e1]
      congr 1
    refine loopQ.next ⟨k + 1, hk'⟩ (by simp only []; omega) (evs rfl (evs rfl (evs rfl (evs rfl .nil)))) ?_
    rw [hbyte, set_next _ _ n k hb hk']
    exact fun _ h => h
  · have : k = n := by omega
    subst this
    rw [List.take_of_length_le (by omega), Nat.sub_self, List.replicate_zero, List.append_nil]
    refine endQ.one Tryz.results144 ⟨_, _, by rw [hb], rfl⟩

theorem leN_lt (b : List UInt8) : ∀ n, leN b n < 2 ^ (8 * n)
  | 0 => by simp [leN]
  | n + 1 => by
    have ih := leN_lt b n
    have hb : (b[n]?.getD 0).toNat < 256 := UInt8.toNat_lt _
    have e : 2 ^ (8 * (n + 1)) = 256 * 2 ^ (8 * n) := by rw [Nat.mul_add, Nat.pow_add]; omega
    rw [leN, e]
    have h2 : (b[n]?.getD 0).toNat * 2 ^ (8 * n) ≤ 255 * 2 ^ (8 * n) := Nat.mul_le_mul_right _ (by omega)
    have h3 : 256 * 2 ^ (8 * n) = 255 * 2 ^ (8 * n) + 2 ^ (8 * n) := by omega
    omega

theorem leN_or (b : List UInt8) (k : Nat) (hk : k < b.length) : (leN b k ||| b[k].toNat * 2 ^ (8 * k)) = leN b (k + 1) := by
  have h := leN_lt b k
  rw [leN, List.getElem?_eq_getElem hk, Option.getD_some, Nat.or_comm, Nat.mul_comm, Nat.add_comm]
  exact (Nat.two_pow_add_eq_or_of_lt h _).symm

theorem pow_le_u64 {b k : Nat} (hb : b < 256) (hk : k < 8) : b * 2 ^ (8 * k) ≤ 18446744073709551615 := by
  have h1 : 2 ^ (8 * k) ≤ 2 ^ 56 := Nat.pow_le_pow_right (by decide) (by omega)
  have h2 : b * 2 ^ (8 * k) ≤ 255 * 2 ^ 56 := Nat.mul_le_mul (by omega) h1
  exact Nat.le_trans h2 (by decide)

theorem leN_u64 (b : List UInt8) {k : Nat} (hk : k ≤ 8) : leN b k ≤ 18446744073709551615 := by
  have h1 := leN_lt b k
  have h2 : 2 ^ (8 * k) ≤ 2 ^ 64 := Nat.pow_le_pow_right (by decide) (by omega)
  have h3 : (2 : Nat) ^ 64 = 18446744073709551616 := by decide
  omega

def getR (b : List UInt8) (n : Nat) : Nat := if b.length < n then 0 else leN b n
def getOk (b : List UInt8) (n : Nat) : Bool := decide (n ≤ b.length)

theorem get_spec (s : Sl UInt8) (n : Nat) (hn : n ≤ 8) : Spec Tryz.prog 121 #[s.val, .int .i64 n] [roS s] (fun r L => r = .tuple #[.int .u64 (getR s.xs n), .bool (getOk s.xs n)] ∧ L = []) := by
  refine enter2 Tryz.func121 rfl (by decide) (by decide) ?_
  intro B F
  dsimp only [List.cons_append, List.nil_append]
  repeat' first | refine adv ?_ | refine Side.mk (by first | omega | decide) ?_ | refine Giv.mk (fun _ => ?_) | refine All.mk (fun r => ?_) | refine Two.mk (fun h => ?_) (fun h => ?_)
  · have h' : s.xs.length < n := by omega
    refine endQ.two Tryz.results121 ⟨?_, rfl⟩
    have h2 : ¬ n ≤ s.xs.length := by omega
    simp [getR, getOk, h', h2]
  · have h' : n ≤ s.xs.length := by omega
    refine Sy_loop (ι := {k : Nat // k ≤ n}) (fun k => [(12, .int .i64 k.1), (11, .int .i64 n), (4, .int .u64 (leN s.xs k.1)), (0, s.val)])
      (fun _ => roS s :: F) (fun k => n - k.1) ⟨0, Nat.zero_le _⟩ (evs rfl (evs rfl (evs rfl (evs rfl .nil)))) (fun _ h => h) ?_
    rintro ⟨k, hk⟩ env
    dsimp only [upds]
    have hle := leN_u64 s.xs (k := k) (by omega)
    repeat' first | refine adv ?_ | refine Side.mk (by first | omega | decide) ?_ | refine Giv.mk (fun _ => ?_) | refine All.mk (fun r => ?_) | refine Two.mk (fun h => ?_) (fun h => ?_)
    · have hk1 : k < s.xs.length := by omega
      have hk8 : ((8 : Int) * k).toNat = 8 * k := by omega
      have hp := pow_le_u64 (UInt8.toNat_lt s.xs[k]) (show k < 8 by omega)
      have hc : ((s.xs[k].toNat : Int) * 2 ^ (8 * k)) = ((s.xs[k].toNat * 2 ^ (8 * k) : Nat) : Int) := by norm_cast
      simp only [hk8, hc]
      repeat' first | refine adv ?_ | refine Side.mk (by first | omega | decide) ?_ | refine Giv.mk (fun _ => ?_) | refine All.mk (fun r => ?_) | refine Two.mk (fun h => ?_) (fun h => ?_)
      refine loopQ.next ⟨k + 1, by omega⟩ (by simp only []; omega) (evs rfl (evs rfl (evs (by rw [leN_or s.xs k hk1]) (evs rfl .nil)))) (fun _ h => h)
    · have : k = n := by omega
      subst this
      refine endQ.two Tryz.results121 ⟨?_, rfl⟩
      have h2 : ¬ s.xs.length < k := by omega
      simp [getR, getOk, h', h2]

theorem put64_spec (v : Nat) : Spec Tryz.prog 109 #[.int .u64 v] [] (fun r L => ∃ a c, r = .slice a (leB v 8).length c ∧ L = [ownS ⟨a, c, leB v 8⟩]) := by
  refine enter1 Tryz.func109 rfl (by decide) (by decide) ?_
  intro B F
  dsimp only [List.cons_append, List.nil_append]
  repeat' first | refine adv ?_ | refine Side.mk (by first | omega | decide) ?_
  refine CallG.use (put_spec v 8 (by decide)) ?_
  rintro r M ⟨a, c, rfl, rfl⟩
  dsimp only [List.cons_append, List.nil_append]
  repeat' first | refine adv ?_ | refine Side.mk (by first | omega | decide) ?_
  exact endQ.one Tryz.results109 ⟨a, c, rfl, rfl⟩

theorem put32_spec (v : Nat) (hv : v < 4294967296) : Spec Tryz.prog 110 #[.int .u32 v] [] (fun r L => ∃ a c, r = .slice a (leB v 4).length c ∧ L = [ownS ⟨a, c, leB v 4⟩]) := by
  refine enter1 Tryz.func110 rfl (by decide) (by decide) ?_
  intro B F
  dsimp only [List.cons_append, List.nil_append]
  repeat' first | refine adv ?_ | refine Side.mk (by first | omega | decide) ?_
  refine CallG.use (put_spec v 4 (by decide)) ?_
  rintro r M ⟨a, c, rfl, rfl⟩
  dsimp only [List.cons_append, List.nil_append]
  repeat' first | refine adv ?_ | refine Side.mk (by first | omega | decide) ?_
  exact endQ.one Tryz.results110 ⟨a, c, rfl, rfl⟩

theorem get64_spec (s : Sl UInt8) : Spec Tryz.prog 80 #[s.val] [roS s] (fun r L => r = .tuple #[.int .u64 (getR s.xs 8), .bool (getOk s.xs 8)] ∧ L = []) := by
  refine enter1 Tryz.func80 rfl (by decide) (by decide) ?_
  intro B F
  dsimp only [List.cons_append, List.nil_append]
  repeat' first | refine adv ?_ | refine Side.mk (by first | omega | decide) ?_
  refine CallG.use (get_spec s 8 (by decide)) ?_
  rintro r M ⟨rfl, rfl⟩
  dsimp only [List.cons_append, List.nil_append]
  repeat' first | refine adv ?_ | refine Side.mk (by first | omega | decide) ?_
  exact endQ.two Tryz.results80 ⟨rfl, rfl⟩

theorem getR_lt (b : List UInt8) (n : Nat) : getR b n < 2 ^ (8 * n) := by
  unfold getR
  split
  · exact Nat.pow_pos (by decide)
  · exact leN_lt b n

theorem get32_spec (s : Sl UInt8) : Spec Tryz.prog 81 #[s.val] [roS s] (fun r L => r = .tuple #[.int .u32 (getR s.xs 4), .bool (getOk s.xs 4)] ∧ L = []) := by
  refine enter1 Tryz.func81 rfl (by decide) (by decide) ?_
  intro B F
  dsimp only [List.cons_append, List.nil_append]
  repeat' first | refine adv ?_ | refine Side.mk (by first | omega | decide) ?_
  refine CallG.use (get_spec s 4 (by decide)) ?_
  rintro r M ⟨rfl, rfl⟩
  dsimp only [List.cons_append, List.nil_append]
  have hl : getR s.xs 4 < 4294967296 := getR_lt s.xs 4
  repeat' first | refine adv ?_ | refine Side.mk (by first | omega | decide) ?_
  exact endQ.two Tryz.results81 ⟨rfl, rfl⟩
end Go.SL
namespace Go.SL
open Go.Proofs
set_option synthInstance.maxSize 4000
set_option synthInstance.maxHeartbeats 400000
set_option maxRecDepth 4000
set_option maxHeartbeats 2000000

def crcBit (r : Nat) : Nat := if r % 2 = 1 then r / 2 ^^^ 2197175160 else r / 2
def crcBits (r : Nat) : Nat → Nat
  | 0 => r
  | k + 1 => crcBit (crcBits r k)
def crcByte (r : Nat) (c : UInt8) : Nat := crcBits (r ^^^ c.toNat) 8
def crcRun (r : Nat) (l : List UInt8) : Nat := l.foldl crcByte r
/-- The check sum of bytes. -/
def crcOf (l : List UInt8) : Nat := 4294967295 ^^^ crcRun 4294967295 l

theorem xor_lt {a b n : Nat} (ha : a < 2 ^ n) (hb : b < 2 ^ n) : a ^^^ b < 2 ^ n := Nat.xor_lt_two_pow ha hb
theorem crcBit_lt {r : Nat} (h : r < 4294967296) : crcBit r < 4294967296 := by
  unfold crcBit
  split
  · exact xor_lt (n := 32) (by omega) (by decide)
  · omega
theorem crcBits_lt {r : Nat} (h : r < 4294967296) : ∀ k, crcBits r k < 4294967296
  | 0 => h
  | k + 1 => crcBit_lt (crcBits_lt h k)
theorem crcByte_lt {r : Nat} (h : r < 4294967296) (c : UInt8) : crcByte r c < 4294967296 :=
  crcBits_lt (xor_lt (n := 32) h (by have := UInt8.toNat_lt c; omega)) 8
theorem crcRun_lt {r : Nat} (h : r < 4294967296) : ∀ l, crcRun r l < 4294967296
  | [] => h
  | c :: l => crcRun_lt (crcByte_lt h c) l
theorem crcOf_lt (l : List UInt8) : crcOf l < 4294967296 := xor_lt (n := 32) (by decide) (crcRun_lt (by decide) l)

theorem crcBit_ops (r : Nat) : ((r : Int) / 2 ^ 1).toNat ^^^ (2197175160 &&& ((0 - ((r &&& 1 : Nat) : Int)) % 4294967296).toNat) = crcBit r := by
  have e1 : ((r : Int) / 2 ^ 1).toNat = r / 2 := by omega
  have e2 : r &&& 1 = r % 2 := Nat.and_one_is_mod r
  rw [e1, e2]
  unfold crcBit
  rcases Nat.mod_two_eq_zero_or_one r with h | h
  · rw [h]; simp
  · rw [h]; simp

theorem crcRun_take (r : Nat) (l : List UInt8) (k : Nat) (hk : k < l.length) : crcRun r (l.take (k + 1)) = crcByte (crcRun r (l.take k)) l[k] := by
  rw [List.take_succ_eq_append_getElem hk]; unfold crcRun; rw [List.foldl_append]; rfl

theorem crc_add (r : Nat) (t : Nat) (ht : t < 4294967296) (s : Sl UInt8) : Spec Tryz.prog 170 #[.pointer (some ⟨r, 0, none⟩), s.val] [cells true r 0 [.int .u32 t], roS s]
    (fun v L => v = .pointer (some ⟨r, 0, none⟩) ∧ L = [cells true r 0 [.int .u32 (4294967295 ^^^ crcRun (4294967295 ^^^ t) s.xs : Nat)]]) := by
  refine enter2 Tryz.func170 rfl (by decide) (by decide) ?_
  intro B F
  dsimp only [lcA, lnA]
  refine Sy_know (ro_ok s) (fun hs => ?_)
  have hsl := hs.len
  have h0 : 4294967295 ^^^ t < 4294967296 := xor_lt (n := 32) (by decide) ht
  repeat' first | refine adv ?_ | refine Side.go ?_ | refine Giv.mk fun _ => ?_ | refine All.mk fun q => ?_ | refine Fork.mk ?_ ?_ | (refine Two.mk (fun h => ?_) (fun h => ?_) <;> try first | contradiction | (exfalso; omega))
  refine Sy_loop (ι := {k : Nat // k ≤ s.xs.length}) (fun k => [(17, .int .i64 k.1), (16, .int .i64 s.xs.length), (15, s.val), (5, .int .u32 (crcRun (4294967295 ^^^ t) (s.xs.take k.1) : Nat)), (0, .pointer (some ⟨r, 0, none⟩))])
      (fun _ => cells true r 0 [.int .u32 t] :: roS s :: F) (fun k => s.xs.length - k.1) ⟨0, Nat.zero_le _⟩ (evs rfl (evs rfl (evs rfl (evs rfl (evs rfl .nil))))) (fun _ h => h) ?_
  rintro ⟨k, hk⟩ env
  dsimp only [upds]
  have hlt := crcRun_lt h0 (s.xs.take k)
  repeat' first | refine adv ?_ | refine Side.go ?_ | refine Giv.mk fun _ => ?_ | refine All.mk fun q => ?_ | refine Fork.mk ?_ ?_ | (refine Two.mk (fun h => ?_) (fun h => ?_) <;> try first | contradiction | (exfalso; omega))
  · have hb := UInt8.toNat_lt s.xs[k]
    have h1 : crcRun (4294967295 ^^^ t) (s.xs.take k) ^^^ s.xs[k].toNat < 4294967296 := xor_lt (n := 32) hlt (by omega)
    refine Sy_loop (ι := {j : Nat // j ≤ 8}) (fun j => [(25, .int .i64 j.1), (17, .int .i64 k), (16, .int .i64 s.xs.length), (15, s.val), (5, .int .u32 (crcBits (crcRun (4294967295 ^^^ t) (s.xs.take k) ^^^ s.xs[k].toNat) j.1 : Nat)), (0, .pointer (some ⟨r, 0, none⟩))])
      (fun _ => cells true r 0 [.int .u32 t] :: roS s :: F) (fun j => 8 - j.1) ⟨0, Nat.zero_le _⟩ (evs rfl (evs rfl (evs rfl (evs rfl (evs rfl (evs rfl .nil)))))) (fun _ h => h) ?_
    rintro ⟨j, hj⟩ env
    dsimp only [upds]
    have h2 := crcBits_lt h1 j
    repeat' first | refine adv ?_ | refine Side.go ?_ | refine Giv.mk fun _ => ?_ | refine All.mk fun q => ?_ | refine Fork.mk ?_ ?_ | (refine Two.mk (fun h => ?_) (fun h => ?_) <;> try first | contradiction | (exfalso; omega))
    · have hb2 : (crcBits (crcRun (4294967295 ^^^ t) (s.xs.take k) ^^^ s.xs[k].toNat) j &&& 1 : Nat) ≤ 1 := by rw [Nat.and_one_is_mod]; omega
      repeat' first | refine adv ?_ | refine Side.go ?_ | refine Giv.mk fun _ => ?_ | refine All.mk fun q => ?_ | refine Fork.mk ?_ ?_ | (refine Two.mk (fun h => ?_) (fun h => ?_) <;> try first | contradiction | (exfalso; omega))
      refine Side.mk ⟨⟨by omega, by omega⟩, Int.natCast_nonneg _, ?_⟩ ?_
      · have := @Nat.and_le_left 2197175160 ((0 - ((crcBits (crcRun (4294967295 ^^^ t) (s.xs.take k) ^^^ s.xs[k].toNat) j &&& 1 : Nat) : Int)) % 4294967296).toNat
        omega
      · repeat' first | refine adv ?_ | refine Side.go ?_ | refine Giv.mk fun _ => ?_ | refine All.mk fun q => ?_ | refine Fork.mk ?_ ?_ | (refine Two.mk (fun h => ?_) (fun h => ?_) <;> try first | contradiction | (exfalso; omega))
        refine loopQ.next ⟨j + 1, by omega⟩ (by simp only []; omega) (evs rfl (evs rfl (evs rfl (evs rfl (evs (by rw [crcBit_ops]; rfl) (evs rfl .nil)))))) (fun _ h => h)
    · have hj8 : j = 8 := by omega
      subst hj8
      repeat' first | refine adv ?_ | refine Side.go ?_ | refine Giv.mk fun _ => ?_ | refine All.mk fun q => ?_ | refine Fork.mk ?_ ?_ | (refine Two.mk (fun h => ?_) (fun h => ?_) <;> try first | contradiction | (exfalso; omega))
      exact loopQ.next ⟨k + 1, by omega⟩ (by simp only []; omega) (evs rfl (evs rfl (evs rfl (evs (by rw [crcRun_take _ _ _ (by omega)]; rfl) (evs rfl .nil))))) (fun _ h => h)
  · have hk8 : k = s.xs.length := by omega
    subst hk8
    rw [List.take_length] at *
    repeat' first | refine adv ?_ | refine Side.go ?_ | refine Giv.mk fun _ => ?_ | refine All.mk fun q => ?_ | refine Fork.mk ?_ ?_ | (refine Two.mk (fun h => ?_) (fun h => ?_) <;> try first | contradiction | (exfalso; omega))
    exact endQ.one Tryz.results170 ⟨rfl, rfl⟩

theorem crc_new : Spec Tryz.prog 169 #[] [] (fun v L => ∃ r, v = .pointer (some ⟨r, 0, none⟩) ∧ L = [cells true r 0 [.int .u32 0]]) := by
  refine enter0 Tryz.func169 rfl (by decide) ?_
  intro B F
  dsimp only [lcA, lnA]
  repeat' first | refine adv ?_ | refine Side.go ?_ | refine Giv.mk fun _ => ?_ | refine All.mk fun q => ?_ | refine Fork.mk ?_ ?_ | (refine Two.mk (fun h => ?_) (fun h => ?_) <;> try first | contradiction | (exfalso; omega))
  exact endQ.one Tryz.results169 ⟨_, rfl, rfl⟩

theorem crc_value (r : Nat) (t : Nat) : Spec Tryz.prog 171 #[.pointer (some ⟨r, 0, none⟩)] [cells true r 0 [.int .u32 t]]
    (fun v L => v = .int .u32 t ∧ L = [cells true r 0 [.int .u32 t]]) := by
  refine enter1 Tryz.func171 rfl (by decide) (by decide) ?_
  intro B F
  dsimp only [lcA, lnA]
  repeat' first | refine adv ?_ | refine Side.go ?_ | refine Giv.mk fun _ => ?_ | refine All.mk fun q => ?_ | refine Fork.mk ?_ ?_ | (refine Two.mk (fun h => ?_) (fun h => ?_) <;> try first | contradiction | (exfalso; omega))
  exact endQ.one Tryz.results171 ⟨rfl, rfl⟩

theorem crc_of (s : Sl UInt8) : Spec Tryz.prog 150 #[s.val] [roS s] (fun v L => v = .int .u32 (crcOf s.xs : Nat) ∧ L = []) := by
  refine enter1 Tryz.func150 rfl (by decide) (by decide) ?_
  intro B F
  dsimp only [lcA, lnA]
  repeat' first | refine adv ?_ | refine Side.go ?_ | refine Giv.mk fun _ => ?_ | refine All.mk fun q => ?_ | refine Fork.mk ?_ ?_ | (refine Two.mk (fun h => ?_) (fun h => ?_) <;> try first | contradiction | (exfalso; omega))
  refine CallG.use crc_new ?_
  rintro r M ⟨q, rfl, rfl⟩
  dsimp only [lcA, lnA]
  repeat' first | refine adv ?_ | refine Side.go ?_ | refine Giv.mk fun _ => ?_ | refine All.mk fun q => ?_ | refine Fork.mk ?_ ?_ | (refine Two.mk (fun h => ?_) (fun h => ?_) <;> try first | contradiction | (exfalso; omega))
  refine CallG.use (crc_add q 0 (by decide) s) ?_
  rintro r M ⟨rfl, rfl⟩
  dsimp only [lcA, lnA]
  repeat' first | refine adv ?_ | refine Side.go ?_ | refine Giv.mk fun _ => ?_ | refine All.mk fun q => ?_ | refine Fork.mk ?_ ?_ | (refine Two.mk (fun h => ?_) (fun h => ?_) <;> try first | contradiction | (exfalso; omega))
  refine CallG.use (crc_value q (4294967295 ^^^ crcRun (4294967295 ^^^ 0) s.xs)) ?_
  rintro r M ⟨rfl, rfl⟩
  dsimp only [lcA, lnA]
  repeat' first | refine adv ?_ | refine Side.go ?_ | refine Giv.mk fun _ => ?_ | refine All.mk fun q => ?_ | refine Fork.mk ?_ ?_ | (refine Two.mk (fun h => ?_) (fun h => ?_) <;> try first | contradiction | (exfalso; omega))
  refine endQ.one Tryz.results150 ⟨?_, rfl⟩
  simp [crcOf]

theorem crc_add_own (r : Nat) (t : Nat) (ht : t < 4294967296) (s : Sl UInt8) : Spec Tryz.prog 170 #[.pointer (some ⟨r, 0, none⟩), s.val] [cells true r 0 [.int .u32 t], ownS s]
    (fun v L => v = .pointer (some ⟨r, 0, none⟩) ∧ L = [cells true r 0 [.int .u32 (4294967295 ^^^ crcRun (4294967295 ^^^ t) s.xs : Nat)], ownS s]) := by
  refine enter2 Tryz.func170 rfl (by decide) (by decide) ?_
  intro B F
  dsimp only [lcA, lnA]
  refine Sy_know (own_ok s) (fun hs => ?_)
  have hsl := hs.len
  have h0 : 4294967295 ^^^ t < 4294967296 := xor_lt (n := 32) (by decide) ht
  repeat' first | refine adv ?_ | refine Side.go ?_ | refine Giv.mk fun _ => ?_ | refine All.mk fun q => ?_ | refine Fork.mk ?_ ?_ | (refine Two.mk (fun h => ?_) (fun h => ?_) <;> try first | contradiction | (exfalso; omega))
  refine Sy_loop (ι := {k : Nat // k ≤ s.xs.length}) (fun k => [(17, .int .i64 k.1), (16, .int .i64 s.xs.length), (15, s.val), (5, .int .u32 (crcRun (4294967295 ^^^ t) (s.xs.take k.1) : Nat)), (0, .pointer (some ⟨r, 0, none⟩))])
      (fun _ => cells true r 0 [.int .u32 t] :: ownS s :: F) (fun k => s.xs.length - k.1) ⟨0, Nat.zero_le _⟩ (evs rfl (evs rfl (evs rfl (evs rfl (evs rfl .nil))))) (fun _ h => h) ?_
  rintro ⟨k, hk⟩ env
  dsimp only [upds]
  have hlt := crcRun_lt h0 (s.xs.take k)
  repeat' first | refine adv ?_ | refine Side.go ?_ | refine Giv.mk fun _ => ?_ | refine All.mk fun q => ?_ | refine Fork.mk ?_ ?_ | (refine Two.mk (fun h => ?_) (fun h => ?_) <;> try first | contradiction | (exfalso; omega))
  · have hb := UInt8.toNat_lt s.xs[k]
    have h1 : crcRun (4294967295 ^^^ t) (s.xs.take k) ^^^ s.xs[k].toNat < 4294967296 := xor_lt (n := 32) hlt (by omega)
    refine Sy_loop (ι := {j : Nat // j ≤ 8}) (fun j => [(25, .int .i64 j.1), (17, .int .i64 k), (16, .int .i64 s.xs.length), (15, s.val), (5, .int .u32 (crcBits (crcRun (4294967295 ^^^ t) (s.xs.take k) ^^^ s.xs[k].toNat) j.1 : Nat)), (0, .pointer (some ⟨r, 0, none⟩))])
      (fun _ => cells true r 0 [.int .u32 t] :: ownS s :: F) (fun j => 8 - j.1) ⟨0, Nat.zero_le _⟩ (evs rfl (evs rfl (evs rfl (evs rfl (evs rfl (evs rfl .nil)))))) (fun _ h => h) ?_
    rintro ⟨j, hj⟩ env
    dsimp only [upds]
    have h2 := crcBits_lt h1 j
    repeat' first | refine adv ?_ | refine Side.go ?_ | refine Giv.mk fun _ => ?_ | refine All.mk fun q => ?_ | refine Fork.mk ?_ ?_ | (refine Two.mk (fun h => ?_) (fun h => ?_) <;> try first | contradiction | (exfalso; omega))
    · have hb2 : (crcBits (crcRun (4294967295 ^^^ t) (s.xs.take k) ^^^ s.xs[k].toNat) j &&& 1 : Nat) ≤ 1 := by rw [Nat.and_one_is_mod]; omega
      repeat' first | refine adv ?_ | refine Side.go ?_ | refine Giv.mk fun _ => ?_ | refine All.mk fun q => ?_ | refine Fork.mk ?_ ?_ | (refine Two.mk (fun h => ?_) (fun h => ?_) <;> try first | contradiction | (exfalso; omega))
      refine Side.mk ⟨⟨by omega, by omega⟩, Int.natCast_nonneg _, ?_⟩ ?_
      · have := @Nat.and_le_left 2197175160 ((0 - ((crcBits (crcRun (4294967295 ^^^ t) (s.xs.take k) ^^^ s.xs[k].toNat) j &&& 1 : Nat) : Int)) % 4294967296).toNat
        omega
      · repeat' first | refine adv ?_ | refine Side.go ?_ | refine Giv.mk fun _ => ?_ | refine All.mk fun q => ?_ | refine Fork.mk ?_ ?_ | (refine Two.mk (fun h => ?_) (fun h => ?_) <;> try first | contradiction | (exfalso; omega))
        refine loopQ.next ⟨j + 1, by omega⟩ (by simp only []; omega) (evs rfl (evs rfl (evs rfl (evs rfl (evs (by rw [crcBit_ops]; rfl) (evs rfl .nil)))))) (fun _ h => h)
    · have hj8 : j = 8 := by omega
      subst hj8
      repeat' first | refine adv ?_ | refine Side.go ?_ | refine Giv.mk fun _ => ?_ | refine All.mk fun q => ?_ | refine Fork.mk ?_ ?_ | (refine Two.mk (fun h => ?_) (fun h => ?_) <;> try first | contradiction | (exfalso; omega))
      exact loopQ.next ⟨k + 1, by omega⟩ (by simp only []; omega) (evs rfl (evs rfl (evs rfl (evs (by rw [crcRun_take _ _ _ (by omega)]; rfl) (evs rfl .nil))))) (fun _ h => h)
  · have hk8 : k = s.xs.length := by omega
    subst hk8
    rw [List.take_length] at *
    repeat' first | refine adv ?_ | refine Side.go ?_ | refine Giv.mk fun _ => ?_ | refine All.mk fun q => ?_ | refine Fork.mk ?_ ?_ | (refine Two.mk (fun h => ?_) (fun h => ?_) <;> try first | contradiction | (exfalso; omega))
    exact endQ.one Tryz.results170 ⟨rfl, rfl⟩

theorem crc_of_own (s : Sl UInt8) : Spec Tryz.prog 150 #[s.val] [ownS s] (fun v L => v = .int .u32 (crcOf s.xs : Nat) ∧ L = [ownS s]) := by
  refine enter1 Tryz.func150 rfl (by decide) (by decide) ?_
  intro B F
  dsimp only [lcA, lnA]
  repeat' first | refine adv ?_ | refine Side.go ?_ | refine Giv.mk fun _ => ?_ | refine All.mk fun q => ?_ | refine Fork.mk ?_ ?_ | (refine Two.mk (fun h => ?_) (fun h => ?_) <;> try first | contradiction | (exfalso; omega))
  refine CallG.use crc_new ?_
  rintro r M ⟨q, rfl, rfl⟩
  dsimp only [lcA, lnA]
  repeat' first | refine adv ?_ | refine Side.go ?_ | refine Giv.mk fun _ => ?_ | refine All.mk fun q => ?_ | refine Fork.mk ?_ ?_ | (refine Two.mk (fun h => ?_) (fun h => ?_) <;> try first | contradiction | (exfalso; omega))
  refine CallG.use (crc_add_own q 0 (by decide) s) ?_
  rintro r M ⟨rfl, rfl⟩
  dsimp only [lcA, lnA]
  repeat' first | refine adv ?_ | refine Side.go ?_ | refine Giv.mk fun _ => ?_ | refine All.mk fun q => ?_ | refine Fork.mk ?_ ?_ | (refine Two.mk (fun h => ?_) (fun h => ?_) <;> try first | contradiction | (exfalso; omega))
  refine CallG.use (crc_value q (4294967295 ^^^ crcRun (4294967295 ^^^ 0) s.xs)) ?_
  rintro r M ⟨rfl, rfl⟩
  dsimp only [lcA, lnA]
  repeat' first | refine adv ?_ | refine Side.go ?_ | refine Giv.mk fun _ => ?_ | refine All.mk fun q => ?_ | refine Fork.mk ?_ ?_ | (refine Two.mk (fun h => ?_) (fun h => ?_) <;> try first | contradiction | (exfalso; omega))
  refine endQ.one Tryz.results150 ⟨?_, rfl⟩
  simp [crcOf]
end Go.SL
namespace Go.SL
open Go.Proofs
set_option synthInstance.maxSize 4000
set_option synthInstance.maxHeartbeats 400000
set_option maxRecDepth 4000
set_option maxHeartbeats 2000000

theorem frame_within (n lo hi : Int) : Spec Tryz.prog 165 #[.int .i64 n, .int .i64 lo, .int .i64 hi] [] (fun v L => v = .bool (decide (lo ≤ n ∧ n ≤ hi)) ∧ L = []) := by
  refine enter3 Tryz.func165 rfl (by decide) (by decide) ?_
  intro B F
  dsimp only [lcA, lnA]
  repeat' first | refine adv ?_ | refine Side.go ?_ | refine Giv.mk fun _ => ?_ | refine All.mk fun q => ?_ | refine Fork.mk ?_ ?_ | (refine Two.mk (fun h => ?_) (fun h => ?_) <;> try first | contradiction | (exfalso; omega))
  · refine endQ.one Tryz.results165 ⟨?_, rfl⟩
    simp; omega
  · refine endQ.one Tryz.results165 ⟨?_, rfl⟩
    simp; omega

/-- The head of a block and what stands in it. -/
def encH (k e s l : Nat) (b : List UInt8) : List UInt8 := [UInt8.ofNat k, UInt8.ofNat b.length] ++ leB e 4 ++ leB s 8 ++ leB l 4 ++ b
def encP (k e s l : Nat) (b : List UInt8) : List UInt8 := encH k e s l b ++ List.replicate (60 - (encH k e s l b).length) 0
def encB (k e s l : Nat) (b : List UInt8) : List UInt8 := encP k e s l b ++ leB (crcOf (encP k e s l b)) 4
def encOk (k e s l : Nat) : Prop := (1 ≤ k ∧ k ≤ 4) ∧ e ≤ 4294967295 ∧ s ≤ 1099511627776 ∧ l ≤ 1048576

theorem encH_len (k e s l : Nat) (b : List UInt8) : (encH k e s l b).length = 18 + b.length := by simp [encH, leB_length]; omega
theorem encP_len (k e s l : Nat) (b : List UInt8) (h : b.length ≤ 40) : (encP k e s l b).length = 60 := by simp [encP, encH_len]; omega
theorem encB_len (k e s l : Nat) (b : List UInt8) (h : b.length ≤ 40) : (encB k e s l b).length = 64 := by simp [encB, encP_len k e s l b h, leB_length]

theorem flat_two (k n : Nat) : flat [UInt8.ofNat k, UInt8.ofNat n] = [.int .u8 ((k : Int) % 256), .int .u8 ((n : Int) % 256)] := by
  have h : ∀ m : Nat, (((UInt8.ofNat m).toNat : Nat) : Int) = (m : Int) % 256 := fun m => by rw [UInt8.toNat_ofNat']; omega
  show [Value.int .u8 ((UInt8.ofNat k).toNat : Int), Value.int .u8 ((UInt8.ofNat n).toNat : Int)] = _
  rw [h, h]

theorem frame_encode (k e s l : Nat) (b : Sl UInt8) : Spec Tryz.prog 143 #[.agg #[.int .i64 k, .int .i64 e, .int .i64 s, .int .i64 l, b.val]] [roS b] (fun v L =>
    ((encOk k e s l ∧ b.xs.length ≤ 40) ∧ ∃ a c, v = .tuple #[.slice a (encB k e s l b.xs).length c, .int .i64 0] ∧ L = [ownS (⟨a, c, encB k e s l b.xs⟩ : Sl UInt8)]) ∨
    (¬ (encOk k e s l ∧ b.xs.length ≤ 40) ∧ ∃ err : Int, err ≠ 0 ∧ v = .tuple #[.slice none 0 0, .int .i64 err] ∧ L = [])) := by
  refine enter1 Tryz.func143 rfl (by decide) (by decide) ?_
  intro B F
  dsimp only [lcA, lnA]
  refine Sy_know (ro_ok b) (fun hs => ?_)
  have hsl := hs.len
  repeat' first | refine adv ?_ | refine Side.go ?_ | refine Giv.mk fun _ => ?_ | refine All.mk fun q => ?_ | refine Fork.mk ?_ ?_ | (refine Two.mk (fun h => ?_) (fun h => ?_) <;> try first | contradiction | (exfalso; omega))
  refine CallG.use (frame_within k 1 4) ?_
  rintro r M ⟨rfl, rfl⟩
  dsimp only [lcA, lnA]
  repeat' first | refine adv ?_ | refine Side.go ?_ | refine Giv.mk fun _ => ?_ | refine All.mk fun q => ?_ | refine Fork.mk ?_ ?_ | (refine Two.mk (fun h => ?_) (fun h => ?_) <;> try first | contradiction | (exfalso; omega))
  · exact endQ.two Tryz.results143 (.inr ⟨by unfold encOk; omega, 1, by decide, rfl, rfl⟩)
  refine CallG.use (frame_within e 0 4294967295) ?_
  rintro r M ⟨rfl, rfl⟩
  dsimp only [lcA, lnA]
  repeat' first | refine adv ?_ | refine Side.go ?_ | refine Giv.mk fun _ => ?_ | refine All.mk fun q => ?_ | refine Fork.mk ?_ ?_ | (refine Two.mk (fun h => ?_) (fun h => ?_) <;> try first | contradiction | (exfalso; omega))
  · exact endQ.two Tryz.results143 (.inr ⟨by unfold encOk; omega, 1, by decide, rfl, rfl⟩)
  refine CallG.use (frame_within s 0 1099511627776) ?_
  rintro r M ⟨rfl, rfl⟩
  dsimp only [lcA, lnA]
  repeat' first | refine adv ?_ | refine Side.go ?_ | refine Giv.mk fun _ => ?_ | refine All.mk fun q => ?_ | refine Fork.mk ?_ ?_ | (refine Two.mk (fun h => ?_) (fun h => ?_) <;> try first | contradiction | (exfalso; omega))
  · exact endQ.two Tryz.results143 (.inr ⟨by unfold encOk; omega, 1, by decide, rfl, rfl⟩)
  refine CallG.use (frame_within l 0 1048576) ?_
  rintro r M ⟨rfl, rfl⟩
  dsimp only [lcA, lnA]
  refine SyO_cut [(1, .pointer (some ⟨q, 0, none⟩)), (22, .bool false), (25, .bool (decide (0 ≤ (l : Int) ∧ (l : Int) ≤ 1048576)))] (evs rfl (evs rfl (evs rfl .nil))) (fun env => ?_)
  dsimp only [upds]
  repeat' first | refine adv ?_ | refine Side.go ?_ | refine Giv.mk fun _ => ?_ | refine All.mk fun q => ?_ | refine Fork.mk ?_ ?_ | (refine Two.mk (fun h => ?_) (fun h => ?_) <;> try first | contradiction | (exfalso; omega))
  · exact endQ.two Tryz.results143 (.inr ⟨by unfold encOk; omega, 1, by decide, rfl, rfl⟩)
  · exact endQ.two Tryz.results143 (.inr ⟨by omega, 3, by decide, rfl, rfl⟩)
  · refine CallG.use (put32_spec e (by omega)) ?_
    rintro r M ⟨a1, c1, rfl, rfl⟩
    dsimp only [lcA, lnA]
    repeat' first | refine adv ?_ | refine Side.go ?_ | refine Giv.mk fun _ => ?_ | refine All.mk fun q => ?_ | refine Fork.mk ?_ ?_ | (refine Two.mk (fun h => ?_) (fun h => ?_) <;> try first | contradiction | (exfalso; omega))
    refine CallG.use (put64_spec s) ?_
    rintro r M ⟨a2, c2, rfl, rfl⟩
    dsimp only [lcA, lnA]
    repeat' first | refine adv ?_ | refine Side.go ?_ | refine Giv.mk fun _ => ?_ | refine All.mk fun q => ?_ | refine Fork.mk ?_ ?_ | (refine Two.mk (fun h => ?_) (fun h => ?_) <;> try first | contradiction | (exfalso; omega))
    refine CallG.use (put32_spec l (by omega)) ?_
    rintro r M ⟨a3, c3, rfl, rfl⟩
    dsimp only [lcA, lnA]
    repeat' first | refine adv ?_ | refine Side.go ?_ | refine Giv.mk fun _ => ?_ | refine All.mk fun q => ?_ | refine Fork.mk ?_ ?_ | (refine Two.mk (fun h => ?_) (fun h => ?_) <;> try first | contradiction | (exfalso; omega))
    rename_i p
    have hb40 : b.xs.length ≤ 40 := by omega
    refine CallG_conv (L' := roS (⟨some ⟨q, 0, none⟩, 5, [(⟨some ⟨p, 0, none⟩, 2, [UInt8.ofNat k, UInt8.ofNat b.xs.length]⟩ : Sl UInt8), ⟨a1, c1, leB e 4⟩, ⟨a2, c2, leB s 8⟩, ⟨a3, c3, leB l 4⟩, b]⟩ : Sl (Sl UInt8)) :: roS b :: F) (fun B w h => ?_) ?_
    · have h1 := (goes w h : sat B (cells true p 0 [.int .u8 ((k : Int) % 256), .int .u8 ((b.xs.length : Int) % 256)] :: cells true q 0 [.slice (some ⟨p, 0, none⟩) 2 2, .slice a1 (leB e 4).length c1, .slice a2 (leB s 8).length c2, .slice a3 (leB l 4).length c3, b.val] :: roS (⟨a1, c1, leB e 4⟩ : Sl UInt8) :: roS (⟨a2, c2, leB s 8⟩ : Sl UInt8) :: roS (⟨a3, c3, leB l 4⟩ : Sl UInt8) :: roS b :: F) w)
      have h2 := roS_lit (c := 2) [UInt8.ofNat k, UInt8.ofNat b.xs.length] _ (flat_two k b.xs.length) (fun _ _ => trivial) (by simp) (by simp) h1
      exact goes w (roS_pack (c := 5) [(⟨some ⟨p, 0, none⟩, 2, [UInt8.ofNat k, UInt8.ofNat b.xs.length]⟩ : Sl UInt8), ⟨a1, c1, leB e 4⟩, ⟨a2, c2, leB s 8⟩, ⟨a3, c3, leB l 4⟩, b] (by simp) (by simp) (goes w h2 : sat B (cells true q 0 [.slice (some ⟨p, 0, none⟩) 2 2, .slice a1 (leB e 4).length c1, .slice a2 (leB s 8).length c2, .slice a3 (leB l 4).length c3, b.val] :: roS (⟨some ⟨p, 0, none⟩, 2, [UInt8.ofNat k, UInt8.ofNat b.xs.length]⟩ : Sl UInt8) :: roS (⟨a1, c1, leB e 4⟩ : Sl UInt8) :: roS (⟨a2, c2, leB s 8⟩ : Sl UInt8) :: roS (⟨a3, c3, leB l 4⟩ : Sl UInt8) :: roS b :: roS b :: F) w))
    have eH : ([(⟨some ⟨p, 0, none⟩, 2, [UInt8.ofNat k, UInt8.ofNat b.xs.length]⟩ : Sl UInt8), ⟨a1, c1, leB e 4⟩, ⟨a2, c2, leB s 8⟩, ⟨a3, c3, leB l 4⟩, b] : List (Sl UInt8)).flatMap (·.xs) = encH k e s l b.xs := by simp [encH]
    have hl := encH_len k e s l b.xs
    refine CallG.use (concat_bytes ⟨some ⟨q, 0, none⟩, 5, [(⟨some ⟨p, 0, none⟩, 2, [UInt8.ofNat k, UInt8.ofNat b.xs.length]⟩ : Sl UInt8), ⟨a1, c1, leB e 4⟩, ⟨a2, c2, leB s 8⟩, ⟨a3, c3, leB l 4⟩, b]⟩ (by dsimp only; rw [eH, hl]; omega)) ?_
    rintro r M ⟨a4, c4, rfl, rfl⟩
    dsimp only [lcA, lnA]
    rw [eH]
    repeat' first | refine adv ?_ | refine Side.go ?_ | refine Giv.mk fun _ => ?_ | refine All.mk fun q => ?_ | refine Fork.mk ?_ ?_ | (refine Two.mk (fun h => ?_) (fun h => ?_) <;> try first | contradiction | (exfalso; omega))
    refine AppZ.use (⟨a4, c4, encH k e s l b.xs⟩ : Sl UInt8) (60 - (encH k e s l b.xs).length) (x := (0 : UInt8)) (by omega) ?_ (fun a5 c5 => ?_)
    · dsimp only; rw [hl]; omega
    have eP : encH k e s l b.xs ++ List.replicate (60 - (encH k e s l b.xs).length) (0 : UInt8) = encP k e s l b.xs := rfl
    have hlP := encP_len k e s l b.xs hb40
    dsimp only
    rw [eP]
    repeat' first | refine adv ?_ | refine Side.go ?_ | refine Giv.mk fun _ => ?_ | refine All.mk fun q => ?_ | refine Fork.mk ?_ ?_ | (refine Two.mk (fun h => ?_) (fun h => ?_) <;> try first | contradiction | (exfalso; omega))
    refine CallG.use (crc_of_own ⟨a5, c5, encP k e s l b.xs⟩) ?_
    rintro r M ⟨rfl, rfl⟩
    dsimp only [lcA, lnA]
    repeat' first | refine adv ?_ | refine Side.go ?_ | refine Giv.mk fun _ => ?_ | refine All.mk fun q => ?_ | refine Fork.mk ?_ ?_ | (refine Two.mk (fun h => ?_) (fun h => ?_) <;> try first | contradiction | (exfalso; omega))
    refine CallG.use (put32_spec (crcOf (encP k e s l b.xs)) (crcOf_lt _)) ?_
    rintro r M ⟨a6, c6, rfl, rfl⟩
    dsimp only [lcA, lnA]
    repeat' first | refine adv ?_ | refine Side.go ?_ | refine Giv.mk fun _ => ?_ | refine All.mk fun q => ?_ | refine Fork.mk ?_ ?_ | (refine Two.mk (fun h => ?_) (fun h => ?_) <;> try first | contradiction | (exfalso; omega))
    refine AppG.many (⟨a5, c5, encP k e s l b.xs⟩ : Sl UInt8) (⟨a6, c6, leB (crcOf (encP k e s l b.xs)) 4⟩ : Sl UInt8) ?_ (fun a7 c7 => ?_)
    · simp only [leB_length, hlP]; decide
    repeat' first | refine adv ?_ | refine Side.go ?_ | refine Giv.mk fun _ => ?_ | refine All.mk fun q => ?_ | refine Fork.mk ?_ ?_ | (refine Two.mk (fun h => ?_) (fun h => ?_) <;> try first | contradiction | (exfalso; omega))
    exact endQ.twoW Tryz.results143 (.inl ⟨⟨by unfold encOk; omega, hb40⟩, a7, c7, rfl, rfl⟩) (fun w h => by unfold encB; exact goes w h)
  refine CallG.use (put32_spec e (by omega)) ?_
  rintro r M ⟨a1, c1, rfl, rfl⟩
  dsimp only [lcA, lnA]
  repeat' first | refine adv ?_ | refine Side.go ?_ | refine Giv.mk fun _ => ?_ | refine All.mk fun q => ?_ | refine Fork.mk ?_ ?_ | (refine Two.mk (fun h => ?_) (fun h => ?_) <;> try first | contradiction | (exfalso; omega))
  · refine CallG.use (put64_spec s) ?_
    rintro r M ⟨a2, c2, rfl, rfl⟩
    dsimp only [lcA, lnA]
    repeat' first | refine adv ?_ | refine Side.go ?_ | refine Giv.mk fun _ => ?_ | refine All.mk fun q => ?_ | refine Fork.mk ?_ ?_ | (refine Two.mk (fun h => ?_) (fun h => ?_) <;> try first | contradiction | (exfalso; omega))
    refine CallG.use (put32_spec l (by omega)) ?_
    rintro r M ⟨a3, c3, rfl, rfl⟩
    dsimp only [lcA, lnA]
    repeat' first | refine adv ?_ | refine Side.go ?_ | refine Giv.mk fun _ => ?_ | refine All.mk fun q => ?_ | refine Fork.mk ?_ ?_ | (refine Two.mk (fun h => ?_) (fun h => ?_) <;> try first | contradiction | (exfalso; omega))
    rename_i p
    have hb40 : b.xs.length ≤ 40 := by omega
    refine CallG_conv (L' := roS (⟨some ⟨q, 0, none⟩, 5, [(⟨some ⟨p, 0, none⟩, 2, [UInt8.ofNat k, UInt8.ofNat b.xs.length]⟩ : Sl UInt8), ⟨a1, c1, leB e 4⟩, ⟨a2, c2, leB s 8⟩, ⟨a3, c3, leB l 4⟩, b]⟩ : Sl (Sl UInt8)) :: roS b :: F) (fun B w h => ?_) ?_
    · have h1 := (goes w h : sat B (cells true p 0 [.int .u8 ((k : Int) % 256), .int .u8 ((b.xs.length : Int) % 256)] :: cells true q 0 [.slice (some ⟨p, 0, none⟩) 2 2, .slice a1 (leB e 4).length c1, .slice a2 (leB s 8).length c2, .slice a3 (leB l 4).length c3, b.val] :: roS (⟨a1, c1, leB e 4⟩ : Sl UInt8) :: roS (⟨a2, c2, leB s 8⟩ : Sl UInt8) :: roS (⟨a3, c3, leB l 4⟩ : Sl UInt8) :: roS b :: F) w)
      have h2 := roS_lit (c := 2) [UInt8.ofNat k, UInt8.ofNat b.xs.length] _ (flat_two k b.xs.length) (fun _ _ => trivial) (by simp) (by simp) h1
      exact goes w (roS_pack (c := 5) [(⟨some ⟨p, 0, none⟩, 2, [UInt8.ofNat k, UInt8.ofNat b.xs.length]⟩ : Sl UInt8), ⟨a1, c1, leB e 4⟩, ⟨a2, c2, leB s 8⟩, ⟨a3, c3, leB l 4⟩, b] (by simp) (by simp) (goes w h2 : sat B (cells true q 0 [.slice (some ⟨p, 0, none⟩) 2 2, .slice a1 (leB e 4).length c1, .slice a2 (leB s 8).length c2, .slice a3 (leB l 4).length c3, b.val] :: roS (⟨some ⟨p, 0, none⟩, 2, [UInt8.ofNat k, UInt8.ofNat b.xs.length]⟩ : Sl UInt8) :: roS (⟨a1, c1, leB e 4⟩ : Sl UInt8) :: roS (⟨a2, c2, leB s 8⟩ : Sl UInt8) :: roS (⟨a3, c3, leB l 4⟩ : Sl UInt8) :: roS b :: roS b :: F) w))
    have eH : ([(⟨some ⟨p, 0, none⟩, 2, [UInt8.ofNat k, UInt8.ofNat b.xs.length]⟩ : Sl UInt8), ⟨a1, c1, leB e 4⟩, ⟨a2, c2, leB s 8⟩, ⟨a3, c3, leB l 4⟩, b] : List (Sl UInt8)).flatMap (·.xs) = encH k e s l b.xs := by simp [encH]
    have hl := encH_len k e s l b.xs
    refine CallG.use (concat_bytes ⟨some ⟨q, 0, none⟩, 5, [(⟨some ⟨p, 0, none⟩, 2, [UInt8.ofNat k, UInt8.ofNat b.xs.length]⟩ : Sl UInt8), ⟨a1, c1, leB e 4⟩, ⟨a2, c2, leB s 8⟩, ⟨a3, c3, leB l 4⟩, b]⟩ (by dsimp only; rw [eH, hl]; omega)) ?_
    rintro r M ⟨a4, c4, rfl, rfl⟩
    dsimp only [lcA, lnA]
    rw [eH]
    repeat' first | refine adv ?_ | refine Side.go ?_ | refine Giv.mk fun _ => ?_ | refine All.mk fun q => ?_ | refine Fork.mk ?_ ?_ | (refine Two.mk (fun h => ?_) (fun h => ?_) <;> try first | contradiction | (exfalso; omega))
    refine AppZ.use (⟨a4, c4, encH k e s l b.xs⟩ : Sl UInt8) (60 - (encH k e s l b.xs).length) (x := (0 : UInt8)) (by omega) ?_ (fun a5 c5 => ?_)
    · dsimp only; rw [hl]; omega
    have eP : encH k e s l b.xs ++ List.replicate (60 - (encH k e s l b.xs).length) (0 : UInt8) = encP k e s l b.xs := rfl
    have hlP := encP_len k e s l b.xs hb40
    dsimp only
    rw [eP]
    repeat' first | refine adv ?_ | refine Side.go ?_ | refine Giv.mk fun _ => ?_ | refine All.mk fun q => ?_ | refine Fork.mk ?_ ?_ | (refine Two.mk (fun h => ?_) (fun h => ?_) <;> try first | contradiction | (exfalso; omega))
    refine CallG.use (crc_of_own ⟨a5, c5, encP k e s l b.xs⟩) ?_
    rintro r M ⟨rfl, rfl⟩
    dsimp only [lcA, lnA]
    repeat' first | refine adv ?_ | refine Side.go ?_ | refine Giv.mk fun _ => ?_ | refine All.mk fun q => ?_ | refine Fork.mk ?_ ?_ | (refine Two.mk (fun h => ?_) (fun h => ?_) <;> try first | contradiction | (exfalso; omega))
    refine CallG.use (put32_spec (crcOf (encP k e s l b.xs)) (crcOf_lt _)) ?_
    rintro r M ⟨a6, c6, rfl, rfl⟩
    dsimp only [lcA, lnA]
    repeat' first | refine adv ?_ | refine Side.go ?_ | refine Giv.mk fun _ => ?_ | refine All.mk fun q => ?_ | refine Fork.mk ?_ ?_ | (refine Two.mk (fun h => ?_) (fun h => ?_) <;> try first | contradiction | (exfalso; omega))
    refine AppG.many (⟨a5, c5, encP k e s l b.xs⟩ : Sl UInt8) (⟨a6, c6, leB (crcOf (encP k e s l b.xs)) 4⟩ : Sl UInt8) ?_ (fun a7 c7 => ?_)
    · simp only [leB_length, hlP]; decide
    repeat' first | refine adv ?_ | refine Side.go ?_ | refine Giv.mk fun _ => ?_ | refine All.mk fun q => ?_ | refine Fork.mk ?_ ?_ | (refine Two.mk (fun h => ?_) (fun h => ?_) <;> try first | contradiction | (exfalso; omega))
    exact endQ.twoW Tryz.results143 (.inl ⟨⟨by unfold encOk; omega, hb40⟩, a7, c7, rfl, rfl⟩) (fun w h => by unfold encB; exact goes w h)
  refine CallG.use (put64_spec s) ?_
  rintro r M ⟨a2, c2, rfl, rfl⟩
  dsimp only [lcA, lnA]
  repeat' first | refine adv ?_ | refine Side.go ?_ | refine Giv.mk fun _ => ?_ | refine All.mk fun q => ?_ | refine Fork.mk ?_ ?_ | (refine Two.mk (fun h => ?_) (fun h => ?_) <;> try first | contradiction | (exfalso; omega))
  · refine CallG.use (put32_spec l (by omega)) ?_
    rintro r M ⟨a3, c3, rfl, rfl⟩
    dsimp only [lcA, lnA]
    repeat' first | refine adv ?_ | refine Side.go ?_ | refine Giv.mk fun _ => ?_ | refine All.mk fun q => ?_ | refine Fork.mk ?_ ?_ | (refine Two.mk (fun h => ?_) (fun h => ?_) <;> try first | contradiction | (exfalso; omega))
    rename_i p
    have hb40 : b.xs.length ≤ 40 := by omega
    refine CallG_conv (L' := roS (⟨some ⟨q, 0, none⟩, 5, [(⟨some ⟨p, 0, none⟩, 2, [UInt8.ofNat k, UInt8.ofNat b.xs.length]⟩ : Sl UInt8), ⟨a1, c1, leB e 4⟩, ⟨a2, c2, leB s 8⟩, ⟨a3, c3, leB l 4⟩, b]⟩ : Sl (Sl UInt8)) :: roS b :: F) (fun B w h => ?_) ?_
    · have h1 := (goes w h : sat B (cells true p 0 [.int .u8 ((k : Int) % 256), .int .u8 ((b.xs.length : Int) % 256)] :: cells true q 0 [.slice (some ⟨p, 0, none⟩) 2 2, .slice a1 (leB e 4).length c1, .slice a2 (leB s 8).length c2, .slice a3 (leB l 4).length c3, b.val] :: roS (⟨a1, c1, leB e 4⟩ : Sl UInt8) :: roS (⟨a2, c2, leB s 8⟩ : Sl UInt8) :: roS (⟨a3, c3, leB l 4⟩ : Sl UInt8) :: roS b :: F) w)
      have h2 := roS_lit (c := 2) [UInt8.ofNat k, UInt8.ofNat b.xs.length] _ (flat_two k b.xs.length) (fun _ _ => trivial) (by simp) (by simp) h1
      exact goes w (roS_pack (c := 5) [(⟨some ⟨p, 0, none⟩, 2, [UInt8.ofNat k, UInt8.ofNat b.xs.length]⟩ : Sl UInt8), ⟨a1, c1, leB e 4⟩, ⟨a2, c2, leB s 8⟩, ⟨a3, c3, leB l 4⟩, b] (by simp) (by simp) (goes w h2 : sat B (cells true q 0 [.slice (some ⟨p, 0, none⟩) 2 2, .slice a1 (leB e 4).length c1, .slice a2 (leB s 8).length c2, .slice a3 (leB l 4).length c3, b.val] :: roS (⟨some ⟨p, 0, none⟩, 2, [UInt8.ofNat k, UInt8.ofNat b.xs.length]⟩ : Sl UInt8) :: roS (⟨a1, c1, leB e 4⟩ : Sl UInt8) :: roS (⟨a2, c2, leB s 8⟩ : Sl UInt8) :: roS (⟨a3, c3, leB l 4⟩ : Sl UInt8) :: roS b :: roS b :: F) w))
    have eH : ([(⟨some ⟨p, 0, none⟩, 2, [UInt8.ofNat k, UInt8.ofNat b.xs.length]⟩ : Sl UInt8), ⟨a1, c1, leB e 4⟩, ⟨a2, c2, leB s 8⟩, ⟨a3, c3, leB l 4⟩, b] : List (Sl UInt8)).flatMap (·.xs) = encH k e s l b.xs := by simp [encH]
    have hl := encH_len k e s l b.xs
    refine CallG.use (concat_bytes ⟨some ⟨q, 0, none⟩, 5, [(⟨some ⟨p, 0, none⟩, 2, [UInt8.ofNat k, UInt8.ofNat b.xs.length]⟩ : Sl UInt8), ⟨a1, c1, leB e 4⟩, ⟨a2, c2, leB s 8⟩, ⟨a3, c3, leB l 4⟩, b]⟩ (by dsimp only; rw [eH, hl]; omega)) ?_
    rintro r M ⟨a4, c4, rfl, rfl⟩
    dsimp only [lcA, lnA]
    rw [eH]
    repeat' first | refine adv ?_ | refine Side.go ?_ | refine Giv.mk fun _ => ?_ | refine All.mk fun q => ?_ | refine Fork.mk ?_ ?_ | (refine Two.mk (fun h => ?_) (fun h => ?_) <;> try first | contradiction | (exfalso; omega))
    refine AppZ.use (⟨a4, c4, encH k e s l b.xs⟩ : Sl UInt8) (60 - (encH k e s l b.xs).length) (x := (0 : UInt8)) (by omega) ?_ (fun a5 c5 => ?_)
    · dsimp only; rw [hl]; omega
    have eP : encH k e s l b.xs ++ List.replicate (60 - (encH k e s l b.xs).length) (0 : UInt8) = encP k e s l b.xs := rfl
    have hlP := encP_len k e s l b.xs hb40
    dsimp only
    rw [eP]
    repeat' first | refine adv ?_ | refine Side.go ?_ | refine Giv.mk fun _ => ?_ | refine All.mk fun q => ?_ | refine Fork.mk ?_ ?_ | (refine Two.mk (fun h => ?_) (fun h => ?_) <;> try first | contradiction | (exfalso; omega))
    refine CallG.use (crc_of_own ⟨a5, c5, encP k e s l b.xs⟩) ?_
    rintro r M ⟨rfl, rfl⟩
    dsimp only [lcA, lnA]
    repeat' first | refine adv ?_ | refine Side.go ?_ | refine Giv.mk fun _ => ?_ | refine All.mk fun q => ?_ | refine Fork.mk ?_ ?_ | (refine Two.mk (fun h => ?_) (fun h => ?_) <;> try first | contradiction | (exfalso; omega))
    refine CallG.use (put32_spec (crcOf (encP k e s l b.xs)) (crcOf_lt _)) ?_
    rintro r M ⟨a6, c6, rfl, rfl⟩
    dsimp only [lcA, lnA]
    repeat' first | refine adv ?_ | refine Side.go ?_ | refine Giv.mk fun _ => ?_ | refine All.mk fun q => ?_ | refine Fork.mk ?_ ?_ | (refine Two.mk (fun h => ?_) (fun h => ?_) <;> try first | contradiction | (exfalso; omega))
    refine AppG.many (⟨a5, c5, encP k e s l b.xs⟩ : Sl UInt8) (⟨a6, c6, leB (crcOf (encP k e s l b.xs)) 4⟩ : Sl UInt8) ?_ (fun a7 c7 => ?_)
    · simp only [leB_length, hlP]; decide
    repeat' first | refine adv ?_ | refine Side.go ?_ | refine Giv.mk fun _ => ?_ | refine All.mk fun q => ?_ | refine Fork.mk ?_ ?_ | (refine Two.mk (fun h => ?_) (fun h => ?_) <;> try first | contradiction | (exfalso; omega))
    exact endQ.twoW Tryz.results143 (.inl ⟨⟨by unfold encOk; omega, hb40⟩, a7, c7, rfl, rfl⟩) (fun w h => by unfold encB; exact goes w h)
  refine CallG.use (put32_spec l (by omega)) ?_
  rintro r M ⟨a3, c3, rfl, rfl⟩
  dsimp only [lcA, lnA]
  repeat' first | refine adv ?_ | refine Side.go ?_ | refine Giv.mk fun _ => ?_ | refine All.mk fun q => ?_ | refine Fork.mk ?_ ?_ | (refine Two.mk (fun h => ?_) (fun h => ?_) <;> try first | contradiction | (exfalso; omega))
  rename_i p
  have hb40 : b.xs.length ≤ 40 := by omega
  refine CallG_conv (L' := roS (⟨some ⟨q, 0, none⟩, 5, [(⟨some ⟨p, 0, none⟩, 2, [UInt8.ofNat k, UInt8.ofNat b.xs.length]⟩ : Sl UInt8), ⟨a1, c1, leB e 4⟩, ⟨a2, c2, leB s 8⟩, ⟨a3, c3, leB l 4⟩, b]⟩ : Sl (Sl UInt8)) :: roS b :: F) (fun B w h => ?_) ?_
  · have h1 := (goes w h : sat B (cells true p 0 [.int .u8 ((k : Int) % 256), .int .u8 ((b.xs.length : Int) % 256)] :: cells true q 0 [.slice (some ⟨p, 0, none⟩) 2 2, .slice a1 (leB e 4).length c1, .slice a2 (leB s 8).length c2, .slice a3 (leB l 4).length c3, b.val] :: roS (⟨a1, c1, leB e 4⟩ : Sl UInt8) :: roS (⟨a2, c2, leB s 8⟩ : Sl UInt8) :: roS (⟨a3, c3, leB l 4⟩ : Sl UInt8) :: roS b :: F) w)
    have h2 := roS_lit (c := 2) [UInt8.ofNat k, UInt8.ofNat b.xs.length] _ (flat_two k b.xs.length) (fun _ _ => trivial) (by simp) (by simp) h1
    exact goes w (roS_pack (c := 5) [(⟨some ⟨p, 0, none⟩, 2, [UInt8.ofNat k, UInt8.ofNat b.xs.length]⟩ : Sl UInt8), ⟨a1, c1, leB e 4⟩, ⟨a2, c2, leB s 8⟩, ⟨a3, c3, leB l 4⟩, b] (by simp) (by simp) (goes w h2 : sat B (cells true q 0 [.slice (some ⟨p, 0, none⟩) 2 2, .slice a1 (leB e 4).length c1, .slice a2 (leB s 8).length c2, .slice a3 (leB l 4).length c3, b.val] :: roS (⟨some ⟨p, 0, none⟩, 2, [UInt8.ofNat k, UInt8.ofNat b.xs.length]⟩ : Sl UInt8) :: roS (⟨a1, c1, leB e 4⟩ : Sl UInt8) :: roS (⟨a2, c2, leB s 8⟩ : Sl UInt8) :: roS (⟨a3, c3, leB l 4⟩ : Sl UInt8) :: roS b :: roS b :: F) w))
  have eH : ([(⟨some ⟨p, 0, none⟩, 2, [UInt8.ofNat k, UInt8.ofNat b.xs.length]⟩ : Sl UInt8), ⟨a1, c1, leB e 4⟩, ⟨a2, c2, leB s 8⟩, ⟨a3, c3, leB l 4⟩, b] : List (Sl UInt8)).flatMap (·.xs) = encH k e s l b.xs := by simp [encH]
  have hl := encH_len k e s l b.xs
  refine CallG.use (concat_bytes ⟨some ⟨q, 0, none⟩, 5, [(⟨some ⟨p, 0, none⟩, 2, [UInt8.ofNat k, UInt8.ofNat b.xs.length]⟩ : Sl UInt8), ⟨a1, c1, leB e 4⟩, ⟨a2, c2, leB s 8⟩, ⟨a3, c3, leB l 4⟩, b]⟩ (by dsimp only; rw [eH, hl]; omega)) ?_
  rintro r M ⟨a4, c4, rfl, rfl⟩
  dsimp only [lcA, lnA]
  rw [eH]
  repeat' first | refine adv ?_ | refine Side.go ?_ | refine Giv.mk fun _ => ?_ | refine All.mk fun q => ?_ | refine Fork.mk ?_ ?_ | (refine Two.mk (fun h => ?_) (fun h => ?_) <;> try first | contradiction | (exfalso; omega))
  refine AppZ.use (⟨a4, c4, encH k e s l b.xs⟩ : Sl UInt8) (60 - (encH k e s l b.xs).length) (x := (0 : UInt8)) (by omega) ?_ (fun a5 c5 => ?_)
  · dsimp only; rw [hl]; omega
  have eP : encH k e s l b.xs ++ List.replicate (60 - (encH k e s l b.xs).length) (0 : UInt8) = encP k e s l b.xs := rfl
  have hlP := encP_len k e s l b.xs hb40
  dsimp only
  rw [eP]
  repeat' first | refine adv ?_ | refine Side.go ?_ | refine Giv.mk fun _ => ?_ | refine All.mk fun q => ?_ | refine Fork.mk ?_ ?_ | (refine Two.mk (fun h => ?_) (fun h => ?_) <;> try first | contradiction | (exfalso; omega))
  refine CallG.use (crc_of_own ⟨a5, c5, encP k e s l b.xs⟩) ?_
  rintro r M ⟨rfl, rfl⟩
  dsimp only [lcA, lnA]
  repeat' first | refine adv ?_ | refine Side.go ?_ | refine Giv.mk fun _ => ?_ | refine All.mk fun q => ?_ | refine Fork.mk ?_ ?_ | (refine Two.mk (fun h => ?_) (fun h => ?_) <;> try first | contradiction | (exfalso; omega))
  refine CallG.use (put32_spec (crcOf (encP k e s l b.xs)) (crcOf_lt _)) ?_
  rintro r M ⟨a6, c6, rfl, rfl⟩
  dsimp only [lcA, lnA]
  repeat' first | refine adv ?_ | refine Side.go ?_ | refine Giv.mk fun _ => ?_ | refine All.mk fun q => ?_ | refine Fork.mk ?_ ?_ | (refine Two.mk (fun h => ?_) (fun h => ?_) <;> try first | contradiction | (exfalso; omega))
  refine AppG.many (⟨a5, c5, encP k e s l b.xs⟩ : Sl UInt8) (⟨a6, c6, leB (crcOf (encP k e s l b.xs)) 4⟩ : Sl UInt8) ?_ (fun a7 c7 => ?_)
  · simp only [leB_length, hlP]; decide
  repeat' first | refine adv ?_ | refine Side.go ?_ | refine Giv.mk fun _ => ?_ | refine All.mk fun q => ?_ | refine Fork.mk ?_ ?_ | (refine Two.mk (fun h => ?_) (fun h => ?_) <;> try first | contradiction | (exfalso; omega))
  exact endQ.twoW Tryz.results143 (.inl ⟨⟨by unfold encOk; omega, hb40⟩, a7, c7, rfl, rfl⟩) (fun w h => by unfold encB; exact goes w h)
end Go.SL
namespace Go.SL
open Go.Proofs
set_option synthInstance.maxSize 4000
set_option synthInstance.maxHeartbeats 400000
set_option maxRecDepth 4000
set_option maxHeartbeats 2000000

/-- The parts that bytes are cut into. -/
def cutB (p : List UInt8) : Nat × Nat × Nat × Nat × List UInt8 :=
  ((p[0]?.getD 0).toNat, getR (p.drop 2) 4, getR (p.drop 6) 8, getR (p.drop 14) 4, (p.take (18 + (p[1]?.getD 0).toNat)).drop 18)
def decOk (p : List UInt8) : Prop := p.length = 64 ∧ (p[1]?.getD 0).toNat ≤ 40 ∧ (cutB p).2.2.1 ≤ 1099511627776 ∧
  encOk (cutB p).1 (cutB p).2.1 (cutB p).2.2.1 (cutB p).2.2.2.1 ∧ p = encB (cutB p).1 (cutB p).2.1 (cutB p).2.2.1 (cutB p).2.2.2.1 (cutB p).2.2.2.2

theorem frame_decode (p : Sl UInt8) : Spec Tryz.prog 118 #[p.val] [roS p] (fun v L =>
    (decOk p.xs ∧ ∃ a c, v = .tuple #[.agg #[.int .i64 (cutB p.xs).1, .int .i64 (cutB p.xs).2.1, .int .i64 (cutB p.xs).2.2.1, .int .i64 (cutB p.xs).2.2.2.1, .slice a (cutB p.xs).2.2.2.2.length c], .int .i64 0] ∧
      L = [roS (⟨a, c, (cutB p.xs).2.2.2.2⟩ : Sl UInt8)]) ∨
    (¬ decOk p.xs ∧ ∃ err : Int, err ≠ 0 ∧ v = .tuple #[.agg #[.int .i64 0, .int .i64 0, .int .i64 0, .int .i64 0, .slice none 0 0], .int .i64 err] ∧ L = [])) := by
  refine enter1 Tryz.func118 rfl (by decide) (by decide) ?_
  intro B F
  dsimp only [lcA, lnA]
  refine Sy_know (ro_ok p) (fun hs => ?_)
  repeat' first | refine adv ?_ | refine Side.go ?_ | refine Giv.mk fun _ => ?_ | refine All.mk fun q => ?_ | refine Fork.mk ?_ ?_ | (refine Two.mk (fun h => ?_) (fun h => ?_) <;> try first | contradiction | (exfalso; omega))
  · exact endQ.res Tryz.results118 (.inr ⟨by unfold decOk; omega, 3, by decide, rfl, rfl⟩)
  have h64 : p.xs.length = 64 := by omega
  rename_i out
  rename Nat => bp
  refine Sy_loop (ι := Unit) (fun _ => [(0, p.val), (2, .pointer (some ⟨out, 0, none⟩)), (4, .pointer (some ⟨bp, 0, none⟩)), (5, .bool false)])
    (fun _ => cells true bp 0 [.int .i64 0, .int .i64 0, .int .i64 0, .int .i64 0, .slice none 0 0] :: cells true out 0 [.int .i64 0, .int .i64 0, .int .i64 0, .int .i64 0, .slice none 0 0] :: roS p :: F)
    (fun _ => 0) () (evs rfl (evs rfl (evs rfl (evs rfl .nil)))) (fun w h => goes w h) ?_
  rintro ⟨⟩ env
  dsimp only [upds]
  repeat' first | refine adv ?_ | refine Side.go ?_ | refine Giv.mk fun _ => ?_ | refine All.mk fun q => ?_ | refine Fork.mk ?_ ?_ | (refine Two.mk (fun h => ?_) (fun h => ?_) <;> try first | contradiction | (exfalso; omega))
  have h1 : 1 < p.xs.length := by omega
  have e0 : (p.xs[0]?.getD 0) = p.xs[0]'(by omega) := by rw [List.getElem?_eq_getElem (by omega)]; rfl
  have e1 : (p.xs[1]?.getD 0) = p.xs[1] := by rw [List.getElem?_eq_getElem h1]; rfl
  have et : p.xs.take p.xs.length = p.xs := List.take_length
  simp only [et]
  refine CallG.use (get64_spec ⟨q, p.c - 6, p.xs.drop 6⟩) ?_
  rintro r M ⟨rfl, rfl⟩
  dsimp only [lcA, lnA]
  have hs64 : getR (p.xs.drop 6) 8 < 18446744073709551616 := getR_lt _ 8
  repeat' first | refine adv ?_ | refine Side.go ?_ | refine Giv.mk fun _ => ?_ | refine All.mk fun q => ?_ | refine Fork.mk ?_ ?_ | (refine Two.mk (fun h => ?_) (fun h => ?_) <;> try first | contradiction | (exfalso; omega))
  · exact endQ.res Tryz.results118 (.inr ⟨by unfold decOk; rw [e1]; omega, 13, by decide, rfl, rfl⟩)
  · exact endQ.res Tryz.results118 (.inr ⟨by unfold decOk cutB; simp only []; omega, 13, by decide, rfl, rfl⟩)
  simp only [et]
  refine CallG.use (get32_spec ⟨q, p.c - 2, p.xs.drop 2⟩) ?_
  rintro r M ⟨rfl, rfl⟩
  dsimp only [lcA, lnA]
  have hs32 : getR (p.xs.drop 2) 4 < 4294967296 := getR_lt _ 4
  repeat' first | refine adv ?_ | refine Side.go ?_ | refine Giv.mk fun _ => ?_ | refine All.mk fun q => ?_ | refine Fork.mk ?_ ?_ | (refine Two.mk (fun h => ?_) (fun h => ?_) <;> try first | contradiction | (exfalso; omega))
  simp only [et]
  refine CallG.use (get32_spec ⟨q, p.c - 14, p.xs.drop 14⟩) ?_
  rintro r M ⟨rfl, rfl⟩
  dsimp only [lcA, lnA]
  have hs33 : getR (p.xs.drop 14) 4 < 4294967296 := getR_lt _ 4
  repeat' first | refine adv ?_ | refine Side.go ?_ | refine Giv.mk fun _ => ?_ | refine All.mk fun q => ?_ | refine Fork.mk ?_ ?_ | (refine Two.mk (fun h => ?_) (fun h => ?_) <;> try first | contradiction | (exfalso; omega))
  have et2 : ((18 : Int) + ((p.xs[1].toNat : Nat) : Int)).toNat = 18 + p.xs[1].toNat := by omega
  simp only [et2]
  have hbl : ((p.xs.take (18 + p.xs[1].toNat)).drop 18).length = p.xs[1].toNat := by simp; omega
  have ecut : cutB p.xs = ((p.xs[0]'(by omega)).toNat, getR (p.xs.drop 2) 4, getR (p.xs.drop 6) 8, getR (p.xs.drop 14) 4, (p.xs.take (18 + p.xs[1].toNat)).drop 18) := by unfold cutB; rw [e0, e1]
  refine CallG.use (clone_bytes ⟨q, p.c - 18, (p.xs.take (18 + p.xs[1].toNat)).drop 18⟩) ?_
  rintro r M ⟨a, c, rfl, rfl⟩
  dsimp only [lcA, lnA]
  repeat' first | refine adv ?_ | refine Side.go ?_ | refine Giv.mk fun _ => ?_ | refine All.mk fun q => ?_ | refine Fork.mk ?_ ?_ | (refine Two.mk (fun h => ?_) (fun h => ?_) <;> try first | contradiction | (exfalso; omega))
  refine CallG_conv (L' := roS (⟨a, c, (p.xs.take (18 + p.xs[1].toNat)).drop 18⟩ : Sl UInt8) :: cells true bp 0 [.int .i64 (p.xs[0]'(by omega)).toNat, .int .i64 (getR (p.xs.drop 2) 4), .int .i64 (getR (p.xs.drop 6) 8), .int .i64 (getR (p.xs.drop 14) 4), .slice a ((p.xs.take (18 + p.xs[1].toNat)).drop 18).length c] :: cells true out 0 [.int .i64 0, .int .i64 0, .int .i64 0, .int .i64 0, .slice none 0 0] :: roS p :: F) (fun B w h => goes w h) ?_
  refine CallG.use (frame_encode (p.xs[0]'(by omega)).toNat (getR (p.xs.drop 2) 4) (getR (p.xs.drop 6) 8) (getR (p.xs.drop 14) 4) ⟨a, c, (p.xs.take (18 + p.xs[1].toNat)).drop 18⟩) ?_
  rintro v M (⟨⟨hok, hb40⟩, a2, c2, rfl, rfl⟩ | ⟨hno, err, herr, rfl, rfl⟩)
  · dsimp only [lcA, lnA]
    repeat' first | refine adv ?_ | refine Side.go ?_ | refine Giv.mk fun _ => ?_ | refine All.mk fun q => ?_ | refine Fork.mk ?_ ?_ | (refine Two.mk (fun h => ?_) (fun h => ?_) <;> try first | contradiction | (exfalso; omega))
    · refine CallG.use (equal_bytes p ⟨a2, c2, encB (p.xs[0]'(by omega)).toNat (getR (p.xs.drop 2) 4) (getR (p.xs.drop 6) 8) (getR (p.xs.drop 14) 4) ((p.xs.take (18 + p.xs[1].toNat)).drop 18)⟩) ?_
      rintro r M ⟨rfl, rfl⟩
      dsimp only [lcA, lnA]
      repeat' first | refine adv ?_ | refine Side.go ?_ | refine Giv.mk fun _ => ?_ | refine All.mk fun q => ?_ | refine Fork.mk ?_ ?_ | (refine Two.mk (fun h => ?_) (fun h => ?_) <;> try first | contradiction | (exfalso; omega))
      · exact endQ.res Tryz.results118 (.inr ⟨by unfold decOk; rw [ecut]; simp only []; intro hd; exact absurd hd.2.2.2.2 (by simpa using h), 13, by decide, rfl, rfl⟩)
      · have hd : decOk p.xs := by
          unfold decOk
          rw [ecut]
          exact ⟨h64, by rw [e1]; omega, by dsimp only; omega, hok, by simpa using h⟩
        rw [ecut]
        refine endQ.res Tryz.results118 (.inl ⟨hd, a, c, rfl, rfl⟩)
  · dsimp only [lcA, lnA]
    repeat' first | refine adv ?_ | refine Side.go ?_ | refine Giv.mk fun _ => ?_ | refine All.mk fun q => ?_ | refine Fork.mk ?_ ?_ | (refine Two.mk (fun h => ?_) (fun h => ?_) <;> try first | contradiction | (exfalso; omega))
    exact endQ.res Tryz.results118 (.inr ⟨by unfold decOk; rw [ecut]; simp only []; intro hd; exact hno ⟨hd.2.2.2.1, by rw [hbl]; omega⟩, 13, by decide, rfl, rfl⟩)
end Go.SL
namespace Go.SL
open Go.Proofs
set_option synthInstance.maxSize 4000
set_option synthInstance.maxHeartbeats 400000
set_option maxRecDepth 4000
set_option maxHeartbeats 2000000

def geoOk (Z S : Int) : Prop := (8 ≤ Z ∧ Z ≤ 64) ∧ 96 ≤ S ∧ S ≤ 192
theorem space_may (Z S : Int) : Spec Tryz.prog 74 #[.agg #[.int .i64 Z, .int .i64 S]] [] (fun v L => ∃ b : Bool, (b = true ↔ geoOk Z S) ∧ v = .bool b ∧ L = []) := by
  refine enter1 Tryz.func74 rfl (by decide) (by decide) ?_
  intro B F
  dsimp only [lcA, lnA]
  repeat' first | refine adv ?_ | refine Side.go ?_ | refine Giv.mk fun _ => ?_ | refine All.mk fun q => ?_ | refine Fork.mk ?_ ?_ | (refine Two.mk (fun h => ?_) (fun h => ?_) <;> try first | contradiction | (exfalso; omega))
  all_goals refine endQ.one Tryz.results74 ⟨_, ?_, rfl, rfl⟩
  all_goals unfold geoOk; simp; omega

def midOf (Z : Nat) : Nat := 3 * Z / 8
def capOf (Z S : Nat) : Nat := (40 * (midOf Z * S - 2) - 64) / 44

theorem space_split (Z S : Nat) (ok : geoOk Z S) : Spec Tryz.prog 36 #[.agg #[.int .i64 Z, .int .i64 S]] []
    (fun v L => v = .tuple #[.agg #[.int .i64 0, .int .i64 (midOf Z), .int .i64 (2 * midOf Z), .int .i64 ((Z : Int) - 1)], .int .i64 0] ∧ L = []) := by
  refine enter1 Tryz.func36 rfl (by decide) (by decide) ?_
  intro B F
  dsimp only [lcA, lnA]
  repeat' first | refine adv ?_ | refine Side.go ?_ | refine Giv.mk fun _ => ?_ | refine All.mk fun q => ?_ | refine Fork.mk ?_ ?_ | (refine Two.mk (fun h => ?_) (fun h => ?_) <;> try first | contradiction | (exfalso; omega))
  refine CallG.use (space_may Z S) ?_
  rintro r M ⟨b, hb, rfl, rfl⟩
  dsimp only [lcA, lnA]
  obtain rfl := hb.2 ok
  obtain ⟨⟨z0, z1⟩, s0, s1⟩ := ok
  repeat' first | refine adv ?_ | refine Side.go ?_ | refine Giv.mk fun _ => ?_ | refine All.mk fun q => ?_ | refine Fork.mk ?_ ?_ | (refine Two.mk (fun h => ?_) (fun h => ?_) <;> try first | contradiction | (exfalso; omega))
  have e2 : (3 * (Z : Int)) / 8 = (midOf Z : Nat) := by unfold midOf; omega
  simp only [e2]
  have hm : midOf Z ≤ 24 := by unfold midOf; omega
  repeat' first | refine adv ?_ | refine Side.go ?_ | refine Giv.mk fun _ => ?_ | refine All.mk fun q => ?_ | refine Fork.mk ?_ ?_ | (refine Two.mk (fun h => ?_) (fun h => ?_) <;> try first | contradiction | (exfalso; omega))
  exact endQ.res Tryz.results36 ⟨rfl, rfl⟩

theorem space_capacity (Z S : Nat) (ok : geoOk Z S) : Spec Tryz.prog 46 #[.agg #[.int .i64 Z, .int .i64 S]] [] (fun v L => v = .int .i64 (capOf Z S) ∧ L = []) := by
  refine enter1 Tryz.func46 rfl (by decide) (by decide) ?_
  intro B F
  dsimp only [lcA, lnA]
  repeat' first | refine adv ?_ | refine Side.go ?_ | refine Giv.mk fun _ => ?_ | refine All.mk fun q => ?_ | refine Fork.mk ?_ ?_ | (refine Two.mk (fun h => ?_) (fun h => ?_) <;> try first | contradiction | (exfalso; omega))
  refine CallG.use (space_split Z S ok) ?_
  rintro r M ⟨rfl, rfl⟩
  dsimp only [lcA, lnA]
  obtain ⟨⟨z0, z1⟩, s0, s1⟩ := ok
  have hm : midOf Z ≤ 24 := by unfold midOf; omega
  have hm2 : 3 ≤ midOf Z := by unfold midOf; omega
  have hp : midOf Z * S ≤ 24 * 192 := Nat.mul_le_mul hm (by omega)
  have hp2 : 3 * 96 ≤ midOf Z * S := Nat.mul_le_mul hm2 (by omega)
  have hpi : (midOf Z : Int) * (S : Int) = ((midOf Z * S : Nat) : Int) := (Int.natCast_mul _ _).symm
  repeat' first | refine adv ?_ | refine Side.go ?_ | refine Giv.mk fun _ => ?_ | refine All.mk fun q => ?_ | refine Fork.mk ?_ ?_ | (refine Two.mk (fun h => ?_) (fun h => ?_) <;> try first | contradiction | (exfalso; omega))
  refine endQ.one Tryz.results46 ⟨?_, rfl⟩
  congr 1
  unfold capOf
  omega
end Go.SL
