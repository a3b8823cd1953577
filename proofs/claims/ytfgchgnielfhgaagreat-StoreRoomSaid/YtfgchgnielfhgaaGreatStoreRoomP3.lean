/- Parts of the proof of StoreRoom: a logic of memory, contracts of functions, plain laws (Slot, Slot2, Slot3, Slot4, DvOk, Slot5, Slot6, Slot7, SlMr, SlX, SlP2, Dat, Ext, Ext2, Bat, Ext3, SlSort, SlSh, SlKeys, Ext4). Conditions: those that each theorem names. -/
import Derived.Shelf.SlIterI.Nil
import Derived.Shelf.SortM.Plain
import Derived.Shelf.SortM.SortNone
import Derived.Shelf.SlSortCmp.NoneTotal
import Derived.Shelf.SlicesG.Cmp
import Derived.Shelf.Small.Bits
import Derived.Ground.GgzProg
import Derived.Ground.SlgmProg
import Derived.Ground.SlsfProg
import Derived.Ground.SlgcProg
import Derived.Ground.NamesProg
import Derived.Shelf.SlGeneric
import Derived.Test.YtfgchgnielfhgaaGreatStoreRoomP2
set_option linter.unusedSimpArgs false
set_option linter.unusedVariables false
namespace Go.SL
open Go.Proofs
set_option synthInstance.maxSize 4000
set_option synthInstance.maxHeartbeats 400000
set_option maxRecDepth 4000
set_option maxHeartbeats 2000000


/-- What a Commit says of a text. -/
def tailOf (t : List UInt8) : List UInt8 := leB t.length 4 ++ leB (crcOf t) 4
theorem slot_tail (s : Sl UInt8) (hs : s.xs.length < 4294967296) : Spec Tryz.prog 120 #[s.val] [ownS s] (fun v L => ∃ a c, v = .slice a (tailOf s.xs).length c ∧ L = [ownS s, ownS (⟨a, c, tailOf s.xs⟩ : Sl UInt8)]) := by
  refine enter1 Tryz.func120 rfl (by decide) (by decide) ?_
  intro B F
  dsimp only [lcA, lnA]
  repeat' first | refine adv ?_ | refine Side.go ?_ | refine Giv.mk fun _ => ?_ | refine All.mk fun q => ?_ | refine Fork.mk ?_ ?_ | (refine Two.mk (fun h => ?_) (fun h => ?_) <;> try first | contradiction | (exfalso; omega))
  refine CallG.use (put32_spec s.xs.length hs) ?_
  rintro r M ⟨a1, c1, rfl, rfl⟩
  dsimp only [lcA, lnA]
  repeat' first | refine adv ?_ | refine Side.go ?_ | refine Giv.mk fun _ => ?_ | refine All.mk fun q => ?_ | refine Fork.mk ?_ ?_ | (refine Two.mk (fun h => ?_) (fun h => ?_) <;> try first | contradiction | (exfalso; omega))
  refine CallG.use (crc_of_own s) ?_
  rintro r M ⟨rfl, rfl⟩
  dsimp only [lcA, lnA]
  repeat' first | refine adv ?_ | refine Side.go ?_ | refine Giv.mk fun _ => ?_ | refine All.mk fun q => ?_ | refine Fork.mk ?_ ?_ | (refine Two.mk (fun h => ?_) (fun h => ?_) <;> try first | contradiction | (exfalso; omega))
  refine CallG.use (put32_spec (crcOf s.xs) (crcOf_lt _)) ?_
  rintro r M ⟨a2, c2, rfl, rfl⟩
  dsimp only [lcA, lnA]
  repeat' first | refine adv ?_ | refine Side.go ?_ | refine Giv.mk fun _ => ?_ | refine All.mk fun q => ?_ | refine Fork.mk ?_ ?_ | (refine Two.mk (fun h => ?_) (fun h => ?_) <;> try first | contradiction | (exfalso; omega))
  refine CallG_conv (L' := roS (⟨some ⟨q, 0, none⟩, 2, [⟨a1, c1, leB s.xs.length 4⟩, ⟨a2, c2, leB (crcOf s.xs) 4⟩]⟩ : Sl (Sl UInt8)) :: ownS s :: F) (fun B w h => ?_) ?_
  · exact roS_pack (c := 2) [⟨a1, c1, leB s.xs.length 4⟩, ⟨a2, c2, leB (crcOf s.xs) 4⟩] (by simp) (by simp) (goes w h : sat B (cells true q 0 [.slice a1 (leB s.xs.length 4).length c1, .slice a2 (leB (crcOf s.xs) 4).length c2] :: roS (⟨a1, c1, leB s.xs.length 4⟩ : Sl UInt8) :: roS (⟨a2, c2, leB (crcOf s.xs) 4⟩ : Sl UInt8) :: ownS s :: F) w)
  have eH : ([⟨a1, c1, leB s.xs.length 4⟩, ⟨a2, c2, leB (crcOf s.xs) 4⟩] : List (Sl UInt8)).flatMap (·.xs) = tailOf s.xs := by simp [tailOf]
  refine CallG.use (concat_bytes ⟨some ⟨q, 0, none⟩, 2, [⟨a1, c1, leB s.xs.length 4⟩, ⟨a2, c2, leB (crcOf s.xs) 4⟩]⟩ (by dsimp only; rw [eH]; simp [tailOf, leB_length])) ?_
  rintro r M ⟨a4, c4, rfl, rfl⟩
  dsimp only [lcA, lnA]
  rw [eH]
  repeat' first | refine adv ?_ | refine Side.go ?_ | refine Giv.mk fun _ => ?_ | refine All.mk fun q => ?_ | refine Fork.mk ?_ ?_ | (refine Two.mk (fun h => ?_) (fun h => ?_) <;> try first | contradiction | (exfalso; omega))
  exact endQ.one Tryz.results120 ⟨a4, c4, rfl, rfl⟩
theorem slot_tail_ro (s : Sl UInt8) (hs : s.xs.length < 4294967296) : Spec Tryz.prog 120 #[s.val] [roS s] (fun v L => ∃ a c, v = .slice a (tailOf s.xs).length c ∧ L = [ownS (⟨a, c, tailOf s.xs⟩ : Sl UInt8)]) := by
  refine enter1 Tryz.func120 rfl (by decide) (by decide) ?_
  intro B F
  dsimp only [lcA, lnA]
  repeat' first | refine adv ?_ | refine Side.go ?_ | refine Giv.mk fun _ => ?_ | refine All.mk fun q => ?_ | refine Fork.mk ?_ ?_ | (refine Two.mk (fun h => ?_) (fun h => ?_) <;> try first | contradiction | (exfalso; omega))
  refine CallG.use (put32_spec s.xs.length hs) ?_
  rintro r M ⟨a1, c1, rfl, rfl⟩
  dsimp only [lcA, lnA]
  repeat' first | refine adv ?_ | refine Side.go ?_ | refine Giv.mk fun _ => ?_ | refine All.mk fun q => ?_ | refine Fork.mk ?_ ?_ | (refine Two.mk (fun h => ?_) (fun h => ?_) <;> try first | contradiction | (exfalso; omega))
  refine CallG.use (crc_of s) ?_
  rintro r M ⟨rfl, rfl⟩
  dsimp only [lcA, lnA]
  repeat' first | refine adv ?_ | refine Side.go ?_ | refine Giv.mk fun _ => ?_ | refine All.mk fun q => ?_ | refine Fork.mk ?_ ?_ | (refine Two.mk (fun h => ?_) (fun h => ?_) <;> try first | contradiction | (exfalso; omega))
  refine CallG.use (put32_spec (crcOf s.xs) (crcOf_lt _)) ?_
  rintro r M ⟨a2, c2, rfl, rfl⟩
  dsimp only [lcA, lnA]
  repeat' first | refine adv ?_ | refine Side.go ?_ | refine Giv.mk fun _ => ?_ | refine All.mk fun q => ?_ | refine Fork.mk ?_ ?_ | (refine Two.mk (fun h => ?_) (fun h => ?_) <;> try first | contradiction | (exfalso; omega))
  refine CallG_conv (L' := roS (⟨some ⟨q, 0, none⟩, 2, [⟨a1, c1, leB s.xs.length 4⟩, ⟨a2, c2, leB (crcOf s.xs) 4⟩]⟩ : Sl (Sl UInt8)) :: roS s :: F) (fun B w h => ?_) ?_
  · exact roS_pack (c := 2) [⟨a1, c1, leB s.xs.length 4⟩, ⟨a2, c2, leB (crcOf s.xs) 4⟩] (by simp) (by simp) (goes w h : sat B (cells true q 0 [.slice a1 (leB s.xs.length 4).length c1, .slice a2 (leB (crcOf s.xs) 4).length c2] :: roS (⟨a1, c1, leB s.xs.length 4⟩ : Sl UInt8) :: roS (⟨a2, c2, leB (crcOf s.xs) 4⟩ : Sl UInt8) :: roS s :: F) w)
  have eH : ([⟨a1, c1, leB s.xs.length 4⟩, ⟨a2, c2, leB (crcOf s.xs) 4⟩] : List (Sl UInt8)).flatMap (·.xs) = tailOf s.xs := by simp [tailOf]
  refine CallG.use (concat_bytes ⟨some ⟨q, 0, none⟩, 2, [⟨a1, c1, leB s.xs.length 4⟩, ⟨a2, c2, leB (crcOf s.xs) 4⟩]⟩ (by dsimp only; rw [eH]; simp [tailOf, leB_length])) ?_
  rintro r M ⟨a4, c4, rfl, rfl⟩
  dsimp only [lcA, lnA]
  rw [eH]
  repeat' first | refine adv ?_ | refine Side.go ?_ | refine Giv.mk fun _ => ?_ | refine All.mk fun q => ?_ | refine Fork.mk ?_ ?_ | (refine Two.mk (fun h => ?_) (fun h => ?_) <;> try first | contradiction | (exfalso; omega))
  exact endQ.one Tryz.results120 ⟨a4, c4, rfl, rfl⟩

instance (p : List UInt8) : Decidable (decOk p) := by unfold decOk encOk; infer_instance
/-- A slot's text, and which one it is. -/
def readGo : Nat → Nat → List UInt8 → List (List UInt8) → Option (List UInt8 × Nat)
  | _, _, _, [] => none
  | i, n, t, p :: ps =>
    if ¬ decOk p then none
    else if i = 0 ∧ (cutB p).1 = 3 then readGo (i + 1) (cutB p).2.2.1 t ps
    else if i = 0 ∨ (cutB p).2.2.1 ≠ n then none
    else if (cutB p).1 = 1 then readGo (i + 1) n (t ++ (cutB p).2.2.2.2) ps
    else if (cutB p).1 = 2 ∧ (cutB p).2.2.2.1 = i - 1 ∧ (cutB p).2.2.2.2 = tailOf t then some (t, n)
    else none

theorem readGo_cons {i n : Nat} {t p : List UInt8} {ps : List (List UInt8)} {kd ep sq lb : Nat} {body : List UInt8} (hd : decOk p) (hc : cutB p = (kd, ep, sq, lb, body)) : readGo i n t (p :: ps) =
    if i = 0 ∧ kd = 3 then readGo (i + 1) sq t ps else if i = 0 ∨ sq ≠ n then none else if kd = 1 then readGo (i + 1) n (t ++ body) ps else if kd = 2 ∧ lb = i - 1 ∧ body = tailOf t then some (t, n) else none := by
  rw [readGo, if_neg (fun h => h hd), hc]
theorem cutB_body (p : List UInt8) (h : decOk p) : (cutB p).2.2.2.2.length ≤ 40 := by
  have h2 := h.2.1
  unfold cutB
  simp only [List.length_drop, List.length_take]
  omega

theorem slot_read (bs : Sl (Sl UInt8)) (hb : bs.xs.length ≤ 20000) : Spec Tryz.prog 77 #[bs.val] [roS bs] (fun v L =>
    (readGo 0 0 [] (raws bs.xs) = none ∧ v = .tuple #[.slice none 0 0, .int .i64 0] ∧ L = []) ∨
    (∃ t n, readGo 0 0 [] (raws bs.xs) = some (t, n) ∧ ∃ a c, v = .tuple #[.slice a t.length c, .int .i64 (n : Nat)] ∧ L = [ownS (⟨a, c, t⟩ : Sl UInt8)])) := by
  refine enter1 Tryz.func77 rfl (by decide) (by decide) ?_
  intro B F
  dsimp only [lcA, lnA]
  repeat' first | refine adv ?_ | refine Side.go ?_ | refine Giv.mk fun _ => ?_ | refine All.mk fun q => ?_ | refine Fork.mk ?_ ?_ | (refine Two.mk (fun h => ?_) (fun h => ?_) <;> try first | contradiction | (exfalso; omega))
  refine Sy_loop (ι := {st : Nat × Nat × Sl UInt8 // st.1 ≤ bs.xs.length ∧ st.2.2.xs.length ≤ 40 * st.1 ∧ readGo 0 0 [] (raws bs.xs) = readGo st.1 st.2.1 st.2.2.xs (raws (bs.xs.drop st.1))})
    (fun st => [(10, .int .i64 st.1.1), (9, .int .i64 bs.xs.length), (8, bs.val), (3, .int .i64 st.1.2.1), (2, st.1.2.2.val)])
    (fun st => ownS st.1.2.2 :: roS bs :: F) (fun st => bs.xs.length - st.1.1) ⟨(0, 0, ⟨none, 0, []⟩), Nat.zero_le _, Nat.zero_le _, rfl⟩ (evs rfl (evs rfl (evs rfl (evs rfl (evs rfl .nil))))) (fun w h => goes w (sat_true (own_nil (α := UInt8)) h)) ?_
  rintro ⟨⟨k, n, t⟩, hk, htl, hgo⟩ env
  dsimp only [upds] at hk htl hgo ⊢
  repeat' first | refine adv ?_ | refine Side.go ?_ | refine Giv.mk fun _ => ?_ | refine All.mk fun q => ?_ | refine Fork.mk ?_ ?_ | (refine Two.mk (fun h => ?_) (fun h => ?_) <;> try first | contradiction | (exfalso; omega))
  · have hk2 : k < bs.xs.length := by omega
    have hdrop : raws (bs.xs.drop k) = bs.xs[k].xs :: raws (bs.xs.drop (k + 1)) := by rw [List.drop_eq_getElem_cons hk2]; rfl
    rw [hdrop] at hgo
    refine CallG_conv (L' := roS (bs.xs[k]'hk2) :: ownS t :: roS bs :: F) (fun B w h => goes w (ro_pull_sl hk2 (h.perm (.swap _ _ _)))) ?_
    refine CallG.use (frame_decode bs.xs[k]) ?_
    rintro v M (⟨hd, a, c, rfl, rfl⟩ | ⟨hno, err, herr, rfl, rfl⟩)
    · dsimp only [lcA, lnA]
      have hbody := cutB_body _ hd
      generalize hcut : cutB bs.xs[k].xs = cut at *
      obtain ⟨kd, ep, sq, lb, body⟩ := cut
      dsimp only at hbody ⊢
      repeat' first | refine adv ?_ | refine Side.go ?_ | refine Giv.mk fun _ => ?_ | refine All.mk fun q => ?_ | refine Fork.mk ?_ ?_ | (refine Two.mk (fun h => ?_) (fun h => ?_) <;> try first | contradiction | (exfalso; omega))
      · rw [readGo_cons hd hcut, if_pos (by omega)] at hgo
        exact loopQ.next ⟨(k + 1, sq, t), hk2, by dsimp only; omega, hgo⟩ (by simp only []; omega) (evs rfl (evs rfl (evs rfl (evs rfl (evs rfl .nil))))) (fun w h => goes w h)
      · refine endQ.two Tryz.results77 (.inl ⟨?_, rfl, rfl⟩)
        rw [hgo, readGo_cons hd hcut, if_neg (by omega), if_pos (by omega)]
      · refine endQ.two Tryz.results77 (.inl ⟨?_, rfl, rfl⟩)
        rw [hgo, readGo_cons hd hcut, if_neg (by omega), if_pos (by omega)]
      · refine AppG.many t (⟨a, c, body⟩ : Sl UInt8) ?_ (fun a c => ?_)
        · dsimp only; omega
        repeat' first | refine adv ?_ | refine Side.go ?_ | refine Giv.mk fun _ => ?_ | refine All.mk fun q => ?_ | refine Fork.mk ?_ ?_ | (refine Two.mk (fun h => ?_) (fun h => ?_) <;> try first | contradiction | (exfalso; omega))
        rw [readGo_cons hd hcut, if_neg (by omega), if_neg (by omega), if_pos (by omega)] at hgo
        refine loopQ.next ⟨(k + 1, n, ⟨a, c, t.xs ++ body⟩), hk2, by simp only [List.length_append]; omega, hgo⟩ (by simp only []; omega) (evs rfl (evs rfl (evs rfl (evs rfl (evs rfl .nil))))) (fun w h => goes w h)
      · refine CallG.use (slot_tail t (by omega)) ?_
        rintro r M ⟨a2, c2, rfl, rfl⟩
        dsimp only [lcA, lnA]
        repeat' first | refine adv ?_ | refine Side.go ?_ | refine Giv.mk fun _ => ?_ | refine All.mk fun q => ?_ | refine Fork.mk ?_ ?_ | (refine Two.mk (fun h => ?_) (fun h => ?_) <;> try first | contradiction | (exfalso; omega))
        refine CallG.use (equal_bytes ⟨a, c, body⟩ ⟨a2, c2, tailOf t.xs⟩) ?_
        rintro r M ⟨rfl, rfl⟩
        dsimp only [lcA, lnA]
        repeat' first | refine adv ?_ | refine Side.go ?_ | refine Giv.mk fun _ => ?_ | refine All.mk fun q => ?_ | refine Fork.mk ?_ ?_ | (refine Two.mk (fun h => ?_) (fun h => ?_) <;> try first | contradiction | (exfalso; omega))
        · refine endQ.twoW Tryz.results77 (.inr ⟨t.xs, n, ?_, t.a, t.c, rfl, rfl⟩) (fun w h => goes w h)
          rw [hgo, readGo_cons hd hcut, if_neg (by omega), if_neg (by omega), if_neg (by omega), if_pos ⟨by omega, by omega, h⟩]
        · refine endQ.two Tryz.results77 (.inl ⟨?_, rfl, rfl⟩)
          rw [hgo, readGo_cons hd hcut, if_neg (by omega), if_neg (by omega), if_neg (by omega), if_neg (fun x => h x.2.2)]
      · refine endQ.two Tryz.results77 (.inl ⟨?_, rfl, rfl⟩)
        rw [hgo, readGo_cons hd hcut, if_neg (by omega), if_neg (by omega), if_neg (by omega), if_neg (by omega)]
      · refine endQ.two Tryz.results77 (.inl ⟨?_, rfl, rfl⟩)
        rw [hgo, readGo_cons hd hcut, if_neg (by omega), if_neg (by omega), if_neg (by omega), if_neg (by omega)]
    · dsimp only [lcA, lnA]
      repeat' first | refine adv ?_ | refine Side.go ?_ | refine Giv.mk fun _ => ?_ | refine All.mk fun q => ?_ | refine Fork.mk ?_ ?_ | (refine Two.mk (fun h => ?_) (fun h => ?_) <;> try first | contradiction | (exfalso; omega))
      refine endQ.two Tryz.results77 (.inl ⟨?_, rfl, rfl⟩)
      rw [hgo]; unfold readGo; rw [if_pos hno]
  · have hk3 : k = bs.xs.length := by omega
    subst hk3
    refine endQ.two Tryz.results77 (.inl ⟨?_, rfl, rfl⟩)
    rw [hgo, List.drop_length]; rfl
end Go.SL
namespace Go.SL
open Go.Proofs
set_option synthInstance.maxSize 4000
set_option synthInstance.maxHeartbeats 400000
set_option maxRecDepth 4000
set_option maxHeartbeats 2000000

def strangeOf (p : List UInt8) : Bool := decide ((p[0]?.getD 0).toNat < 1 ∨ 3 < (p[0]?.getD 0).toNat)
theorem slot_strange (s : Sl UInt8) (h : 0 < s.xs.length) : Spec Tryz.prog 76 #[s.val] [roS s] (fun v L => v = .bool (strangeOf s.xs) ∧ L = []) := by
  refine enter1 Tryz.func76 rfl (by decide) (by decide) ?_
  intro B F
  dsimp only [lcA, lnA]
  have e0 : (s.xs[0]?.getD 0) = s.xs[0] := by rw [List.getElem?_eq_getElem h]; rfl
  repeat' first | refine adv ?_ | refine Side.go ?_ | refine Giv.mk fun _ => ?_ | refine All.mk fun q => ?_ | refine Fork.mk ?_ ?_ | (refine Two.mk (fun h => ?_) (fun h => ?_) <;> try first | contradiction | (exfalso; omega))
  all_goals refine endQ.one Tryz.results76 ⟨?_, rfl⟩
  all_goals unfold strangeOf; rw [e0]
  all_goals first | (congr 1; exact (decide_eq_true (by omega)).symm) | (congr 1; exact (decide_eq_false (by omega)).symm) | (congr 1; exact decide_eq_decide.2 (by omega))

theorem index_func (s : Sl (Sl UInt8)) (g : FuncId) [TFunc Tryz.prog g] (pred : List UInt8 → Bool) (hl : s.xs.length ≤ 1000000)
    (hg : ∀ j (h : j < s.xs.length), Spec Tryz.prog g #[s.xs[j].val] [roS s.xs[j]] (fun v L => v = .bool (pred s.xs[j].xs) ∧ L = [])) :
    Spec Tryz.prog 83 #[s.val, .func (.func g) #[] #[]] [roS s] (fun v L => ∃ n : Int, v = .int .i64 n ∧ (0 ≤ n ↔ (raws s.xs).any pred = true) ∧ L = []) := by
  refine enter2 Tryz.func83 rfl (by decide) (by decide) ?_
  intro B F
  dsimp only [lcA, lnA]
  repeat' first | refine adv ?_ | refine Side.go ?_ | refine Giv.mk fun _ => ?_ | refine All.mk fun q => ?_ | refine Fork.mk ?_ ?_ | (refine Two.mk (fun h => ?_) (fun h => ?_) <;> try first | contradiction | (exfalso; omega))
  refine Sy_loop (ι := {k : Nat // k ≤ s.xs.length ∧ (raws (s.xs.take k)).any pred = false}) (fun k => [(8, .int .i64 k.1), (7, .int .i64 s.xs.length), (0, s.val), (1, .func (.func g) #[] #[])]) (fun _ => roS s :: F)
      (fun k => s.xs.length - k.1) ⟨0, Nat.zero_le _, rfl⟩ (evs rfl (evs rfl (evs rfl (evs rfl .nil)))) (fun _ h => h) ?_
  rintro ⟨k, hk, hp⟩ env
  dsimp only [upds]
  repeat' first | refine adv ?_ | refine Side.go ?_ | refine Giv.mk fun _ => ?_ | refine All.mk fun q => ?_ | refine Fork.mk ?_ ?_ | (refine Two.mk (fun h => ?_) (fun h => ?_) <;> try first | contradiction | (exfalso; omega))
  · have hk2 : k < s.xs.length := by omega
    refine CallG_conv (L' := roS (s.xs[k]'hk2) :: roS s :: F) (fun B w h => ro_pull_sl hk2 h) ?_
    refine CallG.use (hg k hk2) ?_
    rintro r M ⟨rfl, rfl⟩
    dsimp only [lcA, lnA]
    repeat' first | refine adv ?_ | refine Side.go ?_ | refine Giv.mk fun _ => ?_ | refine All.mk fun q => ?_ | refine Fork.mk ?_ ?_ | (refine Two.mk (fun h => ?_) (fun h => ?_) <;> try first | contradiction | (exfalso; omega))
    · refine endQ.one Tryz.results83 ⟨_, rfl, ⟨fun _ => ?_, fun _ => by omega⟩, rfl⟩
      rw [List.any_eq_true]
      exact ⟨s.xs[k].xs, List.mem_map.2 ⟨s.xs[k], List.getElem_mem hk2, rfl⟩, h⟩
    · refine loopQ.next ⟨k + 1, by omega, ?_⟩ (by simp only []; omega) (evs rfl (evs rfl (evs rfl (evs rfl .nil)))) (fun w h => goes w h)
      rw [raws_take _ _ hk2, List.any_append, hp]
      simpa using h
  · have hk3 : k = s.xs.length := by omega
    subst hk3
    rw [List.take_length] at hp
    refine endQ.one Tryz.results83 ⟨_, rfl, ⟨fun hn => by omega, fun hn => by rw [hp] at hn; cases hn⟩, rfl⟩

theorem contains_func (s : Sl (Sl UInt8)) (g : FuncId) [TFunc Tryz.prog g] (pred : List UInt8 → Bool) (hl : s.xs.length ≤ 1000000)
    (hg : ∀ j (h : j < s.xs.length), Spec Tryz.prog g #[s.xs[j].val] [roS s.xs[j]] (fun v L => v = .bool (pred s.xs[j].xs) ∧ L = [])) :
    Spec Tryz.prog 42 #[s.val, .func (.func g) #[] #[]] [roS s] (fun v L => v = .bool ((raws s.xs).any pred) ∧ L = []) := by
  refine enter2 Tryz.func42 rfl (by decide) (by decide) ?_
  intro B F
  dsimp only [lcA, lnA]
  repeat' first | refine adv ?_ | refine Side.go ?_ | refine Giv.mk fun _ => ?_ | refine All.mk fun q => ?_ | refine Fork.mk ?_ ?_ | (refine Two.mk (fun h => ?_) (fun h => ?_) <;> try first | contradiction | (exfalso; omega))
  refine CallG.use (index_func s g pred hl hg) ?_
  rintro r M ⟨n, rfl, hn, rfl⟩
  dsimp only [lcA, lnA]
  repeat' first | refine adv ?_ | refine Side.go ?_ | refine Giv.mk fun _ => ?_ | refine All.mk fun q => ?_ | refine Fork.mk ?_ ?_ | (refine Two.mk (fun h => ?_) (fun h => ?_) <;> try first | contradiction | (exfalso; omega))
  refine endQ.one Tryz.results42 ⟨?_, rfl⟩
  congr 1
  rw [Bool.eq_iff_iff, decide_eq_true_eq, hn]
end Go.SL
namespace Go.SL
open Go.Proofs
set_option synthInstance.maxSize 4000
set_option synthInstance.maxHeartbeats 400000
set_option maxRecDepth 4000
set_option maxHeartbeats 2000000

/-- The two slots as they lie in memory. -/
structure SR where
  low : Nat
  mid : Nat
  high : Nat
  size : Nat
  inn : Nat
  text : Sl UInt8
  count : Nat
  off : Bool
@[reducible] def slotC (p r : Nat) (s : SR) : HProp :=
  cells true p 0 [.pointer (some ⟨r, 0, none⟩), .int .i64 s.low, .int .i64 s.mid, .int .i64 s.high, .int .i64 s.size, .int .i64 s.inn, s.text.val, .int .i64 s.count, .bool s.off]

def zoneOf (D : Dv) (z : Nat) : List (List UInt8) := (D.zs[z]?.getD ([], 0)).1
/-- What stands from a zone on, up to the first one that is not full. -/
def blocksFrom (D : Dv) (size : Nat) : Nat → Nat → List (List UInt8)
  | 0, _ => []
  | n + 1, z => zoneOf D z ++ if (zoneOf D z).length < size then [] else blocksFrom D size n (z + 1)

theorem dev_read_in (r : Nat) (D : Dv) (n : Int) (ok : ({ D with reads := n } : Dv).ok) (z k : Nat) (hz : z < D.Z) (hk : k < (zoneOf D z).length) :
    Spec Tryz.prog 82 #[.pointer (some ⟨r, 0, none⟩), .int .i64 z, .int .i64 k] [devO r { D with reads := n }]
    (fun v L => ∃ a c, v = .tuple #[.slice a (zoneOf D z)[k].length c, .int .i64 0] ∧ (zoneOf D z)[k].length = 64 ∧ L = [devO r { D with reads := n + 1 }, ownS (⟨a, c, (zoneOf D z)[k]⟩ : Sl UInt8)]) := by
  have e : ({ D with reads := n } : Dv).read z k = some (zoneOf D z)[k] := by
    unfold Dv.read
    rw [if_pos (by dsimp only; omega)]
    show (zoneOf D z)[k]? = _
    simp [hk]
  refine (dev_read r { D with reads := n } ok z k).mono ?_
  rintro v L (⟨hn, -⟩ | ⟨b, hb, hl, a, c, rfl, rfl⟩)
  · rw [e] at hn; cases hn
  · rw [e] at hb
    obtain rfl := Option.some.inj hb
    exact ⟨a, c, by rw [hl], hl, rfl⟩

instance toNat_s01 : ToNat ((0 : Int) + 1) 1 := ⟨rfl⟩
instance toNat_s11 : ToNat ((1 : Int) + 1) 2 := ⟨rfl⟩
theorem Dv.ok.reads {D : Dv} (ok : D.ok) (n : Int) : ({ D with reads := n } : Dv).ok := ⟨ok.z0, ok.z1, ok.s0, ok.s1, ok.n, ok.zs, ok.left⟩
theorem zoneOf_le {D : Dv} (ok : D.ok) {z : Nat} (hz : z < D.Z) : (zoneOf D z).length ≤ 192 := by
  have h := ok.n
  have hl : z < D.zs.length := by omega
  have h2 := ok.zs D.zs[z] (List.getElem_mem hl)
  have h3 := ok.s1
  have e : zoneOf D z = D.zs[z].1 := by unfold zoneOf; rw [List.getElem?_eq_getElem hl]; rfl
  rw [e]; omega

theorem slot_blocks0 (p r : Nat) (s : SR) (D : Dv) (ok : D.ok) (hab : s.low ≤ s.mid ∧ s.mid ≤ D.Z) (hsz : s.size ≤ 192) :
    Spec Tryz.prog 75 #[.pointer (some ⟨p, 0, none⟩), .int .i64 0] [slotC p r s, devO r D] (fun v L => ∃ t : Sl (Sl UInt8), v = t.val ∧ raws t.xs = blocksFrom D s.size (s.mid - s.low) s.low ∧
      L = [slotC p r s, devO r { D with reads := D.reads + (t.xs.length : Int) }, ownS t]) := by
  have z1 := ok.z1
  refine enter2 Tryz.func75 rfl (by decide) (by decide) ?_
  intro B F
  dsimp only [lcA, lnA]
  dsimp only [slotC]
  repeat' first | refine adv ?_ | refine Side.go ?_ | refine Giv.mk fun _ => ?_ | refine All.mk fun q => ?_ | refine Fork.mk ?_ ?_ | (refine Two.mk (fun h => ?_) (fun h => ?_) <;> try first | contradiction | (exfalso; omega))
  refine Sy_loop (ι := {st : Nat × Sl (Sl UInt8) // (s.low ≤ st.1 ∧ st.1 ≤ s.mid) ∧ raws st.2.xs ++ blocksFrom D s.size (s.mid - st.1) st.1 = blocksFrom D s.size (s.mid - s.low) s.low ∧ st.2.xs.length ≤ 192 * st.1})
    (fun st => [(5, .int .i64 st.1.1), (4, st.1.2.val), (0, .pointer (some ⟨p, 0, none⟩)), (1, .int .i64 0)])
    (fun st => ownS st.1.2 :: slotC p r s :: devO r { D with reads := D.reads + (st.1.2.xs.length : Int) } :: F) (fun st => s.mid - st.1.1) ⟨(s.low, ⟨none, 0, []⟩), ⟨Nat.le_refl _, hab.1⟩, rfl, by simp⟩ (evs rfl (evs rfl (evs rfl (evs rfl .nil)))) (fun w h => ?_) ?_
  · have e : ({ D with reads := D.reads + (([] : List (Sl UInt8)).length : Int) } : Dv) = D := by simp
    dsimp only [slotC]
    rw [e]
    exact goes w (sat_true (own_nil (α := Sl UInt8)) h)
  rintro ⟨⟨z, t⟩, hz, hgo, htl⟩ env
  dsimp only [upds, slotC] at hz hgo htl ⊢
  repeat' first | refine adv ?_ | refine Side.go ?_ | refine Giv.mk fun _ => ?_ | refine All.mk fun q => ?_ | refine Fork.mk ?_ ?_ | (refine Two.mk (fun h => ?_) (fun h => ?_) <;> try first | contradiction | (exfalso; omega))
  · have hzZ : z < D.Z := by omega
    have hp : ({ D with reads := D.reads + (t.xs.length : Int) } : Dv).pointer z = (((zoneOf D z).length : Int), 0) := by unfold Dv.pointer; rw [if_pos (by dsimp only; omega)]; rfl
    have hzo : (zoneOf D z).length ≤ 192 := zoneOf_le ok hzZ
    refine CallG.use (dev_pointer r { D with reads := D.reads + (t.xs.length : Int) } (ok.reads _) z) ?_
    rintro r M ⟨rfl, rfl⟩
    dsimp only [lcA, lnA]
    rw [hp]
    repeat' first | refine adv ?_ | refine Side.go ?_ | refine Giv.mk fun _ => ?_ | refine All.mk fun q => ?_ | refine Fork.mk ?_ ?_ | (refine Two.mk (fun h => ?_) (fun h => ?_) <;> try first | contradiction | (exfalso; omega))
    refine Sy_loop (ι := {st : Nat × Sl (Sl UInt8) // st.1 ≤ (zoneOf D z).length ∧ raws st.2.xs = raws t.xs ++ (zoneOf D z).take st.1})
      (fun st => [(38, .int .i64 st.1.1), (37, .int .i64 (zoneOf D z).length), (6, .int .i64 (zoneOf D z).length), (5, .int .i64 z), (4, st.1.2.val), (0, .pointer (some ⟨p, 0, none⟩)), (1, .int .i64 0)])
      (fun st => ownS st.1.2 :: slotC p r s :: devO r { D with reads := D.reads + (st.1.2.xs.length : Int) } :: F) (fun st => (zoneOf D z).length - st.1.1) ⟨(0, t), Nat.zero_le _, by simp⟩ (evs rfl (evs rfl (evs rfl (evs rfl (evs rfl (evs rfl (evs rfl .nil))))))) (fun w h => goes w h) ?_
    rintro ⟨⟨k, u⟩, hk, hu⟩ env
    dsimp only [upds, slotC] at hk hu ⊢
    have hul : u.xs.length = t.xs.length + k := by rw [← raws_len, hu, List.length_append, raws_len, List.length_take]; omega
    repeat' first | refine adv ?_ | refine Side.go ?_ | refine Giv.mk fun _ => ?_ | refine All.mk fun q => ?_ | refine Fork.mk ?_ ?_ | (refine Two.mk (fun h => ?_) (fun h => ?_) <;> try first | contradiction | (exfalso; omega))
    · have hk2 : k < (zoneOf D z).length := by omega
      refine CallG.use (dev_read_in r D (D.reads + (u.xs.length : Int)) (ok.reads _) z k hzZ hk2) ?_
      rintro v M ⟨a, c, rfl, h64, rfl⟩
      dsimp only [lcA, lnA]
      repeat' first | refine adv ?_ | refine Side.go ?_ | refine Giv.mk fun _ => ?_ | refine All.mk fun q => ?_ | refine Fork.mk ?_ ?_ | (refine Two.mk (fun h => ?_) (fun h => ?_) <;> try first | contradiction | (exfalso; omega))
      refine AppG.oneS u (⟨a, c, (zoneOf D z)[k]⟩ : Sl UInt8) ?_ (fun a2 c2 => ?_)
      · omega
      repeat' first | refine adv ?_ | refine Side.go ?_ | refine Giv.mk fun _ => ?_ | refine All.mk fun q => ?_ | refine Fork.mk ?_ ?_ | (refine Two.mk (fun h => ?_) (fun h => ?_) <;> try first | contradiction | (exfalso; omega))
      refine loopQ.next ⟨(k + 1, ⟨a2, c2, u.xs ++ [⟨a, c, (zoneOf D z)[k]⟩]⟩), by omega, ?_⟩ (by simp only []; omega) (evs rfl (evs rfl (evs rfl (evs rfl (evs rfl (evs rfl (evs rfl .nil))))))) (fun w h => ?_)
      · rw [raws_snoc, hu, List.take_succ_eq_append_getElem hk2, List.append_assoc]
      · have e : (D.reads + ((u.xs ++ [(⟨a, c, (zoneOf D z)[k]⟩ : Sl UInt8)]).length : Int)) = D.reads + (u.xs.length : Int) + 1 := by simp; omega
        dsimp only [slotC]
        rw [e]
        exact goes w h
    · have hkl : k = (zoneOf D z).length := by omega
      subst hkl
      rw [List.take_length] at hu
      refine endQ.oneW Tryz.results75 ⟨u, rfl, ?_, rfl⟩ (fun w h => goes w h)
      have e : s.mid - z = (s.mid - (z + 1)) + 1 := by omega
      rw [← hgo, e, blocksFrom, if_pos (by omega), List.append_nil, hu]
    · have hkl : k = (zoneOf D z).length := by omega
      subst hkl
      rw [List.take_length] at hu
      refine loopQ.next ⟨(z + 1, u), by dsimp only; omega, ?_, by dsimp only; omega⟩ (by simp only []; omega) (evs rfl (evs rfl (evs rfl (evs rfl .nil)))) (fun w h => goes w h)
      have e : s.mid - z = (s.mid - (z + 1)) + 1 := by omega
      rw [← hgo, e, blocksFrom, if_neg (by omega), hu, List.append_assoc]
  · have hzb : z = s.mid := by omega
    refine endQ.oneW Tryz.results75 ⟨t, rfl, ?_, rfl⟩ (fun w h => goes w h)
    rw [← hgo, hzb, Nat.sub_self]
    simp [blocksFrom]

theorem slot_blocks1 (p r : Nat) (s : SR) (D : Dv) (ok : D.ok) (hab : s.mid ≤ s.high ∧ s.high ≤ D.Z) (hsz : s.size ≤ 192) :
    Spec Tryz.prog 75 #[.pointer (some ⟨p, 0, none⟩), .int .i64 1] [slotC p r s, devO r D] (fun v L => ∃ t : Sl (Sl UInt8), v = t.val ∧ raws t.xs = blocksFrom D s.size (s.high - s.mid) s.mid ∧
      L = [slotC p r s, devO r { D with reads := D.reads + (t.xs.length : Int) }, ownS t]) := by
  have z1 := ok.z1
  refine enter2 Tryz.func75 rfl (by decide) (by decide) ?_
  intro B F
  dsimp only [lcA, lnA]
  dsimp only [slotC]
  repeat' first | refine adv ?_ | refine Side.go ?_ | refine Giv.mk fun _ => ?_ | refine All.mk fun q => ?_ | refine Fork.mk ?_ ?_ | (refine Two.mk (fun h => ?_) (fun h => ?_) <;> try first | contradiction | (exfalso; omega))
  refine Sy_loop (ι := {st : Nat × Sl (Sl UInt8) // (s.mid ≤ st.1 ∧ st.1 ≤ s.high) ∧ raws st.2.xs ++ blocksFrom D s.size (s.high - st.1) st.1 = blocksFrom D s.size (s.high - s.mid) s.mid ∧ st.2.xs.length ≤ 192 * st.1})
    (fun st => [(5, .int .i64 st.1.1), (4, st.1.2.val), (0, .pointer (some ⟨p, 0, none⟩)), (1, .int .i64 1)])
    (fun st => ownS st.1.2 :: slotC p r s :: devO r { D with reads := D.reads + (st.1.2.xs.length : Int) } :: F) (fun st => s.high - st.1.1) ⟨(s.mid, ⟨none, 0, []⟩), ⟨Nat.le_refl _, hab.1⟩, rfl, by simp⟩ (evs rfl (evs rfl (evs rfl (evs rfl .nil)))) (fun w h => ?_) ?_
  · have e : ({ D with reads := D.reads + (([] : List (Sl UInt8)).length : Int) } : Dv) = D := by simp
    dsimp only [slotC]
    rw [e]
    exact goes w (sat_true (own_nil (α := Sl UInt8)) h)
  rintro ⟨⟨z, t⟩, hz, hgo, htl⟩ env
  dsimp only [upds, slotC] at hz hgo htl ⊢
  repeat' first | refine adv ?_ | refine Side.go ?_ | refine Giv.mk fun _ => ?_ | refine All.mk fun q => ?_ | refine Fork.mk ?_ ?_ | (refine Two.mk (fun h => ?_) (fun h => ?_) <;> try first | contradiction | (exfalso; omega))
  · have hzZ : z < D.Z := by omega
    have hp : ({ D with reads := D.reads + (t.xs.length : Int) } : Dv).pointer z = (((zoneOf D z).length : Int), 0) := by unfold Dv.pointer; rw [if_pos (by dsimp only; omega)]; rfl
    have hzo : (zoneOf D z).length ≤ 192 := zoneOf_le ok hzZ
    refine CallG.use (dev_pointer r { D with reads := D.reads + (t.xs.length : Int) } (ok.reads _) z) ?_
    rintro r M ⟨rfl, rfl⟩
    dsimp only [lcA, lnA]
    rw [hp]
    repeat' first | refine adv ?_ | refine Side.go ?_ | refine Giv.mk fun _ => ?_ | refine All.mk fun q => ?_ | refine Fork.mk ?_ ?_ | (refine Two.mk (fun h => ?_) (fun h => ?_) <;> try first | contradiction | (exfalso; omega))
    refine Sy_loop (ι := {st : Nat × Sl (Sl UInt8) // st.1 ≤ (zoneOf D z).length ∧ raws st.2.xs = raws t.xs ++ (zoneOf D z).take st.1})
      (fun st => [(38, .int .i64 st.1.1), (37, .int .i64 (zoneOf D z).length), (6, .int .i64 (zoneOf D z).length), (5, .int .i64 z), (4, st.1.2.val), (0, .pointer (some ⟨p, 0, none⟩)), (1, .int .i64 1)])
      (fun st => ownS st.1.2 :: slotC p r s :: devO r { D with reads := D.reads + (st.1.2.xs.length : Int) } :: F) (fun st => (zoneOf D z).length - st.1.1) ⟨(0, t), Nat.zero_le _, by simp⟩ (evs rfl (evs rfl (evs rfl (evs rfl (evs rfl (evs rfl (evs rfl .nil))))))) (fun w h => goes w h) ?_
    rintro ⟨⟨k, u⟩, hk, hu⟩ env
    dsimp only [upds, slotC] at hk hu ⊢
    have hul : u.xs.length = t.xs.length + k := by rw [← raws_len, hu, List.length_append, raws_len, List.length_take]; omega
    repeat' first | refine adv ?_ | refine Side.go ?_ | refine Giv.mk fun _ => ?_ | refine All.mk fun q => ?_ | refine Fork.mk ?_ ?_ | (refine Two.mk (fun h => ?_) (fun h => ?_) <;> try first | contradiction | (exfalso; omega))
    · have hk2 : k < (zoneOf D z).length := by omega
      refine CallG.use (dev_read_in r D (D.reads + (u.xs.length : Int)) (ok.reads _) z k hzZ hk2) ?_
      rintro v M ⟨a, c, rfl, h64, rfl⟩
      dsimp only [lcA, lnA]
      repeat' first | refine adv ?_ | refine Side.go ?_ | refine Giv.mk fun _ => ?_ | refine All.mk fun q => ?_ | refine Fork.mk ?_ ?_ | (refine Two.mk (fun h => ?_) (fun h => ?_) <;> try first | contradiction | (exfalso; omega))
      refine AppG.oneS u (⟨a, c, (zoneOf D z)[k]⟩ : Sl UInt8) ?_ (fun a2 c2 => ?_)
      · omega
      repeat' first | refine adv ?_ | refine Side.go ?_ | refine Giv.mk fun _ => ?_ | refine All.mk fun q => ?_ | refine Fork.mk ?_ ?_ | (refine Two.mk (fun h => ?_) (fun h => ?_) <;> try first | contradiction | (exfalso; omega))
      refine loopQ.next ⟨(k + 1, ⟨a2, c2, u.xs ++ [⟨a, c, (zoneOf D z)[k]⟩]⟩), by omega, ?_⟩ (by simp only []; omega) (evs rfl (evs rfl (evs rfl (evs rfl (evs rfl (evs rfl (evs rfl .nil))))))) (fun w h => ?_)
      · rw [raws_snoc, hu, List.take_succ_eq_append_getElem hk2, List.append_assoc]
      · have e : (D.reads + ((u.xs ++ [(⟨a, c, (zoneOf D z)[k]⟩ : Sl UInt8)]).length : Int)) = D.reads + (u.xs.length : Int) + 1 := by simp; omega
        dsimp only [slotC]
        rw [e]
        exact goes w h
    · have hkl : k = (zoneOf D z).length := by omega
      subst hkl
      rw [List.take_length] at hu
      refine endQ.oneW Tryz.results75 ⟨u, rfl, ?_, rfl⟩ (fun w h => goes w h)
      have e : s.high - z = (s.high - (z + 1)) + 1 := by omega
      rw [← hgo, e, blocksFrom, if_pos (by omega), List.append_nil, hu]
    · have hkl : k = (zoneOf D z).length := by omega
      subst hkl
      rw [List.take_length] at hu
      refine loopQ.next ⟨(z + 1, u), by dsimp only; omega, ?_, by dsimp only; omega⟩ (by simp only []; omega) (evs rfl (evs rfl (evs rfl (evs rfl .nil)))) (fun w h => goes w h)
      have e : s.high - z = (s.high - (z + 1)) + 1 := by omega
      rw [← hgo, e, blocksFrom, if_neg (by omega), hu, List.append_assoc]
  · have hzb : z = s.high := by omega
    refine endQ.oneW Tryz.results75 ⟨t, rfl, ?_, rfl⟩ (fun w h => goes w h)
    rw [← hgo, hzb, Nat.sub_self]
    simp [blocksFrom]

end Go.SL
namespace Go.SL
open Go.Proofs
set_option synthInstance.maxSize 4000
set_option synthInstance.maxHeartbeats 400000
set_option maxRecDepth 4000
set_option maxHeartbeats 2000000

theorem slot_load (p r : Nat) (s : SR) : Spec Tryz.prog 39 #[.pointer (some ⟨p, 0, none⟩)] [slotC p r s, roS s.text] (fun v L => ∃ a c, v = .tuple #[.slice a s.text.xs.length c, .int .i64 s.count] ∧ L = [slotC p r s, roS s.text, ownS (⟨a, c, s.text.xs⟩ : Sl UInt8)]) := by
  refine enter1 Tryz.func39 rfl (by decide) (by decide) ?_
  intro B F
  dsimp only [lcA, lnA]
  dsimp only [slotC]
  repeat' first | refine adv ?_ | refine Side.go ?_ | refine Giv.mk fun _ => ?_ | refine All.mk fun q => ?_ | refine Fork.mk ?_ ?_ | (refine Two.mk (fun h => ?_) (fun h => ?_) <;> try first | contradiction | (exfalso; omega))
  refine CallG.use (clone_bytes s.text) ?_
  rintro r M ⟨a, c, rfl, rfl⟩
  dsimp only [lcA, lnA]
  repeat' first | refine adv ?_ | refine Side.go ?_ | refine Giv.mk fun _ => ?_ | refine All.mk fun q => ?_ | refine Fork.mk ?_ ?_ | (refine Two.mk (fun h => ?_) (fun h => ?_) <;> try first | contradiction | (exfalso; omega))
  exact endQ.twoW Tryz.results39 ⟨a, c, rfl, rfl⟩ (fun w h => goes w h)

theorem slot_dead (p r : Nat) (s : SR) : Spec Tryz.prog 107 #[.pointer (some ⟨p, 0, none⟩)] [slotC p r s] (fun v L => v = .bool s.off ∧ L = [slotC p r s]) := by
  refine enter1 Tryz.func107 rfl (by decide) (by decide) ?_
  intro B F
  dsimp only [lcA, lnA]
  dsimp only [slotC]
  repeat' first | refine adv ?_ | refine Side.go ?_ | refine Giv.mk fun _ => ?_ | refine All.mk fun q => ?_ | refine Fork.mk ?_ ?_ | (refine Two.mk (fun h => ?_) (fun h => ?_) <;> try first | contradiction | (exfalso; omega))
  exact endQ.one Tryz.results107 ⟨rfl, rfl⟩

instance (priority := low) cr_arr (P : Program) (env : Env) (ty : TypeId) (L : List HProp) (t : TypeId) (x i : Operand) (φ : Prop) (v : Value) [c : CExec P (.indexAddr t x i) ty env φ v] : CRExec P (.indexAddr t x i) ty env L φ True v :=
  ⟨fun dst pos after guard _ w h _ => c.run dst pos after guard w h, fun _ => trivial⟩

theorem slot_room (p r : Nat) (s : SR) (h : s.low < s.mid ∧ s.mid < s.high ∧ s.high ≤ 64 ∧ 96 ≤ s.size ∧ s.size ≤ 192) : Spec Tryz.prog 106 #[.pointer (some ⟨p, 0, none⟩)] [slotC p r s]
    (fun v L => v = .int .i64 (40 * (min (s.mid - s.low) (s.high - s.mid) * s.size - 2) : Nat) ∧ L = [slotC p r s]) := by
  refine enter1 Tryz.func106 rfl (by decide) (by decide) ?_
  intro B F
  dsimp only [lcA, lnA]
  dsimp only [slotC]
  have hm : min ((s.mid : Int) - s.low) ((s.high : Int) - s.mid) = ((min (s.mid - s.low) (s.high - s.mid) : Nat) : Int) := by omega
  have h1 : min (s.mid - s.low) (s.high - s.mid) * s.size ≤ 64 * 192 := Nat.mul_le_mul (by omega) (by omega)
  have h2 : 1 * 96 ≤ min (s.mid - s.low) (s.high - s.mid) * s.size := Nat.mul_le_mul (by omega) (by omega)
  have h3 : ((min (s.mid - s.low) (s.high - s.mid) : Nat) : Int) * (s.size : Int) = ((min (s.mid - s.low) (s.high - s.mid) * s.size : Nat) : Int) := (Int.natCast_mul _ _).symm
  repeat' first | refine adv ?_ | refine Side.go ?_ | refine Giv.mk fun _ => ?_ | refine All.mk fun q => ?_ | refine Fork.mk ?_ ?_ | (refine Two.mk (fun h => ?_) (fun h => ?_) <;> try first | contradiction | (exfalso; omega))
  simp only [hm]
  repeat' first | refine adv ?_ | refine Side.go ?_ | refine Giv.mk fun _ => ?_ | refine All.mk fun q => ?_ | refine Fork.mk ?_ ?_ | (refine Two.mk (fun h => ?_) (fun h => ?_) <;> try first | contradiction | (exfalso; omega))
  simp only [h3]
  repeat' first | refine adv ?_ | refine Side.go ?_ | refine Giv.mk fun _ => ?_ | refine All.mk fun q => ?_ | refine Fork.mk ?_ ?_ | (refine Two.mk (fun h => ?_) (fun h => ?_) <;> try first | contradiction | (exfalso; omega))
  refine endQ.one Tryz.results106 ⟨?_, rfl⟩
  congr 1
  omega
end Go.SL
namespace Go.SL
open Go.Proofs
set_option synthInstance.maxSize 4000
set_option synthInstance.maxHeartbeats 400000
set_option maxRecDepth 4000
set_option maxHeartbeats 2000000

theorem Dv.begin_ok {D : Dv} (ok : D.ok) : D.begin.2.ok := by
  unfold Dv.begin
  split
  · exact ⟨ok.z0, ok.z1, ok.s0, ok.s1, ok.n, ok.zs, ok.left⟩
  · refine ⟨ok.z0, ok.z1, ok.s0, ok.s1, ok.n, ok.zs, ?_⟩
    have := ok.left
    show (if D.cut then D.left - 1 else D.left) < _
    split <;> omega
theorem Dv.begin_zs (D : Dv) : D.begin.2.zs = D.zs ∧ D.begin.2.Z = D.Z ∧ D.begin.2.S = D.S := by unfold Dv.begin; split <;> simp

theorem Dv.with_zs {D : Dv} (ok : D.ok) (zs : List (List (List UInt8) × Nat)) (hn : zs.length = D.Z) (hz : ∀ z ∈ zs, z.1.length ≤ D.S ∧ z.2 ≤ z.1.length ∧ ∀ b ∈ z.1, b.length = 64) : ({ D with zs := zs } : Dv).ok :=
  ⟨ok.z0, ok.z1, ok.s0, ok.s1, hn, hz, ok.left⟩

theorem Dv.append_ok {D : Dv} (ok : D.ok) (i : Int) (p : List UInt8) : (D.append i p).2.2.ok := by
  unfold Dv.append
  have hb := D.begin_zs
  split
  · rename_i hi
    split
    · exact ok
    · rename_i hp
      split
      · exact D.begin_ok ok
      · split
        · exact D.begin_ok ok
        · rename_i hroom
          refine Dv.with_zs (D.begin_ok ok) _ (by rw [List.length_set, hb.2.1]; exact ok.n) (fun z hz => ?_)
          rw [hb.2.2]
          rcases List.mem_or_eq_of_mem_set hz with h | rfl
          · exact ok.zs z h
          · have hl : i.toNat < D.zs.length := by have := ok.n; omega
            have e : D.zs[i.toNat]?.getD ([], 0) = D.zs[i.toNat] := by rw [List.getElem?_eq_getElem hl]; rfl
            have h2 := ok.zs _ (List.getElem_mem hl)
            rw [e] at hroom ⊢
            refine ⟨by simp; omega, by simp; omega, fun b hb => ?_⟩
            rcases List.mem_append.1 hb with h | h
            · exact h2.2.2 b h
            · rw [List.mem_singleton.1 h]; omega
  · exact ok

theorem Dv.reset_ok {D : Dv} (ok : D.ok) (i : Int) : (D.reset i).2.ok := by
  unfold Dv.reset
  have hb := D.begin_zs
  split
  · split
    · exact D.begin_ok ok
    · refine Dv.with_zs (D.begin_ok ok) _ (by rw [List.length_set, hb.2.1]; exact ok.n) (fun z hz => ?_)
      rw [hb.2.2]
      rcases List.mem_or_eq_of_mem_set hz with h | rfl
      · exact ok.zs z h
      · exact ⟨Nat.zero_le _, Nat.zero_le _, fun b hb => by cases hb⟩
  · exact ok

theorem Dv.flush_ok {D : Dv} (ok : D.ok) : D.flush.2.ok := by
  unfold Dv.flush
  have hb := D.begin_zs
  split
  · exact D.begin_ok ok
  · refine Dv.with_zs (D.begin_ok ok) _ (by rw [List.length_map, hb.2.1]; exact ok.n) (fun z hz => ?_)
    rw [hb.2.2]
    obtain ⟨y, hy, rfl⟩ := List.mem_map.1 hz
    have := ok.zs y hy
    exact ⟨this.1, Nat.le_refl _, this.2.2⟩

theorem tearOf_len (l : List UInt8) : (tearOf l).length = l.length := by simp [tearOf]

theorem Dv.crash_ok {D : Dv} (ok : D.ok) (picks torn : List Int) : (D.crash picks torn).ok := by
  refine ⟨ok.z0, ok.z1, ok.s0, ok.s1, by show (D.zs.mapIdx _).length = D.Z; rw [List.length_mapIdx]; exact ok.n, ?_, by show (0 : Nat) < _; decide⟩
  intro z hz
  obtain ⟨k, hk, rfl⟩ := List.mem_mapIdx.1 hz
  have h2 := ok.zs _ (List.getElem_mem hk)
  have hle := crashN_le picks k h2.2.1
  show (crashL _ _ _ _).length ≤ D.S ∧ (crashL _ _ _ _).length ≤ (crashL _ _ _ _).length ∧ ∀ b ∈ crashL _ _ _ _, b.length = 64
  unfold crashL
  split
  · rename_i hc
    refine ⟨?_, Nat.le_refl _, fun b hb => ?_⟩
    · rw [List.length_append, List.length_take, List.length_singleton]; omega
    · rcases List.mem_append.1 hb with h | h
      · exact h2.2.2 b (List.mem_of_mem_take h)
      · rw [List.mem_singleton.1 h, tearOf_len, List.getElem?_eq_getElem hc.2.1]
        exact h2.2.2 _ (List.getElem_mem _)
  · rw [List.append_nil]
    refine ⟨by rw [List.length_take]; omega, Nat.le_refl _, fun b hb => h2.2.2 b (List.mem_of_mem_take hb)⟩
end Go.SL
namespace Go.SL
open Go.Proofs
set_option synthInstance.maxSize 4000
set_option synthInstance.maxHeartbeats 400000
set_option maxRecDepth 4000
set_option maxHeartbeats 2000000

def slotStep (i : Nat) (b : List (List UInt8)) (s : Nat × List UInt8 × Nat) : Option (Nat × List UInt8 × Nat) :=
  if b.any strangeOf then none else match readGo 0 0 [] b with | some (t, n) => if s.2.2 < n then some (i, t, n) else some s | none => some s
def slotB (D : Dv) (low mid high i : Nat) : List (List UInt8) := if i = 0 then blocksFrom D D.S (mid - low) low else blocksFrom D D.S (high - mid) mid
def openAt (D : Dv) (low mid high : Nat) : Nat → Option (Nat × List UInt8 × Nat)
  | 0 => some (1, [], 0)
  | k + 1 => (openAt D low mid high k).bind (slotStep k (slotB D low mid high k))
def readsAt (D : Dv) (low mid high : Nat) : Nat → Int
  | 0 => D.reads
  | k + 1 => readsAt D low mid high k + ((slotB D low mid high k).length : Int)

theorem blocksFrom_reads (D : Dv) (n : Int) (size : Nat) : ∀ m z, blocksFrom { D with reads := n } size m z = blocksFrom D size m z
  | 0, _ => rfl
  | m + 1, z => by
    unfold blocksFrom
    rw [blocksFrom_reads D n size m (z + 1)]
    rfl
theorem slot_blocksI (p r : Nat) (s : SR) (D : Dv) (n : Int) (ok : D.ok) (h : s.low < s.mid ∧ s.mid < s.high ∧ s.high ≤ D.Z) (hz : s.size = D.S) (i : Nat) (hi : i < 2) :
    Spec Tryz.prog 75 #[.pointer (some ⟨p, 0, none⟩), .int .i64 i] [slotC p r s, devO r { D with reads := n }] (fun v L => ∃ t : Sl (Sl UInt8), v = t.val ∧ raws t.xs = slotB D s.low s.mid s.high i ∧
      L = [slotC p r s, devO r { D with reads := n + (t.xs.length : Int) }, ownS t]) := by
  have hs1 := ok.s1
  rcases i with _ | _ | i
  · refine (slot_blocks0 p r s { D with reads := n } (ok.reads n) ⟨by omega, by dsimp only; omega⟩ (by omega)).mono ?_
    rintro v L ⟨t, rfl, ht, rfl⟩
    refine ⟨t, rfl, ?_, rfl⟩
    rw [ht, blocksFrom_reads, slotB, if_pos rfl, hz]
  · refine (slot_blocks1 p r s { D with reads := n } (ok.reads n) ⟨by omega, by dsimp only; omega⟩ (by omega)).mono ?_
    rintro v L ⟨t, rfl, ht, rfl⟩
    refine ⟨t, rfl, ?_, rfl⟩
    rw [ht, blocksFrom_reads, slotB, if_neg (by omega), hz]
  · omega

theorem zoneOf_mem {D : Dv} (ok : D.ok) {z : Nat} {b : List UInt8} (h : b ∈ zoneOf D z) : b.length = 64 := by
  unfold zoneOf at h
  cases hz : D.zs[z]? with
  | none => rw [hz] at h; cases h
  | some q => rw [hz] at h; exact (ok.zs q (List.mem_of_getElem? hz)).2.2 b h
theorem blocksFrom_mem {D : Dv} (ok : D.ok) {size : Nat} {b : List UInt8} : ∀ n z, b ∈ blocksFrom D size n z → b.length = 64
  | 0, _, h => by cases h
  | n + 1, z, h => by
    rw [blocksFrom, List.mem_append] at h
    rcases h with h | h
    · exact zoneOf_mem ok h
    · split at h
      · cases h
      · exact blocksFrom_mem ok n _ h
theorem zoneOf_len {D : Dv} (ok : D.ok) (z : Nat) : (zoneOf D z).length ≤ 192 := by
  have h3 := ok.s1
  unfold zoneOf
  cases hz : D.zs[z]? with
  | none => simp
  | some q => have := (ok.zs q (List.mem_of_getElem? hz)).1; simp; omega
theorem blocksFrom_len {D : Dv} (ok : D.ok) (size : Nat) : ∀ n z, (blocksFrom D size n z).length ≤ 192 * n
  | 0, _ => by simp [blocksFrom]
  | n + 1, z => by
    rw [blocksFrom, List.length_append]
    have h1 := zoneOf_len ok z
    have h2 := blocksFrom_len ok size n (z + 1)
    split <;> simp <;> omega
theorem slotB_mem {D : Dv} (ok : D.ok) {low mid high i : Nat} {b : List UInt8} (h : b ∈ slotB D low mid high i) : b.length = 64 := by
  unfold slotB at h
  split at h <;> exact blocksFrom_mem ok _ _ h
theorem slotB_len {D : Dv} (ok : D.ok) {low mid high i : Nat} (h : low < mid ∧ mid < high ∧ high ≤ D.Z) : (slotB D low mid high i).length ≤ 20000 := by
  have z1 := ok.z1
  unfold slotB
  split
  · have := blocksFrom_len ok D.S (mid - low) low; omega
  · have := blocksFrom_len ok D.S (high - mid) mid; omega

theorem slot_open (r : Nat) (D : Dv) (ok : D.ok) (low mid high : Nat) (hlay : low < mid ∧ mid < high ∧ high ≤ D.Z) :
    Spec Tryz.prog 38 #[.pointer (some ⟨r, 0, none⟩), .int .i64 low, .int .i64 mid, .int .i64 high] [devO r D] (fun v L =>
      (openAt D low mid high 2 = none ∧ v = .tuple #[.pointer none, .int .i64 13] ∧ ∃ n, L = [devO r { D with reads := n }]) ∨
      (∃ s, openAt D low mid high 2 = some s ∧
        ((({ D with reads := readsAt D low mid high 2 } : Dv).flush.1 ≠ 0 ∧ v = .tuple #[.pointer none, .int .i64 ({ D with reads := readsAt D low mid high 2 } : Dv).flush.1] ∧ L = [devO r ({ D with reads := readsAt D low mid high 2 } : Dv).flush.2]) ∨
         (({ D with reads := readsAt D low mid high 2 } : Dv).flush.1 = 0 ∧ ∃ p, ∃ t : Sl UInt8, t.xs = s.2.1 ∧ v = .tuple #[.pointer (some ⟨p, 0, none⟩), .int .i64 0] ∧
           L = [slotC p r ⟨low, mid, high, D.S, s.1, t, s.2.2, false⟩, roS t, devO r ({ D with reads := readsAt D low mid high 2 } : Dv).flush.2])))) := by
  refine enter4 Tryz.func38 rfl (by decide) (by decide) ?_
  intro B F
  dsimp only [lcA, lnA]
  have hg := ok.z0
  repeat' first | refine adv ?_ | refine Side.go ?_ | refine Giv.mk fun _ => ?_ | refine All.mk fun q => ?_ | refine Fork.mk ?_ ?_ | (refine Two.mk (fun h => ?_) (fun h => ?_) <;> try first | contradiction | (exfalso; omega))
  refine CallG.use (dev_geometry r D ok) ?_
  rintro r M ⟨rfl, rfl⟩
  dsimp only [lcA, lnA]
  repeat' first | refine adv ?_ | refine Side.go ?_ | refine Giv.mk fun _ => ?_ | refine All.mk fun q => ?_ | refine Fork.mk ?_ ?_ | (refine Two.mk (fun h => ?_) (fun h => ?_) <;> try first | contradiction | (exfalso; omega))
  obtain ⟨p, hpq⟩ : ∃ p, p = q := ⟨q, rfl⟩
  subst hpq
  refine Sy_loop (ι := {st : Nat × Nat × Sl UInt8 × Nat // st.1 ≤ 2 ∧ openAt D low mid high st.1 = some (st.2.1, st.2.2.1.xs, st.2.2.2)})
    (fun st => [(51, .int .i64 st.1.1), (11, .pointer (some ⟨p, 0, none⟩)), (0, .pointer (some ⟨r, 0, none⟩))])
    (fun st => slotC p r ⟨low, mid, high, D.S, st.1.2.1, st.1.2.2.1, st.1.2.2.2, false⟩ :: roS st.1.2.2.1 :: devO r { D with reads := readsAt D low mid high st.1.1 } :: F) (fun st => 2 - st.1.1)
    ⟨(0, 1, ⟨none, 0, []⟩, 0), by omega, rfl⟩ (evs rfl (evs rfl (evs rfl .nil))) (fun w h => ?_) ?_
  · show sat B (cells true p 0 [.pointer (some ⟨r, 0, none⟩), .int .i64 low, .int .i64 mid, .int .i64 high, .int .i64 D.S, .int .i64 1, .slice none 0 0, .int .i64 0, .bool false] :: roS (⟨none, 0, []⟩ : Sl UInt8) :: devO r D :: F) w
    exact goes w (sat_true (ro_nil (α := UInt8)) h)
  rintro ⟨⟨k, inn, t, cn⟩, hk, hgo⟩ env
  dsimp only [upds, slotC] at hk hgo ⊢
  repeat' first | refine adv ?_ | refine Side.go ?_ | refine Giv.mk fun _ => ?_ | refine All.mk fun q => ?_ | refine Fork.mk ?_ ?_ | (refine Two.mk (fun h => ?_) (fun h => ?_) <;> try first | contradiction | (exfalso; omega))
  · have hk2 : k < 2 := by omega
    refine CallG.use (slot_blocksI p r ⟨low, mid, high, D.S, inn, t, cn, false⟩ D (readsAt D low mid high k) ok hlay rfl k hk2) ?_
    rintro r M ⟨u, rfl, hu, rfl⟩
    dsimp only [lcA, lnA]
    dsimp only [slotC]
    repeat' first | refine adv ?_ | refine Side.go ?_ | refine Giv.mk fun _ => ?_ | refine All.mk fun q => ?_ | refine Fork.mk ?_ ?_ | (refine Two.mk (fun h => ?_) (fun h => ?_) <;> try first | contradiction | (exfalso; omega))
    have hul : u.xs.length = (slotB D low mid high k).length := by rw [← hu, raws_len]
    have hlen := slotB_len ok (i := k) hlay
    have hbm : ∀ j (hj : j < u.xs.length), u.xs[j].xs.length = 64 := fun j hj => slotB_mem ok (i := k) (by rw [← hu]; exact List.mem_map.2 ⟨u.xs[j], List.getElem_mem hj, rfl⟩)
    refine CallG_conv (L' := roS u :: slotC p r ⟨low, mid, high, D.S, inn, t, cn, false⟩ :: devO r { D with reads := readsAt D low mid high k + (u.xs.length : Int) } :: roS t :: F) (fun B w h => goes w h) ?_
    dsimp only [slotC]
    refine CallG.use (contains_func u 76 strangeOf (by omega) (fun j hj => slot_strange u.xs[j] (by rw [hbm j hj]; omega))) ?_
    rintro r M ⟨rfl, rfl⟩
    dsimp only [lcA, lnA]
    rw [hu]
    cases hst : (slotB D low mid high k).any strangeOf with
    | true =>
      repeat' first | refine adv ?_ | refine Side.go ?_ | refine Giv.mk fun _ => ?_ | refine All.mk fun q => ?_ | refine Fork.mk ?_ ?_ | (refine Two.mk (fun h => ?_) (fun h => ?_) <;> try first | contradiction | (exfalso; omega))
      refine endQ.twoW Tryz.results38 (.inl ⟨?_, rfl, readsAt D low mid high k + (u.xs.length : Int), rfl⟩) (fun w h => goes w h)
      have e1 : openAt D low mid high (k + 1) = none := by
        rw [openAt, hgo]; simp only [Option.bind_some, slotStep, hst, if_true]
      rcases k with _ | _ | k
      · rw [openAt, e1]; rfl
      · exact e1
      · omega
    | false =>
      repeat' first | refine adv ?_ | refine Side.go ?_ | refine Giv.mk fun _ => ?_ | refine All.mk fun q => ?_ | refine Fork.mk ?_ ?_ | (refine Two.mk (fun h => ?_) (fun h => ?_) <;> try first | contradiction | (exfalso; omega))
      refine CallG.use (slot_read u (by omega)) ?_
      rintro v M (⟨hn, rfl, rfl⟩ | ⟨t2, n2, hn, a, c, rfl, rfl⟩)
      · have e1 : openAt D low mid high (k + 1) = some (inn, t.xs, cn) := by
          dsimp only at hu
          rw [openAt, hgo]; simp only [Option.bind_some, slotStep, hst, Bool.false_eq_true, if_false]
          rw [← hu, hn]
        have e2 : readsAt D low mid high (k + 1) = readsAt D low mid high k + (u.xs.length : Int) := by rw [readsAt, hul]
        dsimp only [lcA, lnA]
        repeat' first | refine adv ?_ | refine Side.go ?_ | refine Giv.mk fun _ => ?_ | refine All.mk fun q => ?_ | refine Fork.mk ?_ ?_ | (refine Two.mk (fun h => ?_) (fun h => ?_) <;> try first | contradiction | (exfalso; omega))
        refine loopQ.next ⟨(k + 1, inn, t, cn), by dsimp only; omega, e1⟩ (by simp only []; omega) (evs rfl (evs rfl (evs rfl .nil))) (fun w h => ?_)
        dsimp only [slotC]
        rw [e2]
        exact goes w h
      · have e2 : readsAt D low mid high (k + 1) = readsAt D low mid high k + (u.xs.length : Int) := by rw [readsAt, hul]
        have e1 : openAt D low mid high (k + 1) = if cn < n2 then some (k, t2, n2) else some (inn, t.xs, cn) := by
          dsimp only at hu
          rw [openAt, hgo]; simp only [Option.bind_some, slotStep, hst, Bool.false_eq_true, if_false]
          rw [← hu, hn]
        dsimp only [lcA, lnA]
        repeat' first | refine adv ?_ | refine Side.go ?_ | refine Giv.mk fun _ => ?_ | refine All.mk fun q => ?_ | refine Fork.mk ?_ ?_ | (refine Two.mk (fun h => ?_) (fun h => ?_) <;> try first | contradiction | (exfalso; omega))
        · rw [if_pos (by omega)] at e1
          refine loopQ.next ⟨(k + 1, k, ⟨a, c, t2⟩, n2), by dsimp only; omega, e1⟩ (by simp only []; omega) (evs rfl (evs rfl (evs rfl .nil))) (fun w h => ?_)
          dsimp only [slotC]
          rw [e2]
          exact goes w h
        · rw [if_neg (by omega)] at e1
          refine loopQ.next ⟨(k + 1, inn, t, cn), by dsimp only; omega, e1⟩ (by simp only []; omega) (evs rfl (evs rfl (evs rfl .nil))) (fun w h => ?_)
          dsimp only [slotC]
          rw [e2]
          exact goes w h
  · have hk3 : k = 2 := by omega
    subst hk3
    refine CallG.use (dev_flush r { D with reads := readsAt D low mid high 2 } (ok.reads _)) ?_
    rintro r M ⟨rfl, rfl⟩
    dsimp only [lcA, lnA]
    repeat' first | refine adv ?_ | refine Side.go ?_ | refine Giv.mk fun _ => ?_ | refine All.mk fun q => ?_ | refine Fork.mk ?_ ?_ | (refine Two.mk (fun h => ?_) (fun h => ?_) <;> try first | contradiction | (exfalso; omega))
    · refine endQ.twoW Tryz.results38 (.inr ⟨_, hgo, .inl ⟨h, rfl, rfl⟩⟩) (fun w h => goes w h)
    · have h0 : ({ D with reads := readsAt D low mid high 2 } : Dv).flush.1 = 0 := by omega
      refine endQ.twoW Tryz.results38 (.inr ⟨_, hgo, .inr ⟨h0, p, t, rfl, rfl, rfl⟩⟩) (fun w h => goes w h)
end Go.SL
namespace Go.SL
open Go.Proofs
set_option synthInstance.maxSize 4000
set_option synthInstance.maxHeartbeats 400000
set_option maxRecDepth 4000
set_option maxHeartbeats 2000000

/-- A block's text as the program holds it. -/
structure Blk where
  k : Nat
  e : Nat
  s : Nat
  l : Nat
  b : Sl UInt8
@[reducible] def Blk.vals (x : Blk) : List Value := [.int .i64 x.k, .int .i64 x.e, .int .i64 x.s, .int .i64 x.l, .slice x.b.a x.b.xs.length x.b.c]
instance rep_blk : Rep Blk := ⟨5, Blk.vals, fun x => roS x.b, fun _ => rfl, fun x v hv => by
  simp only [Blk.vals, List.mem_cons, List.not_mem_nil, or_false] at hv
  rcases hv with rfl | rfl | rfl | rfl | rfl <;> rfl, fun _ => inferInstance, by decide⟩
instance (priority := low) enc_blk' (x : Blk) : EncIs Blk x [.int .i64 x.k, .int .i64 x.e, .int .i64 x.s, .int .i64 x.l, .slice x.b.a x.b.xs.length x.b.c] := ⟨rfl⟩
instance k_blk : KIs Blk 5 := ⟨rfl⟩
abbrev Fr := Nat × Nat × Nat × Nat × List UInt8
def Blk.fr (x : Blk) : Fr := (x.k, x.e, x.s, x.l, x.b.xs)

/-- A block, freshly laid, behind others. -/
theorem AppG.oneB {P : Program} {t ty e b r : Nat} {zs : List Value} {L R : List HProp} {K : Value → List HProp → Prop} (s : Sl Blk) (x : Blk) [u : TUnd P t (.slice e)] [ti : TI P e 5 b zs]
    [p : Picks [ownS s, cells true r 0 [.int .i64 x.k, .int .i64 x.e, .int .i64 x.s, .int .i64 x.l, .slice x.b.a x.b.xs.length x.b.c], roS x.b] L R]
    (hb : (s.xs.length + 1) * b ≤ 140737488355328 ∧ s.xs.length + 1 ≤ 140737488355328)
    (h : ∀ a c, K (.slice a (s.xs ++ [x]).length c) (ownS ⟨a, c, s.xs ++ [x]⟩ :: R)) {v1 : Value} (e1 : v1 = s.val := by rfl) : AppG P t ty v1 (.slice (some ⟨r, 0, none⟩) 1 1) L K :=
  AppG.one (t := t) (ty := ty) (e := e) (k := 5) (b := b) (zs := zs) (vs := x.vals) (P := P) (en := ⟨rfl⟩) (p := (p : Picks [ownS s, cells true r 0 x.vals, Rep.own x] L R)) s x hb h e1
/-- A row of one datum, freshly laid. -/
theorem own_lit1 {α : Type} [Rep α] {B : World} {L : List HProp} {r : Nat} {w : World} (x : α) (hs : sat B (cells true r 0 (Rep.enc x) :: Rep.own x :: L) w) : sat B (ownS (⟨some ⟨r, 0, none⟩, 1, [x]⟩ : Sl α) :: L) w := by
  refine ownS_of_cells (s := ⟨some ⟨r, 0, none⟩, 1, [x]⟩) (room := []) ⟨by rintro _ ⟨⟩; rfl, by simp, by simp, by simp⟩ (by simp) ?_
  have e : flat [x] ++ [] = Rep.enc x := by simp [flat]
  rw [e]
  exact (ownAll_cons (xs := []) ((sat_true (A := fun h : Hp => ∀ y ∈ ([] : List α), Rep.own y h) (fun g y hy => by cases hy) (hs.perm (.swap _ _ _))).perm (.swap _ _ _))).perm (.swap _ _ _)

theorem Dv.append_geo (D : Dv) (i : Int) (p : List UInt8) : (D.append i p).2.2.Z = D.Z ∧ (D.append i p).2.2.S = D.S := by
  unfold Dv.append Dv.begin
  repeat' split
  all_goals exact ⟨rfl, rfl⟩
theorem Dv.reset_geo (D : Dv) (i : Int) : (D.reset i).2.Z = D.Z ∧ (D.reset i).2.S = D.S := by
  unfold Dv.reset Dv.begin
  repeat' split
  all_goals exact ⟨rfl, rfl⟩
theorem Dv.flush_geo (D : Dv) : D.flush.2.Z = D.Z ∧ D.flush.2.S = D.S := by
  unfold Dv.flush Dv.begin
  repeat' split
  all_goals exact ⟨rfl, rfl⟩

def wipe (D : Dv) : Nat → Nat → Int × Dv
  | 0, _ => (0, D)
  | n + 1, z => if 0 < (D.pointer z).1 then (if (D.reset z).1 ≠ 0 then D.reset z else wipe (D.reset z).2 n (z + 1)) else wipe D n (z + 1)
def framesOf (n : Nat) (text : List UInt8) : List Fr :=
  ((3, 0, n, 0, []) :: (List.range ((text.length + 39) / 40)).map fun i => (1, 0, n, 0, (text.drop (40 * i)).take 40)) ++ [(2, 0, n, (text.length + 39) / 40, tailOf text)]
def layGo (a size : Nat) : Nat → List Fr → Dv → Int × Dv
  | _, [], D => (0, D)
  | k, f :: fs, D =>
    if (D.append ((a + k / size : Nat) : Int) (encB f.1 f.2.1 f.2.2.1 f.2.2.2.1 f.2.2.2.2)).2.1 ≠ 0 then (D.append ((a + k / size : Nat) : Int) (encB f.1 f.2.1 f.2.2.1 f.2.2.2.1 f.2.2.2.2)).2
    else layGo a size (k + 1) fs (D.append ((a + k / size : Nat) : Int) (encB f.1 f.2.1 f.2.2.1 f.2.2.2.1 f.2.2.2.2)).2.2
def slotWrite (D : Dv) (a b : Nat) (n : Nat) (text : List UInt8) : Int × Dv :=
  if (wipe D (b - a) a).1 ≠ 0 then wipe D (b - a) a else
  if (layGo a D.S 0 (framesOf n text) (wipe D (b - a) a).2).1 ≠ 0 then layGo a D.S 0 (framesOf n text) (wipe D (b - a) a).2 else (layGo a D.S 0 (framesOf n text) (wipe D (b - a) a).2).2.flush

theorem framesOf_ok {n : Nat} (hn : n ≤ 1099511627776) {text : List UInt8} (ht : text.length ≤ 1000000) {f : Fr} (h : f ∈ framesOf n text) : encOk f.1 f.2.1 f.2.2.1 f.2.2.2.1 ∧ f.2.2.2.2.length ≤ 40 := by
  unfold framesOf at h
  simp only [List.cons_append, List.mem_cons, List.mem_append, List.mem_map, List.mem_range, List.not_mem_nil, or_false] at h
  unfold encOk
  rcases h with rfl | ⟨i, hi, rfl⟩ | rfl
  · simp; omega
  · simp only [List.length_take, List.length_drop]; omega
  · dsimp only
    have : (tailOf text).length = 8 := by simp [tailOf, leB_length]
    omega
theorem framesOf_len (n : Nat) (text : List UInt8) : (framesOf n text).length = (text.length + 39) / 40 + 2 := by simp [framesOf]

theorem slot_write0 (p r : Nat) (s : SR) (D : Dv) (ok : D.ok) (hs : s.size = D.S) (h : s.low < s.mid ∧ s.mid ≤ D.Z) (n : Nat) (hn : n ≤ 1099511627776) (text : Sl UInt8) (ht : text.xs.length ≤ 1000000) :
    Spec Tryz.prog 108 #[.pointer (some ⟨p, 0, none⟩), .int .i64 0, .int .i64 n, text.val] [slotC p r s, devO r D, roS text] (fun v L => v = .int .i64 (slotWrite D s.low s.mid n text.xs).1 ∧
      L = [slotC p r s, devO r (slotWrite D s.low s.mid n text.xs).2]) := by
  have z1 := ok.z1
  have s0 := ok.s0
  have s1 := ok.s1
  refine enter4 Tryz.func108 rfl (by decide) (by decide) ?_
  intro B F
  dsimp only [lcA, lnA]
  dsimp only [slotC]
  repeat' first | refine adv ?_ | refine Side.go ?_ | refine Giv.mk fun _ => ?_ | refine All.mk fun q => ?_ | refine Fork.mk ?_ ?_ | (refine Two.mk (fun h => ?_) (fun h => ?_) <;> try first | contradiction | (exfalso; omega))
  refine Sy_loop (ι := {st : Nat × Dv // (s.low ≤ st.1 ∧ st.1 ≤ s.mid) ∧ wipe D (s.mid - s.low) s.low = wipe st.2 (s.mid - st.1) st.1 ∧ st.2.ok ∧ st.2.Z = D.Z ∧ st.2.S = D.S})
    (fun st => [(9, .int .i64 st.1.1), (0, .pointer (some ⟨p, 0, none⟩)), (1, .int .i64 0), (2, .int .i64 n), (3, text.val)])
    (fun st => slotC p r s :: devO r st.1.2 :: roS text :: F) (fun st => s.mid - st.1.1) ⟨(s.low, D), ⟨Nat.le_refl _, by omega⟩, rfl, ok, rfl, rfl⟩ (evs rfl (evs rfl (evs rfl (evs rfl (evs rfl .nil))))) (fun w h => goes w h) ?_
  rintro ⟨⟨z, E⟩, hz, hgo, eok, eZ, eS⟩ env
  dsimp only [upds, slotC] at hz hgo eok eZ eS ⊢
  repeat' first | refine adv ?_ | refine Side.go ?_ | refine Giv.mk fun _ => ?_ | refine All.mk fun q => ?_ | refine Fork.mk ?_ ?_ | (refine Two.mk (fun h => ?_) (fun h => ?_) <;> try first | contradiction | (exfalso; omega))
  · have hp : E.pointer z = (((zoneOf E z).length : Int), 0) := by unfold Dv.pointer; rw [if_pos (by omega)]; rfl
    have hw : ∀ q : Int × Dv, q = wipe E (s.mid - z) z → q = if 0 < (E.pointer z).1 then (if (E.reset z).1 ≠ 0 then E.reset z else wipe (E.reset z).2 (s.mid - (z + 1)) (z + 1)) else wipe E (s.mid - (z + 1)) (z + 1) := by
      rintro q rfl
      have e : s.mid - z = (s.mid - (z + 1)) + 1 := by omega
      rw [e, wipe]
    have hw2 := hw _ hgo
    refine CallG.use (dev_pointer r E eok z) ?_
    rintro r M ⟨rfl, rfl⟩
    dsimp only [lcA, lnA]
    rw [hp] at hw2 ⊢
    repeat' first | refine adv ?_ | refine Side.go ?_ | refine Giv.mk fun _ => ?_ | refine All.mk fun q => ?_ | refine Fork.mk ?_ ?_ | (refine Two.mk (fun h => ?_) (fun h => ?_) <;> try first | contradiction | (exfalso; omega))
    · rw [if_pos (by omega)] at hw2
      refine CallG.use (dev_reset r E eok z) ?_
      rintro r M ⟨rfl, rfl⟩
      dsimp only [lcA, lnA]
      repeat' first | refine adv ?_ | refine Side.go ?_ | refine Giv.mk fun _ => ?_ | refine All.mk fun q => ?_ | refine Fork.mk ?_ ?_ | (refine Two.mk (fun h => ?_) (fun h => ?_) <;> try first | contradiction | (exfalso; omega))
      · rw [if_pos h] at hw2
        have e : slotWrite D s.low s.mid n text.xs = E.reset z := by unfold slotWrite; rw [hw2, if_pos h]
        rw [e]
        exact endQ.oneW Tryz.results108 ⟨rfl, rfl⟩ (fun w h => goes w h)
      · rw [if_neg h] at hw2
        have hgeo := E.reset_geo z
        refine loopQ.next ⟨(z + 1, (E.reset z).2), by dsimp only; omega, hw2, Dv.reset_ok eok _, by rw [hgeo.1, eZ], by rw [hgeo.2, eS]⟩ (by simp only []; omega) (evs rfl (evs rfl (evs rfl (evs rfl (evs rfl .nil))))) (fun w h => goes w h)
    · rw [if_neg (by omega)] at hw2
      refine loopQ.next ⟨(z + 1, E), by dsimp only; omega, hw2, eok, eZ, eS⟩ (by simp only []; omega) (evs rfl (evs rfl (evs rfl (evs rfl (evs rfl .nil))))) (fun w h => goes w h)
  · have hz3 : z = s.mid := by omega
    subst hz3
    rw [Nat.sub_self, wipe] at hgo
    have hcl : ∀ i, (text.xs.drop (40 * i)).take 40 = (text.xs.drop (40 * i)).take (min (40 * i + 40) text.xs.length - 40 * i) := by
      intro i
      rw [List.take_eq_take_iff, List.length_drop]
      omega
    refine Sy_loop (ι := {st : Nat × Sl Blk // st.1 ≤ (text.xs.length + 39) / 40 ∧ st.2.xs.map Blk.fr = (3, 0, n, 0, []) :: (List.range st.1).map fun i => (1, 0, n, 0, (text.xs.drop (40 * i)).take 40)})
      (fun st => [(14, .int .i64 ((40 * st.1.1 : Nat) : Int)), (13, st.1.2.val), (0, .pointer (some ⟨p, 0, none⟩)), (1, .int .i64 0), (2, .int .i64 n), (3, text.val)])
      (fun st => slotC p r s :: devO r E :: roS text :: ownS st.1.2 :: F) (fun st => (text.xs.length + 39) / 40 - st.1.1) ⟨(0, ⟨some ⟨q, 0, none⟩, 1, [⟨3, 0, n, 0, ⟨none, 0, []⟩⟩]⟩), Nat.zero_le _, rfl⟩ (evs rfl (evs rfl (evs rfl (evs rfl (evs rfl (evs rfl .nil)))))) (fun w h => ?_) ?_
    · have h1 : sat B (cells true q 0 [.int .i64 3, .int .i64 0, .int .i64 n, .int .i64 0, .slice none 0 0] :: roS (⟨none, 0, []⟩ : Sl UInt8) :: slotC p r s :: devO r E :: roS text :: F) w := goes w (sat_true (ro_nil (α := UInt8)) h)
      exact goes w (own_lit1 (⟨3, 0, n, 0, ⟨none, 0, []⟩⟩ : Blk) h1)
    rintro ⟨⟨k, l⟩, hk, hl⟩ env
    dsimp only [upds, slotC] at hk hl ⊢
    have hll : l.xs.length = k + 1 := by have := congrArg List.length hl; simpa using this
    repeat' first | refine adv ?_ | refine Side.go ?_ | refine Giv.mk fun _ => ?_ | refine All.mk fun q => ?_ | refine Fork.mk ?_ ?_ | (refine Two.mk (fun h => ?_) (fun h => ?_) <;> try first | contradiction | (exfalso; omega))
    · rename_i c2 q2 qa
      have hbody : (text.xs.take (min ((40 * k : Nat) + 40 : Int) text.xs.length).toNat).drop (40 * k) = (text.xs.drop (40 * k)).take 40 := by
        rw [List.drop_take, List.take_eq_take_iff, List.length_drop]
        omega
      rw [hbody]
      refine AppG.oneB l ⟨1, 0, n, 0, ⟨qa, text.c - 40 * k, (text.xs.drop (40 * k)).take 40⟩⟩ (by omega) (fun a c => ?_)
      repeat' first | refine adv ?_ | refine Side.go ?_ | refine Giv.mk fun _ => ?_ | refine All.mk fun q => ?_ | refine Fork.mk ?_ ?_ | (refine Two.mk (fun h => ?_) (fun h => ?_) <;> try first | contradiction | (exfalso; omega))
      refine loopQ.next ⟨(k + 1, ⟨a, c, l.xs ++ [⟨1, 0, n, 0, ⟨qa, text.c - 40 * k, (text.xs.drop (40 * k)).take 40⟩⟩]⟩), by dsimp only; omega, ?_⟩ (by simp only []; omega) (evs rfl (evs rfl (evs rfl (evs rfl (evs rfl (evs rfl .nil)))))) (fun w h => goes w h)
      · dsimp only
        rw [List.map_append, hl, List.range_succ, List.map_append]
        rfl
    · have hk3 : k = (text.xs.length + 39) / 40 := by omega
      refine CallG.use (slot_tail_ro text (by omega)) ?_
      rintro r M ⟨a, c, rfl, rfl⟩
      dsimp only [lcA, lnA]
      repeat' first | refine adv ?_ | refine Side.go ?_ | refine Giv.mk fun _ => ?_ | refine All.mk fun q => ?_ | refine Fork.mk ?_ ?_ | (refine Two.mk (fun h => ?_) (fun h => ?_) <;> try first | contradiction | (exfalso; omega))
      have hlk : ((l.xs.length : Int) - 1) = (k : Nat) := by omega
      rw [hlk]
      refine AppG.oneB l ⟨2, 0, n, k, ⟨a, c, tailOf text.xs⟩⟩ (by omega) (fun a2 c2 => ?_)
      have hfr : (l.xs ++ [(⟨2, 0, n, k, ⟨a, c, tailOf text.xs⟩⟩ : Blk)]).map Blk.fr = framesOf n text.xs := by
        rw [List.map_append, hl, hk3]; rfl
      generalize l.xs ++ [(⟨2, 0, n, k, ⟨a, c, tailOf text.xs⟩⟩ : Blk)] = fs at hfr ⊢
      have hfl : fs.length = (text.xs.length + 39) / 40 + 2 := by have := congrArg List.length hfr; rwa [List.length_map, framesOf_len] at this
      have hsp : 0 < s.size := by omega
      repeat' first | refine adv ?_ | refine Side.go ?_ | refine Giv.mk fun _ => ?_ | refine All.mk fun q => ?_ | refine Fork.mk ?_ ?_ | (refine Two.mk (fun h => ?_) (fun h => ?_) <;> try first | contradiction | (exfalso; omega))
      refine Sy_loop (ι := {st : Nat × Dv // st.1 ≤ fs.length ∧ layGo s.low D.S 0 (framesOf n text.xs) E = layGo s.low D.S st.1 ((framesOf n text.xs).drop st.1) st.2 ∧ st.2.ok ∧ st.2.Z = D.Z ∧ st.2.S = D.S})
        (fun st => [(90, .int .i64 st.1.1), (89, .int .i64 fs.length), (88, .slice a2 fs.length c2), (0, .pointer (some ⟨p, 0, none⟩)), (1, .int .i64 0)])
        (fun st => slotC p r s :: devO r st.1.2 :: roS (⟨a2, c2, fs⟩ : Sl Blk) :: F) (fun st => fs.length - st.1.1) ⟨(0, E), Nat.zero_le _, rfl, eok, eZ, eS⟩ (evs rfl (evs rfl (evs rfl (evs rfl (evs rfl .nil))))) (fun w h => goes w h) ?_
      rintro ⟨⟨j, G⟩, hj, hlay, gok, gZ, gS⟩ env
      dsimp only [upds, slotC] at hj hlay gok gZ gS ⊢
      repeat' first | refine adv ?_ | refine Side.go ?_ | refine Giv.mk fun _ => ?_ | refine All.mk fun q => ?_ | refine Fork.mk ?_ ?_ | (refine Two.mk (fun h => ?_) (fun h => ?_) <;> try first | contradiction | (exfalso; omega))
      · have hj2 : j < fs.length := by omega
        have hjf : j < (framesOf n text.xs).length := by rw [framesOf_len]; omega
        have hfj : fs[j].fr = (framesOf n text.xs)[j] := by simp only [← hfr, List.getElem_map]
        have hok := framesOf_ok hn ht (f := fs[j].fr) (by rw [hfj]; exact List.getElem_mem _)
        have hstep := hlay
        rw [List.drop_eq_getElem_cons hjf, ← hfj] at hstep
        dsimp only
        refine CallG_conv (L' := roS fs[j].b :: roS (⟨a2, c2, fs⟩ : Sl Blk) :: slotC p r s :: devO r G :: F) (fun B w h => (ro_pull (s := (⟨a2, c2, fs⟩ : Sl Blk)) hj2 (goes w h))) ?_
        dsimp only [slotC]
        generalize fs[j] = x at hok hstep ⊢
        dsimp only [Blk.fr] at hok hstep
        refine CallG.use (frame_encode x.k x.e x.s x.l x.b) ?_
        rintro v M (⟨-, a3, c3, rfl, rfl⟩ | ⟨hno, -⟩)
        · dsimp only [lcA, lnA]
          have hq1 : (j : Int) / (s.size : Int) = ((j / s.size : Nat) : Int) := rfl
          have hq2 : j / s.size ≤ j := Nat.div_le_self _ _
          have hq3 : (0 : Int) ≤ (j : Int) / (s.size : Int) := by rw [hq1]; exact Int.natCast_nonneg _
          have hq4 : (j : Int) / (s.size : Int) ≤ j := by rw [hq1]; exact Int.ofNat_le.2 hq2
          repeat' first | refine adv ?_ | refine Side.go ?_ | refine Giv.mk fun _ => ?_ | refine All.mk fun q => ?_ | refine Fork.mk ?_ ?_ | (refine Two.mk (fun h => ?_) (fun h => ?_) <;> try first | contradiction | (exfalso; omega))
          · have hdiv : (s.low : Int) + (j : Int) / (s.size : Int) = ((s.low + j / D.S : Nat) : Int) := by rw [← hs]; omega
            rw [hdiv]
            rw [layGo] at hstep
            refine CallG.use (dev_append r G gok ((s.low + j / D.S : Nat) : Int) ⟨a3, c3, encB x.k x.e x.s x.l x.b.xs⟩) ?_
            rintro r M ⟨rfl, rfl⟩
            dsimp only [lcA, lnA]
            have hgeo := G.append_geo ((s.low + j / D.S : Nat) : Int) (encB x.k x.e x.s x.l x.b.xs)
            have hok2 := Dv.append_ok gok ((s.low + j / D.S : Nat) : Int) (encB x.k x.e x.s x.l x.b.xs)
            dsimp only at hstep ⊢
            generalize G.append ((s.low + j / D.S : Nat) : Int) (encB x.k x.e x.s x.l x.b.xs) = res at hstep hgeo hok2 ⊢
            repeat' first | refine adv ?_ | refine Side.go ?_ | refine Giv.mk fun _ => ?_ | refine All.mk fun q => ?_ | refine Fork.mk ?_ ?_ | (refine Two.mk (fun h => ?_) (fun h => ?_) <;> try first | contradiction | (exfalso; omega))
            · rw [if_pos h] at hstep
              have e : slotWrite D s.low s.mid n text.xs = res.2 := by unfold slotWrite; rw [hgo]; dsimp only; rw [if_neg (by simp), hstep, if_pos h]
              rw [e]
              exact endQ.oneW Tryz.results108 ⟨rfl, rfl⟩ (fun w h => goes w h)
            · rw [if_neg h] at hstep
              refine loopQ.next ⟨(j + 1, res.2.2), by dsimp only; omega, hstep, hok2, by rw [hgeo.1, gZ], by rw [hgeo.2, gS]⟩ (by simp only []; omega) (evs rfl (evs rfl (evs rfl (evs rfl (evs rfl .nil))))) (fun w h => goes w h)
        · exact absurd hok hno
      · have hj3 : j = fs.length := by omega
        rw [hj3, hfl, ← framesOf_len n text.xs, List.drop_length, layGo] at hlay
        refine CallG.use (dev_flush r G gok) ?_
        rintro r M ⟨rfl, rfl⟩
        dsimp only [lcA, lnA]
        repeat' first | refine adv ?_ | refine Side.go ?_ | refine Giv.mk fun _ => ?_ | refine All.mk fun q => ?_ | refine Fork.mk ?_ ?_ | (refine Two.mk (fun h => ?_) (fun h => ?_) <;> try first | contradiction | (exfalso; omega))
        have e : slotWrite D s.low s.mid n text.xs = G.flush := by unfold slotWrite; rw [hgo]; dsimp only; rw [if_neg (by simp), hlay]; dsimp only; rw [if_neg (by simp)]
        rw [e]
        exact endQ.oneW Tryz.results108 ⟨rfl, rfl⟩ (fun w h => goes w h)
theorem slot_write1 (p r : Nat) (s : SR) (D : Dv) (ok : D.ok) (hs : s.size = D.S) (h : s.mid < s.high ∧ s.high ≤ D.Z) (n : Nat) (hn : n ≤ 1099511627776) (text : Sl UInt8) (ht : text.xs.length ≤ 1000000) :
    Spec Tryz.prog 108 #[.pointer (some ⟨p, 0, none⟩), .int .i64 1, .int .i64 n, text.val] [slotC p r s, devO r D, roS text] (fun v L => v = .int .i64 (slotWrite D s.mid s.high n text.xs).1 ∧
      L = [slotC p r s, devO r (slotWrite D s.mid s.high n text.xs).2]) := by
  have z1 := ok.z1
  have s0 := ok.s0
  have s1 := ok.s1
  refine enter4 Tryz.func108 rfl (by decide) (by decide) ?_
  intro B F
  dsimp only [lcA, lnA]
  dsimp only [slotC]
  repeat' first | refine adv ?_ | refine Side.go ?_ | refine Giv.mk fun _ => ?_ | refine All.mk fun q => ?_ | refine Fork.mk ?_ ?_ | (refine Two.mk (fun h => ?_) (fun h => ?_) <;> try first | contradiction | (exfalso; omega))
  refine Sy_loop (ι := {st : Nat × Dv // (s.mid ≤ st.1 ∧ st.1 ≤ s.high) ∧ wipe D (s.high - s.mid) s.mid = wipe st.2 (s.high - st.1) st.1 ∧ st.2.ok ∧ st.2.Z = D.Z ∧ st.2.S = D.S})
    (fun st => [(9, .int .i64 st.1.1), (0, .pointer (some ⟨p, 0, none⟩)), (1, .int .i64 1), (2, .int .i64 n), (3, text.val)])
    (fun st => slotC p r s :: devO r st.1.2 :: roS text :: F) (fun st => s.high - st.1.1) ⟨(s.mid, D), ⟨Nat.le_refl _, by omega⟩, rfl, ok, rfl, rfl⟩ (evs rfl (evs rfl (evs rfl (evs rfl (evs rfl .nil))))) (fun w h => goes w h) ?_
  rintro ⟨⟨z, E⟩, hz, hgo, eok, eZ, eS⟩ env
  dsimp only [upds, slotC] at hz hgo eok eZ eS ⊢
  repeat' first | refine adv ?_ | refine Side.go ?_ | refine Giv.mk fun _ => ?_ | refine All.mk fun q => ?_ | refine Fork.mk ?_ ?_ | (refine Two.mk (fun h => ?_) (fun h => ?_) <;> try first | contradiction | (exfalso; omega))
  · have hp : E.pointer z = (((zoneOf E z).length : Int), 0) := by unfold Dv.pointer; rw [if_pos (by omega)]; rfl
    have hw : ∀ q : Int × Dv, q = wipe E (s.high - z) z → q = if 0 < (E.pointer z).1 then (if (E.reset z).1 ≠ 0 then E.reset z else wipe (E.reset z).2 (s.high - (z + 1)) (z + 1)) else wipe E (s.high - (z + 1)) (z + 1) := by
      rintro q rfl
      have e : s.high - z = (s.high - (z + 1)) + 1 := by omega
      rw [e, wipe]
    have hw2 := hw _ hgo
    refine CallG.use (dev_pointer r E eok z) ?_
    rintro r M ⟨rfl, rfl⟩
    dsimp only [lcA, lnA]
    rw [hp] at hw2 ⊢
    repeat' first | refine adv ?_ | refine Side.go ?_ | refine Giv.mk fun _ => ?_ | refine All.mk fun q => ?_ | refine Fork.mk ?_ ?_ | (refine Two.mk (fun h => ?_) (fun h => ?_) <;> try first | contradiction | (exfalso; omega))
    · rw [if_pos (by omega)] at hw2
      refine CallG.use (dev_reset r E eok z) ?_
      rintro r M ⟨rfl, rfl⟩
      dsimp only [lcA, lnA]
      repeat' first | refine adv ?_ | refine Side.go ?_ | refine Giv.mk fun _ => ?_ | refine All.mk fun q => ?_ | refine Fork.mk ?_ ?_ | (refine Two.mk (fun h => ?_) (fun h => ?_) <;> try first | contradiction | (exfalso; omega))
      · rw [if_pos h] at hw2
        have e : slotWrite D s.mid s.high n text.xs = E.reset z := by unfold slotWrite; rw [hw2, if_pos h]
        rw [e]
        exact endQ.oneW Tryz.results108 ⟨rfl, rfl⟩ (fun w h => goes w h)
      · rw [if_neg h] at hw2
        have hgeo := E.reset_geo z
        refine loopQ.next ⟨(z + 1, (E.reset z).2), by dsimp only; omega, hw2, Dv.reset_ok eok _, by rw [hgeo.1, eZ], by rw [hgeo.2, eS]⟩ (by simp only []; omega) (evs rfl (evs rfl (evs rfl (evs rfl (evs rfl .nil))))) (fun w h => goes w h)
    · rw [if_neg (by omega)] at hw2
      refine loopQ.next ⟨(z + 1, E), by dsimp only; omega, hw2, eok, eZ, eS⟩ (by simp only []; omega) (evs rfl (evs rfl (evs rfl (evs rfl (evs rfl .nil))))) (fun w h => goes w h)
  · have hz3 : z = s.high := by omega
    subst hz3
    rw [Nat.sub_self, wipe] at hgo
    have hcl : ∀ i, (text.xs.drop (40 * i)).take 40 = (text.xs.drop (40 * i)).take (min (40 * i + 40) text.xs.length - 40 * i) := by
      intro i
      rw [List.take_eq_take_iff, List.length_drop]
      omega
    refine Sy_loop (ι := {st : Nat × Sl Blk // st.1 ≤ (text.xs.length + 39) / 40 ∧ st.2.xs.map Blk.fr = (3, 0, n, 0, []) :: (List.range st.1).map fun i => (1, 0, n, 0, (text.xs.drop (40 * i)).take 40)})
      (fun st => [(14, .int .i64 ((40 * st.1.1 : Nat) : Int)), (13, st.1.2.val), (0, .pointer (some ⟨p, 0, none⟩)), (1, .int .i64 1), (2, .int .i64 n), (3, text.val)])
      (fun st => slotC p r s :: devO r E :: roS text :: ownS st.1.2 :: F) (fun st => (text.xs.length + 39) / 40 - st.1.1) ⟨(0, ⟨some ⟨q, 0, none⟩, 1, [⟨3, 0, n, 0, ⟨none, 0, []⟩⟩]⟩), Nat.zero_le _, rfl⟩ (evs rfl (evs rfl (evs rfl (evs rfl (evs rfl (evs rfl .nil)))))) (fun w h => ?_) ?_
    · have h1 : sat B (cells true q 0 [.int .i64 3, .int .i64 0, .int .i64 n, .int .i64 0, .slice none 0 0] :: roS (⟨none, 0, []⟩ : Sl UInt8) :: slotC p r s :: devO r E :: roS text :: F) w := goes w (sat_true (ro_nil (α := UInt8)) h)
      exact goes w (own_lit1 (⟨3, 0, n, 0, ⟨none, 0, []⟩⟩ : Blk) h1)
    rintro ⟨⟨k, l⟩, hk, hl⟩ env
    dsimp only [upds, slotC] at hk hl ⊢
    have hll : l.xs.length = k + 1 := by have := congrArg List.length hl; simpa using this
    repeat' first | refine adv ?_ | refine Side.go ?_ | refine Giv.mk fun _ => ?_ | refine All.mk fun q => ?_ | refine Fork.mk ?_ ?_ | (refine Two.mk (fun h => ?_) (fun h => ?_) <;> try first | contradiction | (exfalso; omega))
    · rename_i c2 q2 qa
      have hbody : (text.xs.take (min ((40 * k : Nat) + 40 : Int) text.xs.length).toNat).drop (40 * k) = (text.xs.drop (40 * k)).take 40 := by
        rw [List.drop_take, List.take_eq_take_iff, List.length_drop]
        omega
      rw [hbody]
      refine AppG.oneB l ⟨1, 0, n, 0, ⟨qa, text.c - 40 * k, (text.xs.drop (40 * k)).take 40⟩⟩ (by omega) (fun a c => ?_)
      repeat' first | refine adv ?_ | refine Side.go ?_ | refine Giv.mk fun _ => ?_ | refine All.mk fun q => ?_ | refine Fork.mk ?_ ?_ | (refine Two.mk (fun h => ?_) (fun h => ?_) <;> try first | contradiction | (exfalso; omega))
      refine loopQ.next ⟨(k + 1, ⟨a, c, l.xs ++ [⟨1, 0, n, 0, ⟨qa, text.c - 40 * k, (text.xs.drop (40 * k)).take 40⟩⟩]⟩), by dsimp only; omega, ?_⟩ (by simp only []; omega) (evs rfl (evs rfl (evs rfl (evs rfl (evs rfl (evs rfl .nil)))))) (fun w h => goes w h)
      · dsimp only
        rw [List.map_append, hl, List.range_succ, List.map_append]
        rfl
    · have hk3 : k = (text.xs.length + 39) / 40 := by omega
      refine CallG.use (slot_tail_ro text (by omega)) ?_
      rintro r M ⟨a, c, rfl, rfl⟩
      dsimp only [lcA, lnA]
      repeat' first | refine adv ?_ | refine Side.go ?_ | refine Giv.mk fun _ => ?_ | refine All.mk fun q => ?_ | refine Fork.mk ?_ ?_ | (refine Two.mk (fun h => ?_) (fun h => ?_) <;> try first | contradiction | (exfalso; omega))
      have hlk : ((l.xs.length : Int) - 1) = (k : Nat) := by omega
      rw [hlk]
      refine AppG.oneB l ⟨2, 0, n, k, ⟨a, c, tailOf text.xs⟩⟩ (by omega) (fun a2 c2 => ?_)
      have hfr : (l.xs ++ [(⟨2, 0, n, k, ⟨a, c, tailOf text.xs⟩⟩ : Blk)]).map Blk.fr = framesOf n text.xs := by
        rw [List.map_append, hl, hk3]; rfl
      generalize l.xs ++ [(⟨2, 0, n, k, ⟨a, c, tailOf text.xs⟩⟩ : Blk)] = fs at hfr ⊢
      have hfl : fs.length = (text.xs.length + 39) / 40 + 2 := by have := congrArg List.length hfr; rwa [List.length_map, framesOf_len] at this
      have hsp : 0 < s.size := by omega
      repeat' first | refine adv ?_ | refine Side.go ?_ | refine Giv.mk fun _ => ?_ | refine All.mk fun q => ?_ | refine Fork.mk ?_ ?_ | (refine Two.mk (fun h => ?_) (fun h => ?_) <;> try first | contradiction | (exfalso; omega))
      refine Sy_loop (ι := {st : Nat × Dv // st.1 ≤ fs.length ∧ layGo s.mid D.S 0 (framesOf n text.xs) E = layGo s.mid D.S st.1 ((framesOf n text.xs).drop st.1) st.2 ∧ st.2.ok ∧ st.2.Z = D.Z ∧ st.2.S = D.S})
        (fun st => [(90, .int .i64 st.1.1), (89, .int .i64 fs.length), (88, .slice a2 fs.length c2), (0, .pointer (some ⟨p, 0, none⟩)), (1, .int .i64 1)])
        (fun st => slotC p r s :: devO r st.1.2 :: roS (⟨a2, c2, fs⟩ : Sl Blk) :: F) (fun st => fs.length - st.1.1) ⟨(0, E), Nat.zero_le _, rfl, eok, eZ, eS⟩ (evs rfl (evs rfl (evs rfl (evs rfl (evs rfl .nil))))) (fun w h => goes w h) ?_
      rintro ⟨⟨j, G⟩, hj, hlay, gok, gZ, gS⟩ env
      dsimp only [upds, slotC] at hj hlay gok gZ gS ⊢
      repeat' first | refine adv ?_ | refine Side.go ?_ | refine Giv.mk fun _ => ?_ | refine All.mk fun q => ?_ | refine Fork.mk ?_ ?_ | (refine Two.mk (fun h => ?_) (fun h => ?_) <;> try first | contradiction | (exfalso; omega))
      · have hj2 : j < fs.length := by omega
        have hjf : j < (framesOf n text.xs).length := by rw [framesOf_len]; omega
        have hfj : fs[j].fr = (framesOf n text.xs)[j] := by simp only [← hfr, List.getElem_map]
        have hok := framesOf_ok hn ht (f := fs[j].fr) (by rw [hfj]; exact List.getElem_mem _)
        have hstep := hlay
        rw [List.drop_eq_getElem_cons hjf, ← hfj] at hstep
        dsimp only
        refine CallG_conv (L' := roS fs[j].b :: roS (⟨a2, c2, fs⟩ : Sl Blk) :: slotC p r s :: devO r G :: F) (fun B w h => (ro_pull (s := (⟨a2, c2, fs⟩ : Sl Blk)) hj2 (goes w h))) ?_
        dsimp only [slotC]
        generalize fs[j] = x at hok hstep ⊢
        dsimp only [Blk.fr] at hok hstep
        refine CallG.use (frame_encode x.k x.e x.s x.l x.b) ?_
        rintro v M (⟨-, a3, c3, rfl, rfl⟩ | ⟨hno, -⟩)
        · dsimp only [lcA, lnA]
          have hq1 : (j : Int) / (s.size : Int) = ((j / s.size : Nat) : Int) := rfl
          have hq2 : j / s.size ≤ j := Nat.div_le_self _ _
          have hq3 : (0 : Int) ≤ (j : Int) / (s.size : Int) := by rw [hq1]; exact Int.natCast_nonneg _
          have hq4 : (j : Int) / (s.size : Int) ≤ j := by rw [hq1]; exact Int.ofNat_le.2 hq2
          repeat' first | refine adv ?_ | refine Side.go ?_ | refine Giv.mk fun _ => ?_ | refine All.mk fun q => ?_ | refine Fork.mk ?_ ?_ | (refine Two.mk (fun h => ?_) (fun h => ?_) <;> try first | contradiction | (exfalso; omega))
          · have hdiv : (s.mid : Int) + (j : Int) / (s.size : Int) = ((s.mid + j / D.S : Nat) : Int) := by rw [← hs]; omega
            rw [hdiv]
            rw [layGo] at hstep
            refine CallG.use (dev_append r G gok ((s.mid + j / D.S : Nat) : Int) ⟨a3, c3, encB x.k x.e x.s x.l x.b.xs⟩) ?_
            rintro r M ⟨rfl, rfl⟩
            dsimp only [lcA, lnA]
            have hgeo := G.append_geo ((s.mid + j / D.S : Nat) : Int) (encB x.k x.e x.s x.l x.b.xs)
            have hok2 := Dv.append_ok gok ((s.mid + j / D.S : Nat) : Int) (encB x.k x.e x.s x.l x.b.xs)
            dsimp only at hstep ⊢
            generalize G.append ((s.mid + j / D.S : Nat) : Int) (encB x.k x.e x.s x.l x.b.xs) = res at hstep hgeo hok2 ⊢
            repeat' first | refine adv ?_ | refine Side.go ?_ | refine Giv.mk fun _ => ?_ | refine All.mk fun q => ?_ | refine Fork.mk ?_ ?_ | (refine Two.mk (fun h => ?_) (fun h => ?_) <;> try first | contradiction | (exfalso; omega))
            · rw [if_pos h] at hstep
              have e : slotWrite D s.mid s.high n text.xs = res.2 := by unfold slotWrite; rw [hgo]; dsimp only; rw [if_neg (by simp), hstep, if_pos h]
              rw [e]
              exact endQ.oneW Tryz.results108 ⟨rfl, rfl⟩ (fun w h => goes w h)
            · rw [if_neg h] at hstep
              refine loopQ.next ⟨(j + 1, res.2.2), by dsimp only; omega, hstep, hok2, by rw [hgeo.1, gZ], by rw [hgeo.2, gS]⟩ (by simp only []; omega) (evs rfl (evs rfl (evs rfl (evs rfl (evs rfl .nil))))) (fun w h => goes w h)
        · exact absurd hok hno
      · have hj3 : j = fs.length := by omega
        rw [hj3, hfl, ← framesOf_len n text.xs, List.drop_length, layGo] at hlay
        refine CallG.use (dev_flush r G gok) ?_
        rintro r M ⟨rfl, rfl⟩
        dsimp only [lcA, lnA]
        repeat' first | refine adv ?_ | refine Side.go ?_ | refine Giv.mk fun _ => ?_ | refine All.mk fun q => ?_ | refine Fork.mk ?_ ?_ | (refine Two.mk (fun h => ?_) (fun h => ?_) <;> try first | contradiction | (exfalso; omega))
        have e : slotWrite D s.mid s.high n text.xs = G.flush := by unfold slotWrite; rw [hgo]; dsimp only; rw [if_neg (by simp), hlay]; dsimp only; rw [if_neg (by simp)]
        rw [e]
        exact endQ.oneW Tryz.results108 ⟨rfl, rfl⟩ (fun w h => goes w h)
def SR.at (s : SR) (i : Nat) : Nat := if i = 0 then s.low else if i = 1 then s.mid else s.high
theorem slot_writeI (p r : Nat) (s : SR) (D : Dv) (ok : D.ok) (hs : s.size = D.S) (h : s.low < s.mid ∧ s.mid < s.high ∧ s.high ≤ D.Z) (n : Nat) (hn : n ≤ 1099511627776) (text : Sl UInt8) (ht : text.xs.length ≤ 1000000) (i : Nat) (hi : i < 2) :
    Spec Tryz.prog 108 #[.pointer (some ⟨p, 0, none⟩), .int .i64 i, .int .i64 n, text.val] [slotC p r s, devO r D, roS text] (fun v L => v = .int .i64 (slotWrite D (s.at i) (s.at (i + 1)) n text.xs).1 ∧
      L = [slotC p r s, devO r (slotWrite D (s.at i) (s.at (i + 1)) n text.xs).2]) := by
  rcases i with _ | _ | i
  · exact slot_write0 p r s D ok hs ⟨h.1, by omega⟩ n hn text ht
  · exact slot_write1 p r s D ok hs ⟨h.2.1, by omega⟩ n hn text ht
  · omega

end Go.SL
namespace Go.SL
open Go.Proofs
set_option synthInstance.maxSize 4000
set_option synthInstance.maxHeartbeats 400000
set_option maxRecDepth 4000
set_option maxHeartbeats 2000000

def SR.room (s : SR) : Nat := 40 * (min (s.mid - s.low) (s.high - s.mid) * s.size - 2)
def saveOf (s : SR) (D : Dv) (text : Sl UInt8) (new : Sl UInt8) : Int × SR × Dv :=
  if s.room < text.xs.length then (7, s, D) else if s.off = true then (12, s, D) else
  if (slotWrite D (s.at (1 - s.inn)) (s.at (1 - s.inn + 1)) (s.count + 1) text.xs).1 ≠ 0 then
    ((slotWrite D (s.at (1 - s.inn)) (s.at (1 - s.inn + 1)) (s.count + 1) text.xs).1, { s with off := true }, (slotWrite D (s.at (1 - s.inn)) (s.at (1 - s.inn + 1)) (s.count + 1) text.xs).2)
  else (0, { s with inn := 1 - s.inn, text := new, count := s.count + 1 }, (slotWrite D (s.at (1 - s.inn)) (s.at (1 - s.inn + 1)) (s.count + 1) text.xs).2)

theorem slot_save (p r : Nat) (s : SR) (D : Dv) (ok : D.ok) (hs : s.size = D.S) (hlay : s.low < s.mid ∧ s.mid < s.high ∧ s.high ≤ D.Z) (hin : s.inn < 2) (hn : s.count < 1099511627776) (text : Sl UInt8) (ht : text.xs.length ≤ 1000000) :
    Spec Tryz.prog 57 #[.pointer (some ⟨p, 0, none⟩), text.val] [slotC p r s, roS s.text, devO r D, roS text] (fun v L => ∃ new : Sl UInt8, new.xs = text.xs ∧ v = .int .i64 (saveOf s D text new).1 ∧
      L = [slotC p r (saveOf s D text new).2.1, roS (saveOf s D text new).2.1.text, devO r (saveOf s D text new).2.2]) := by
  have z1 := ok.z1
  have s0 := ok.s0
  have s1 := ok.s1
  refine enter2 Tryz.func57 rfl (by decide) (by decide) ?_
  intro B F
  dsimp only [lcA, lnA]
  dsimp only [slotC]
  repeat' first | refine adv ?_ | refine Side.go ?_ | refine Giv.mk fun _ => ?_ | refine All.mk fun q => ?_ | refine Fork.mk ?_ ?_ | (refine Two.mk (fun h => ?_) (fun h => ?_) <;> try first | contradiction | (exfalso; omega))
  refine CallG.use (slot_room p r s ⟨hlay.1, hlay.2.1, by omega, by omega, by omega⟩) ?_
  rintro r M ⟨rfl, rfl⟩
  dsimp only [lcA, lnA]
  dsimp only [slotC]
  repeat' first | refine adv ?_ | refine Side.go ?_ | refine Giv.mk fun _ => ?_ | refine All.mk fun q => ?_ | refine Fork.mk ?_ ?_ | (refine Two.mk (fun h => ?_) (fun h => ?_) <;> try first | contradiction | (exfalso; omega))
  · have e : ∀ new, saveOf s D text new = (7, s, D) := fun new => by unfold saveOf SR.room; rw [if_pos (by omega)]
    refine endQ.oneW Tryz.results57 ⟨text, rfl, by rw [e], rfl⟩ (fun w h => ?_)
    rw [e]; exact goes w h
  · have e0 : ¬ s.room < text.xs.length := by unfold SR.room; omega
    refine CallG.use (slot_dead p r s) ?_
    rintro r M ⟨rfl, rfl⟩
    dsimp only [lcA, lnA]
    dsimp only [slotC]
    repeat' first | refine adv ?_ | refine Side.go ?_ | refine Giv.mk fun _ => ?_ | refine All.mk fun q => ?_ | refine Fork.mk ?_ ?_ | (refine Two.mk (fun h => ?_) (fun h => ?_) <;> try first | contradiction | (exfalso; omega))
    · have e : ∀ new, saveOf s D text new = (12, s, D) := fun new => by unfold saveOf; rw [if_neg e0, if_pos ‹s.off = true›]
      refine endQ.oneW Tryz.results57 ⟨text, rfl, by rw [e], rfl⟩ (fun w h => ?_)
      rw [e]; exact goes w h
    · have hi1 : (1 : Int) - (s.inn : Int) = ((1 - s.inn : Nat) : Int) := by omega
      have hc1 : (s.count : Int) + 1 = ((s.count + 1 : Nat) : Int) := by omega
      have hof : ¬ s.off = true := by assumption
      have e2 : ∀ new, saveOf s D text new = if (slotWrite D (s.at (1 - s.inn)) (s.at (1 - s.inn + 1)) (s.count + 1) text.xs).1 ≠ 0 then
          ((slotWrite D (s.at (1 - s.inn)) (s.at (1 - s.inn + 1)) (s.count + 1) text.xs).1, { s with off := true }, (slotWrite D (s.at (1 - s.inn)) (s.at (1 - s.inn + 1)) (s.count + 1) text.xs).2)
        else (0, { s with inn := 1 - s.inn, text := new, count := s.count + 1 }, (slotWrite D (s.at (1 - s.inn)) (s.at (1 - s.inn + 1)) (s.count + 1) text.xs).2) := fun new => by unfold saveOf; rw [if_neg e0, if_neg hof]
      rw [hi1, hc1]
      refine CallG.use (slot_writeI p r s D ok hs hlay (s.count + 1) (by omega) text ht (1 - s.inn) (by omega)) ?_
      rintro r M ⟨rfl, rfl⟩
      dsimp only [lcA, lnA]
      dsimp only [slotC]
      generalize slotWrite D (s.at (1 - s.inn)) (s.at (1 - s.inn + 1)) (s.count + 1) text.xs = res at e2 ⊢
      repeat' first | refine adv ?_ | refine Side.go ?_ | refine Giv.mk fun _ => ?_ | refine All.mk fun q => ?_ | refine Fork.mk ?_ ?_ | (refine Two.mk (fun h => ?_) (fun h => ?_) <;> try first | contradiction | (exfalso; omega))
      · refine endQ.oneW Tryz.results57 ⟨text, rfl, by rw [e2, if_pos h], rfl⟩ (fun w h2 => ?_)
        rw [e2, if_pos h]; exact goes w h2
      · have hi2 : (1 : Int) - (s.inn : Int) = ((1 - s.inn : Nat) : Int) := by omega
        refine CallG.use (clone_bytes text) ?_
        rintro r M ⟨a, c, rfl, rfl⟩
        dsimp only [lcA, lnA]
        repeat' first | refine adv ?_ | refine Side.go ?_ | refine Giv.mk fun _ => ?_ | refine All.mk fun q => ?_ | refine Fork.mk ?_ ?_ | (refine Two.mk (fun h => ?_) (fun h => ?_) <;> try first | contradiction | (exfalso; omega))
        rw [hi2, hc1]
        repeat' first | refine adv ?_ | refine Side.go ?_ | refine Giv.mk fun _ => ?_ | refine All.mk fun q => ?_ | refine Fork.mk ?_ ?_ | (refine Two.mk (fun h => ?_) (fun h => ?_) <;> try first | contradiction | (exfalso; omega))
        refine endQ.oneW Tryz.results57 ⟨⟨a, c, text.xs⟩, rfl, by rw [e2, if_neg h], rfl⟩ (fun w h2 => ?_)
        rw [e2, if_neg h]; exact goes w h2
end Go.SL
namespace Go.SL

def stamp (ks : List Int) (bs : List Nat) (k : Int) : Nat := (bs[ks.idxOf k]?).getD 0

/-- A map of its own, whose entries' stamps are known. -/
def mapB (r : Nat) (es : List (Int × Value)) (bs : List Nat) (ck : Nat) : HProp := fun h => ∃ ms : Array MapEntry, (Ents es ms ck ∧ ms.toList.map (·.born) = bs) ∧ h (.obj r) = some (true, .obj (.map ms ck))
/-- An iterator over a map; which keys it has given, and which not yet. -/
def iterO (i m : Nat) (ks : List Int) (bs : List Nat) (ck : Nat) (done rest : List Int) : HProp := fun h =>
  (done ++ rest).Perm ks ∧ h (.obj i) = some (true, .obj (.mapIter (some m) ck (done.map (stamp ks bs)).toArray ck))

section
variable {P : Program} {env : Env} {ty : TypeId} {L : List HProp} {B : World}

theorem mapB_open {r : Nat} {es : List (Int × Value)} {bs : List Nat} {ck : Nat} {w : World} (hs : sat B (mapB r es bs ck :: L) w) : ∃ ms, (Ents es ms ck ∧ ms.toList.map (·.born) = bs) ∧ sat B (object true r (.map ms ck) :: L) w := by
  obtain ⟨b, h, ⟨h₁, h₂, c, e, ⟨ms, he, ho⟩, l⟩, hr⟩ := hs
  exact ⟨ms, he, b, h, ⟨h₁, h₂, c, e, ⟨ho, rfl⟩, l⟩, hr⟩
theorem mapB_close {r : Nat} {es : List (Int × Value)} {bs : List Nat} {ms : Array MapEntry} {ck : Nat} {w : World} (he : Ents es ms ck) (hb : ms.toList.map (·.born) = bs) (hs : sat B (object true r (.map ms ck) :: L) w) : sat B (mapB r es bs ck :: L) w :=
  hs.head fun h a => ⟨ms, ⟨he, hb⟩, a.1⟩
theorem mapO_of {r : Nat} {es : List (Int × Value)} {bs : List Nat} {ck : Nat} {w : World} (hs : sat B (mapB r es bs ck :: L) w) : sat B (mapO r es :: L) w := by
  obtain ⟨ms, he, hs'⟩ := mapB_open hs
  exact mapO_close he.1 hs'
theorem iterO_open {i m : Nat} {ks : List Int} {bs : List Nat} {ck : Nat} {done rest : List Int} {w : World} (hs : sat B (iterO i m ks bs ck done rest :: L) w) : (done ++ rest).Perm ks ∧ sat B (object true i (.mapIter (some m) ck (done.map (stamp ks bs)).toArray ck) :: L) w := by
  obtain ⟨b, h, ⟨h₁, h₂, c, e, ⟨hp, ho⟩, l⟩, hr⟩ := hs
  exact ⟨hp, b, h, ⟨h₁, h₂, c, e, ⟨ho, rfl⟩, l⟩, hr⟩
theorem iterO_close {i m : Nat} {ks : List Int} {bs : List Nat} {ck : Nat} {done rest : List Int} {w : World} (hp : (done ++ rest).Perm ks) (hs : sat B (object true i (.mapIter (some m) ck (done.map (stamp ks bs)).toArray ck) :: L) w) : sat B (iterO i m ks bs ck done rest :: L) w :=
  hs.head fun h a => ⟨hp, a.1⟩

/-- What the stamps tell. -/
theorem stamp_at {ks : List Int} {bs : List Nat} (hk : ks.Nodup) {j : Nat} (hj : j < ks.length) (hb : bs.length = ks.length) : stamp ks bs ks[j] = bs[j]'(by omega) := by
  unfold stamp
  rw [hk.idxOf_getElem j hj, List.getElem?_eq_getElem (by omega)]
  rfl

theorem mget_at {es : List (Int × Value)} (hn : (es.map (·.1)).Nodup) {j : Nat} (hj : j < es.length) : mget es es[j].1 = some es[j].2 := by
  unfold mget
  have : es.find? (fun e => e.1 == es[j].1) = some es[j] := by
    rw [List.find?_eq_some_iff_getElem]
    refine ⟨by simp, j, hj, rfl, fun i hi => ?_⟩
    have hne : es[i].1 ≠ es[j].1 := by
      intro h
      have h1 : (es.map (·.1))[i]'(by simp; omega) = (es.map (·.1))[j]'(by simpa using hj) := by simpa using h
      have := (List.getElem_inj hn).1 h1
      omega
    simpa using hne
  rw [this]; rfl

theorem choose_run {α : Type} (n : Nat) (hn : 0 < n) (k : Nat → Sem α) (w : World) : ∃ t w', t < n ∧ (Sem.choose (.mapNext n) k).run P w = (k t).run P w' ∧ (w' = w ∨ w' = { w with drawn := w.drawn + 1 }) := by
  by_cases h : n ≤ 1
  · exact ⟨0, w, hn, by simp [Sem.run, Question.forced, h], .inl rfl⟩
  · exact ⟨w.tape w.drawn (.mapNext n) % n, _, Nat.mod_lt _ hn, by simp only [Sem.run, Question.forced, Question.cut, h, decide_false, Bool.false_eq_true, if_false], .inr rfl⟩

theorem next_run {i m : Nat} {es : List (Int × Value)} {bs : List Nat} {ck : Nat} {done rest : List Int} {w : World} (hs : sat B (mapB m es bs ck :: iterO i m (es.map (·.1)) bs ck done rest :: L) w) :
    ∃ v w', (Instr.next (.pointer (some ⟨i, 0, none⟩)) false ty).run P w = .ok v w' ∧
      ((rest = [] ∧ v = .tuple #[.bool false] ∧ sat B (mapB m es bs ck :: iterO i m (es.map (·.1)) bs ck done rest :: L) w') ∨
       (∃ k x rest', rest.Perm (k :: rest') ∧ mget es k = some x ∧ v = .tuple #[.bool true, .int .i64 k, x] ∧
         sat B (mapB m es bs ck :: iterO i m (es.map (·.1)) bs ck (done ++ [k]) rest' :: L) w')) := by
  obtain ⟨ms, ⟨he, hb⟩, h1⟩ := mapB_open hs
  obtain ⟨hp, h2⟩ := iterO_open (h1.perm (.swap _ _ _))
  have hgi := h2.obj
  have hgm := (h2.perm (.swap _ _ _)).obj
  have hlen : ms.toList.length = es.length := by have := congrArg List.length he.same; simpa using this
  have hblen : bs.length = (es.map (·.1)).length := by rw [← hb]; simp; simpa using hlen
  have hnd : (done ++ rest).Nodup := hp.nodup_iff.2 he.nodup
  -- what an entry is
  have hat : ∀ j (hj : j < es.length), ∃ hm : j < ms.toList.length, ms.toList[j].key = .int .i64 es[j].1 ∧ ms.toList[j].val = es[j].2 ∧ ms.toList[j].born = stamp (es.map (·.1)) bs es[j].1 := by
    intro j hj
    have hm : j < ms.toList.length := by omega
    refine ⟨hm, ?_⟩
    have e1 := congrArg (·[j]?) he.same
    simp only [List.getElem?_map, List.getElem?_eq_getElem hm, List.getElem?_eq_getElem hj, Option.map_some, Option.some.injEq, Prod.mk.injEq] at e1
    refine ⟨e1.1, e1.2, ?_⟩
    have e2 := stamp_at he.nodup (j := j) (by simpa using hj) hblen
    simp only [List.getElem_map] at e2
    rw [e2]
    subst hb
    simp
  have hin : ∀ j (hj : j < es.length) (hm : j < ms.toList.length), ((done.map (stamp (es.map (·.1)) bs)).toArray.contains ms.toList[j].born = true ↔ es[j].1 ∈ done) := by
    intro j hj hm
    obtain ⟨_, -, -, e3⟩ := hat j hj
    rw [e3, Array.contains_iff_mem]
    simp only [List.mem_toArray, List.mem_map]
    constructor
    · rintro ⟨k, hk, e⟩
      have hkm : k ∈ es.map (·.1) := hp.subset (List.mem_append_left _ hk)
      obtain ⟨j', hj', rfl⟩ := List.getElem_of_mem hkm
      have hj2 : j' < es.length := by simpa using hj'
      rw [stamp_at he.nodup hj' hblen] at e
      have e4 := stamp_at he.nodup (j := j) (by simpa using hj) hblen
      simp only [List.getElem_map] at e4
      rw [e4] at e
      have hbn : bs.Nodup := hb ▸ he.born
      have := (List.getElem_inj hbn).1 e
      subst this
      simpa using hk
    · intro h
      exact ⟨_, h, rfl⟩
  have hcond : (!(done.map (stamp (es.map (·.1)) bs)).toArray.isEmpty && !ms.isEmpty && ms.all (·.born ≥ ck)) = false := by
    cases hme : ms.isEmpty with
    | true => simp
    | false =>
      have : ms.all (·.born ≥ ck) = false := by
        have hz : 0 < ms.size := by
          rw [Array.isEmpty_eq_false_iff] at hme
          exact Array.size_pos_iff.2 hme
        rw [Array.all_eq_false]
        refine ⟨0, hz, ?_⟩
        have := he.clock ms[0] (by simp)
        simpa using this
      rw [this]; simp
  have hold : (ms.filter (fun e => !(done.map (stamp (es.map (·.1)) bs)).toArray.contains e.born)).filter (·.born < ck) = ms.filter (fun e => !(done.map (stamp (es.map (·.1)) bs)).toArray.contains e.born) := by
    rw [Array.filter_eq_self]
    intro e h
    have := he.clock e (Array.mem_toList_iff.2 (Array.mem_filter.1 h).1)
    simpa using this
  have hnew : (ms.filter (fun e => !(done.map (stamp (es.map (·.1)) bs)).toArray.contains e.born)).filter (·.born ≥ ck) = #[] := by
    rw [Array.filter_eq_empty_iff]
    intro e h
    have := he.clock e (Array.mem_toList_iff.2 (Array.mem_filter.1 h).1)
    simpa using this
  simp only [Instr.next, Sem.run_bind, getObj, Sem.run, hgi, hgm, Result.andThen_ok, Sem.run_pure]
  simp only [hcond, hold, hnew, Array.append_empty, Bool.false_eq_true, if_false]
  have hmem : ∀ e, e ∈ ms.filter (fun e => !(done.map (stamp (es.map (·.1)) bs)).toArray.contains e.born) ↔ ∃ j, ∃ hj : j < es.length, ∃ hm : j < ms.toList.length, e = ms.toList[j] ∧ es[j].1 ∉ done := by
    intro e
    rw [Array.mem_filter]
    constructor
    · rintro ⟨h, hn⟩
      obtain ⟨j, hm, rfl⟩ := List.getElem_of_mem (Array.mem_toList_iff.2 h)
      refine ⟨j, by omega, hm, rfl, fun hd => ?_⟩
      rw [(hin j (by omega) hm).2 hd] at hn
      cases hn
    · rintro ⟨j, hj, hm, rfl, hn⟩
      refine ⟨Array.mem_toList_iff.1 (List.getElem_mem hm), ?_⟩
      cases hc : (done.map (stamp (es.map (·.1)) bs)).toArray.contains ms.toList[j].born with
      | false => rfl
      | true => exact absurd ((hin j hj hm).1 hc) hn
  generalize ms.filter (fun e => !(done.map (stamp (es.map (·.1)) bs)).toArray.contains e.born) = left at hmem ⊢
  cases hl : left.isEmpty with
  | true =>
    have hl0 : left = #[] := by simpa using hl
    subst hl0
    have hr : rest = [] := by
      cases rest with
      | nil => rfl
      | cons k ks =>
        exfalso
        have hk : k ∈ es.map (·.1) := hp.subset (by simp)
        obtain ⟨j, hj, hjk⟩ := List.getElem_of_mem hk
        have hj2 : j < es.length := by simpa using hj
        have hj3 : es[j].1 = k := by simpa using hjk
        have hkn : k ∉ done := by
          intro hd
          have := (List.nodup_append.1 hnd).2.2 k hd k (by simp)
          exact this rfl
        have := (hmem ms.toList[j]).2 ⟨j, hj2, by omega, rfl, by rw [hj3]; exact hkn⟩
        simp at this
    refine ⟨_, w, ?_, .inl ⟨hr, rfl, hs⟩⟩
    simp [choose, Sem.run, Question.forced]
  | false =>
    have hl0 : 0 < left.size := by
      rw [Array.isEmpty_eq_false_iff] at hl
      exact Array.size_pos_iff.2 hl
    simp only [Bool.false_eq_true, if_false, Array.empty_append, Array.size_map, choose]
    rw [Sem.run_bind]
    obtain ⟨t, w1, ht, hrun, hw1⟩ := choose_run (P := P) left.size hl0 Sem.pure w
    rw [hrun]
    have hs1 : sat B (object true i (Obj.mapIter (some m) ck (List.map (stamp (List.map (fun x => x.fst) es) bs) done).toArray ck) :: object true m (Obj.map ms ck) :: L) w1 := by
      rcases hw1 with rfl | rfl
      · exact h2
      · exact h2.same rfl rfl rfl
    obtain ⟨j, hj, hm, hje, hjd⟩ := (hmem left[t]).1 (Array.getElem_mem ht)
    obtain ⟨_, e1, e2, e3⟩ := hat j hj
    have hjr : es[j].1 ∈ rest := by
      have : es[j].1 ∈ done ++ rest := hp.symm.subset (List.mem_map.2 ⟨es[j], List.getElem_mem hj, rfl⟩)
      rcases List.mem_append.1 this with h | h
      · exact absurd h hjd
      · exact h
    have hpr : rest.Perm (es[j].1 :: rest.erase es[j].1) := List.perm_cons_erase hjr
    refine ⟨_, World.setObj w1 i (.mapIter (some m) ck ((done ++ [es[j].1]).map (stamp (es.map (·.1)) bs)).toArray ck), ?_, .inr ⟨es[j].1, es[j].2, _, hpr, mget_at he.nodup hj, rfl, ?_⟩⟩
    · have hg1 := hs1.obj
      simp only [Sem.run_pure, Result.andThen_ok, Array.getElem?_map, Array.getElem?_eq_getElem ht, Option.map_some, Sem.run_bind, setObj, Sem.run, hg1, hje, e1, e2, e3]
      simp [World.setObj, Sem.run]
    · have h3 := hs1.setObj (y := .mapIter (some m) ck ((done ++ [es[j].1]).map (stamp (es.map (·.1)) bs)).toArray ck) rfl
      have hp2 : ((done ++ [es[j].1]) ++ rest.erase es[j].1).Perm (es.map (·.1)) := by
        rw [List.append_assoc]
        exact (List.Perm.append_left done hpr.symm).trans hp
      exact mapB_close he hb ((iterO_close hp2 h3).perm (.swap _ _ _))

class MapPick (L : List HProp) (r : Nat) (es : outParam (List (Int × Value))) (R : outParam (List HProp)) : Prop where perm : L.Perm (mapO r es :: R)
instance mapPick_here (r : Nat) (es : List (Int × Value)) (L : List HProp) : MapPick (mapO r es :: L) r es L := ⟨.refl _⟩
instance (priority := low) mapPick_next (A : HProp) (r : Nat) (es : List (Int × Value)) (L R : List HProp) [p : MapPick L r es R] : MapPick (A :: L) r es (A :: R) := ⟨(List.Perm.cons A p.perm).trans (.swap _ _ _)⟩
class MapBPick (L : List HProp) (r : Nat) (es : outParam (List (Int × Value))) (bs : outParam (List Nat)) (ck : outParam Nat) (R : outParam (List HProp)) : Prop where perm : L.Perm (mapB r es bs ck :: R)
instance mapBPick_here (r : Nat) (es : List (Int × Value)) (bs : List Nat) (ck : Nat) (L : List HProp) : MapBPick (mapB r es bs ck :: L) r es bs ck L := ⟨.refl _⟩
instance (priority := low) mapBPick_next (A : HProp) (r : Nat) (es : List (Int × Value)) (bs : List Nat) (ck : Nat) (L R : List HProp) [p : MapBPick L r es bs ck R] : MapBPick (A :: L) r es bs ck (A :: R) := ⟨(List.Perm.cons A p.perm).trans (.swap _ _ _)⟩
class IterPick (L : List HProp) (i : Nat) (m : outParam Nat) (ks : outParam (List Int)) (bs : outParam (List Nat)) (ck : outParam Nat) (done rest : outParam (List Int)) (R : outParam (List HProp)) : Prop where perm : L.Perm (iterO i m ks bs ck done rest :: R)
instance iterPick_here (i m : Nat) (ks : List Int) (bs : List Nat) (ck : Nat) (done rest : List Int) (L : List HProp) : IterPick (iterO i m ks bs ck done rest :: L) i m ks bs ck done rest L := ⟨.refl _⟩
instance (priority := low) iterPick_next (A : HProp) (i m : Nat) (ks : List Int) (bs : List Nat) (ck : Nat) (done rest : List Int) (L R : List HProp) [p : IterPick L i m ks bs ck done rest R] : IterPick (A :: L) i m ks bs ck done rest (A :: R) := ⟨(List.Perm.cons A p.perm).trans (.swap _ _ _)⟩
class KeysIs (es : List (Int × Value)) (ks : List Int) : Prop where h : es.map (·.1) = ks
instance keysIs_rfl (es : List (Int × Value)) : KeysIs es (es.map (·.1)) := ⟨rfl⟩
/-- What lies at a key. -/
class MG (es : List (Int × Value)) (k : Int) (x : outParam Value) : Prop where h : mget es k = some x

structure NextG (es : List (Int × Value)) (rest : List Int) (A : Prop) (C : Int → Value → List Int → Prop) : Prop where
  over : rest = [] → A
  more : ∀ k x rest', rest.Perm (k :: rest') → MG es k x → C k x rest'

instance mapAt_B (r : Nat) (es : List (Int × Value)) (bs : List Nat) (ck : Nat) (L : List HProp) : MapAt (mapB r es bs ck :: L) r es := ⟨fun _ _ hs => ⟨L, mapO_of hs⟩⟩

instance exec_range (mt kt e : TypeId) (x : Operand) (m : Nat) (es : List (Int × Value)) (R : List HProp) [ex : EvO env x (.map (some m))] [u : TUnd P mt (.map kt e)] [p : MapPick L m es R] :
    Exec P (.range mt x) ty env L (fun K => All fun i : Nat => All fun bs : List Nat => All fun ck : Nat => K (.pointer (some ⟨i, 0, none⟩)) (iterO i m (es.map (·.1)) bs ck [] (es.map (·.1)) :: mapB m es bs ck :: R)) :=
  ⟨fun B dst pos after guard K hk w hs => by
    obtain ⟨ms, ck, he, h1⟩ := mapO_open (hs.perm p.perm)
    have hg := h1.obj
    refine .inl ⟨.pointer (some ⟨w.heap.size, 0, none⟩), w.alloc (.mapIter (some m) ck #[] ck), _, by simp [execOp, Instr.range, ex.h, run_underlying_of u.h, getObj, newObj, Sem.run, hg], ?_, ((hk.all w.heap.size).all (ms.toList.map (·.born))).all ck⟩
    have h2 := h1.alloc_obj (x := .mapIter (some m) ck #[] ck) rfl
    have h3 := mapB_close he rfl (h2.perm (.swap _ _ _))
    exact iterO_close (by simp) (h3.perm (.swap _ _ _))⟩

instance exec_next (x : Operand) (i m : Nat) (ks : List Int) (es : List (Int × Value)) (bs bs' : List Nat) (ck ck' : Nat) (done rest : List Int) (R R2 : List HProp) [ex : EvO env x (.pointer (some ⟨i, 0, none⟩))]
    [p : IterPick L i m ks bs ck done rest R] [q : MapBPick R m es bs' ck' R2] [eb : Eq1 bs' bs] [ec : Eq1 ck' ck] [kk : KeysIs es ks] :
    Exec P (.next x false) ty env L (fun K => NextG es rest (K (.tuple #[.bool false]) L) (fun k v rest' => K (.tuple #[.bool true, .int .i64 k, v]) (iterO i m ks bs ck (done ++ [k]) rest' :: mapB m es bs ck :: R2))) :=
  ⟨fun B dst pos after guard K hk w hs => by
    obtain rfl := eb.h
    obtain rfl := ec.h
    obtain rfl := kk.h
    have h1 : sat B (mapB m es bs' ck' :: iterO i m (es.map (·.1)) bs' ck' done rest :: R2) w := (hs.perm (p.perm.trans (List.Perm.cons _ q.perm))).perm (.swap _ _ _)
    obtain ⟨v, w', hr, h⟩ := next_run (P := P) (ty := ty) h1
    rcases h with ⟨h0, rfl, h2⟩ | ⟨k, y, rest', hp, hm, rfl, h2⟩
    · refine .inl ⟨_, w', L, by simp [execOp, ex.h, hr], ?_, hk.over h0⟩
      exact (h2.perm (.swap _ _ _)).perm (p.perm.trans (List.Perm.cons _ q.perm)).symm
    · exact .inl ⟨_, w', _, by simp [execOp, ex.h, hr], h2.perm (.swap _ _ _), hk.more k y rest' hp ⟨hm⟩⟩⟩

theorem entry_run {i m : Nat} {es : List (Int × Value)} {bs : List Nat} {ck : Nat} {done rest : List Int} {k : Int} {x : Value} {w : World} (hx : mget es k = some x) (hs : sat B (mapB m es bs ck :: iterO i m (es.map (·.1)) bs ck (done ++ [k]) rest :: L) w) :
    (Instr.entry (.pointer (some ⟨i, 0, none⟩))).run P w = .ok (.tuple #[.int .i64 k, x]) w := by
  obtain ⟨ms, ⟨he, hb⟩, h1⟩ := mapB_open hs
  obtain ⟨hp, h2⟩ := iterO_open (h1.perm (.swap _ _ _))
  have hgi := h2.obj
  have hgm := (h2.perm (.swap _ _ _)).obj
  have hlen : ms.toList.length = es.length := by have := congrArg List.length he.same; simpa using this
  have hblen : bs.length = (es.map (·.1)).length := by rw [← hb]; simp; simpa using hlen
  have hkm : k ∈ es.map (·.1) := hp.subset (by simp)
  obtain ⟨j, hj, hjk⟩ := List.getElem_of_mem hkm
  have hj2 : j < es.length := by simpa using hj
  have hj3 : es[j].1 = k := by simpa using hjk
  have hm : j < ms.toList.length := by omega
  have e1 := congrArg (·[j]?) he.same
  simp only [List.getElem?_map, List.getElem?_eq_getElem hm, List.getElem?_eq_getElem hj2, Option.map_some, Option.some.injEq, Prod.mk.injEq] at e1
  have e2 := stamp_at he.nodup (j := j) (by simpa using hj2) hblen
  simp only [List.getElem_map, hj3] at e2
  have e3 : ms.toList[j].born = stamp (es.map (·.1)) bs k := by rw [e2]; subst hb; simp
  have hx2 : es[j].2 = x := by
    have := mget_at he.nodup hj2
    rw [hj3, hx] at this
    exact (Option.some.inj this).symm
  have hfind : ms.find? (fun e => e.born == stamp (es.map (·.1)) bs k) = some ms.toList[j] := by
    rw [← Array.find?_toList, List.find?_eq_some_iff_getElem]
    refine ⟨by simp only [e3, beq_self_eq_true], j, hm, rfl, fun i hi => ?_⟩
    have hne : ms.toList[i].born ≠ ms.toList[j].born := by
      intro h
      have h1 : (ms.toList.map (·.born))[i]'(by simp at hm ⊢; omega) = (ms.toList.map (·.born))[j]'(by simpa using hm) := by simpa using h
      have := (List.getElem_inj he.born).1 h1
      omega
    rw [e3] at hne
    simpa using hne
  have hback : ((List.map (stamp (List.map (fun x => x.fst) es) bs) (done ++ [k])).toArray).back? = some (stamp (es.map (·.1)) bs k) := by simp
  simp only [Instr.entry, Sem.run_bind, getObj, Sem.run, hgi, hgm, Result.andThen_ok, hback, Sem.run_pure, bne_self_eq_false, Bool.false_eq_true, if_false, hfind, e1.1, e1.2, hj3, hx2]

instance rexec_entry (x : Operand) (i m : Nat) (ks : List Int) (es : List (Int × Value)) (bs bs' : List Nat) (ck ck' : Nat) (done rest : List Int) (k : Int) (y : Value) (R R2 : List HProp) [ex : EvO env x (.pointer (some ⟨i, 0, none⟩))]
    [p : IterPick L i m ks bs ck (done ++ [k]) rest R] [q : MapBPick R m es bs' ck' R2] [eb : Eq1 bs' bs] [ec : Eq1 ck' ck] [kk : KeysIs es ks] [g : MG es k y] :
    RExec P (.entry x) ty env L (.tuple #[.int .i64 k, y]) L := ⟨fun dst pos after guard B w hs => ⟨by
    obtain rfl := eb.h
    obtain rfl := ec.h
    obtain rfl := kk.h
    have h1 : sat B (mapB m es bs' ck' :: iterO i m (es.map (·.1)) bs' ck' (done ++ [k]) rest :: R2) w := (hs.perm (p.perm.trans (List.Perm.cons _ q.perm))).perm (.swap _ _ _)
    simp [execOp, ex.h, entry_run g.h h1], hs⟩⟩

theorem mget_any {es : List (Int × Value)} {k : Int} {x : Value} (h : mget es k = some x) : es.any (fun e => e.1 == k) = true := by
  unfold mget at h
  cases hf : es.find? (fun e => e.1 == k) with
  | none => rw [hf] at h; cases h
  | some e => exact List.any_eq_true.2 ⟨e, List.mem_of_find?_eq_some hf, by have := List.find?_some hf; exact this⟩

theorem mapUpdateB_run {mt kt e : TypeId} (u : P.underlying mt = some (.map kt e)) (uk : P.underlying kt = some (.int .i64)) {es : List (Int × Value)} {bs : List Nat} {ck r : Nat} {w : World} (hs : sat B (mapB r es bs ck :: L) w) (k : Int) (v : Value)
    (hk0 : es.any (fun e => e.1 == k) = true) : ∃ w', (Instr.mapUpdate mt (.map (some r)) (.int .i64 k) v).run P w = .ok () w' ∧ sat B (mapB r (mset es k v) bs ck :: L) w' := by
  obtain ⟨ms, ⟨he, hb⟩, hs'⟩ := mapB_open hs
  have hg := hs'.obj
  have hf := findKey_run uk he k w
  have hc := checkKey_run (P := P) uk false 9999 k w
  cases hj : es.findIdx? (fun e => e.1 == k) with
  | none =>
    exfalso
    rw [List.findIdx?_eq_none_iff] at hj
    obtain ⟨x, hx, hxk⟩ := List.any_eq_true.1 hk0
    rw [hj x hx] at hxk
    cases hxk
  | some j =>
    obtain ⟨hlt, hk, _⟩ := List.findIdx?_eq_some_iff_getElem.1 hj
    have hk' : es[j].1 = k := by simpa using hk
    rw [hj] at hf
    simp only [Option.bind_some, List.getElem?_eq_getElem hlt, Option.map_some] at hf
    have hmk : (ms[j]?).map (·.key) = some (.int .i64 k) := by
      have := congrArg (fun l => l[j]?) he.same
      simp only [List.getElem?_map, List.getElem?_eq_getElem hlt, Option.map_some] at this
      cases hm : ms.toList[j]? with
      | none => rw [hm] at this; cases this
      | some m =>
        rw [hm] at this
        simp only [Option.map_some, Option.some.injEq, Prod.mk.injEq] at this
        have h2 : ms[j]? = some m := by simpa using hm
        rw [h2]; simp [this.1, hk']
    have hsb : Instr.sameBits 10000 (.int .i64 k) (.int .i64 k) = true := by simp [Instr.sameBits]
    refine ⟨World.setObj w r (.map (ms.modify j fun e => { e with key := .int .i64 k, val := v }) ck), ?_, mapB_close (ents_set he v hj) ?_ (hs'.setObj rfl)⟩
    · simp only [Instr.mapUpdate, Sem.run_bind, run_underlying_of u, Result.andThen_ok, getObj, setObj, Sem.run, hg, hc, hf, hmk, Option.getD_some, Instr.keyThatStays, hsb, if_true, Sem.run_pure]
      rfl
    · rw [Array.toList_modify, map_modify, hb]
      intro x _; rfl

instance exec_mapUpdateB (mt kt e : TypeId) (x y z : Operand) (r : Nat) (k : Int) (v : Value) (es : List (Int × Value)) (bs : List Nat) (ck : Nat) (R : List HProp) [ex : EvO env x (.map (some r))] [ey : EvO env y (.int .i64 k)] [ez : EvO env z v]
    [u : TUnd P mt (.map kt e)] [uk : TUnd P kt (.int .i64)] [p : MapBPick L r es bs ck R] (o : Value) [g : MG es k o] : Exec P (.mapUpdate mt x y z) ty env L (fun K => K undef (mapB r (mset es k v) bs ck :: R)) :=
  ⟨fun B dst pos after guard K hk w hs => by
    obtain ⟨w', hr, hs'⟩ := mapUpdateB_run u.h uk.h (hs.perm p.perm) k v (mget_any g.h)
    exact .inr (.inl ⟨w', _, by simp [execOp, ex.h, ey.h, ez.h, hr], hs', hk⟩)⟩

/-- What a look-up gives where the key is known. -/
instance (priority := high) rexec_lookup_g (mt kt e : TypeId) (x y : Operand) (r : Nat) (k : Int) (z o : Value) (es : List (Int × Value)) [ex : EvO env x (.map (some r))] [ey : EvO env y (.int .i64 k)] [u : TUnd P mt (.map kt e)] [uk : TUnd P kt (.int .i64)] [hz : TZero P e z]
    [m : MapAt L r es] [g : MG es k o] : RExec P (.lookup mt x y false) ty env L o L := ⟨fun dst pos after guard B w hs => ⟨by
      obtain ⟨L', hs'⟩ := m.h B w hs
      simp [execOp, ex.h, ey.h, lookup_run u.h uk.h hz.h hs' k false, g.h], hs⟩⟩
end
end Go.SL
namespace Go.SL

section
variable {P : Program} {B : World} {n : Nat} {l : List Oper} {K : Kont}

theorem ancs_listed {listed : Array Bool} (hc : ∀ i, listed.getD i false = true → ∀ j ∈ depsOf l i, listed.getD j false = true) :
    ∀ (f : Nat) (xs : List Nat), (∀ x ∈ xs, listed.getD x false = true) → ∀ y ∈ ancs l f xs, listed.getD y false = true
  | 0, xs, h, y, hy => h y hy
  | f + 1, xs, h, y, hy => by
    rw [ancs, List.mem_append] at hy
    rcases hy with hy | hy
    · exact h y hy
    · refine ancs_listed hc f _ (fun x hx => ?_) y hy
      rw [List.mem_eraseDups, List.mem_flatMap] at hx
      obtain ⟨z, hz, hx⟩ := hx
      exact hc z (h z hz) x hx

/-- Of a region whose last operation waits for all others: what must hold of its text. -/
def lastOk (l' : List Oper) (o : Oper) : Bool :=
  (List.range l'.length).all (fun j => (ancs (l' ++ [o]) (l' ++ [o]).length (depsOf (l' ++ [o]) l'.length)).contains j) &&
  (List.range l'.length).all (fun i => (depsOf l' i).all fun j => decide (j < i)) &&
  l'.all (fun x => match x.guard with | some (j, _) => decide (j < l'.length) | none => true) &&
  (depsOf (l' ++ [o]) l'.length).all (fun j => decide (j < l'.length))

def afterQ (P : Program) (ops : Array Oper) (k : Nat) (Q : Exit → Act → World → Prop) : Exit → Act → World → Prop := fun e a w =>
  match e with
  | .normal => wpOp P ops Q k (Q .normal) a w
  | e => Q e a w

theorem deps_app {l' : List Oper} {o : Oper} {i : Nat} (h : i < l'.length) : depsOf (l' ++ [o]) i = depsOf l' i := by
  unfold depsOf
  rw [List.getElem?_append_left h]

theorem wpOp_app {l' : List Oper} {o : Oper} {Q : Exit → Act → World → Prop} {i : Nat} (hi : i < l'.length) (hg : l'.all (fun x => match x.guard with | some (j, _) => decide (j < l'.length) | none => true) = true)
    {K' : Act → World → Prop} {a : Act} {w : World} (h : wpOp P l'.toArray (afterQ P (l' ++ [o]).toArray l'.length Q) i K' a w) : wpOp P (l' ++ [o]).toArray Q i K' a w := by
  unfold wpOp at *
  have e1 : (l' ++ [o]).toArray[i]? = some l'[i] := by simp [List.getElem?_append_left hi]
  have e2 : l'.toArray[i]? = some l'[i] := by simp [hi]
  rw [e1]; rw [e2] at h
  simp only at h ⊢
  have hgi := List.all_eq_true.1 hg l'[i] (List.getElem_mem hi)
  have hw : Region.wanted l'[i] (yielded (l' ++ [o]).toArray a.tmps) = Region.wanted l'[i] (yielded l'.toArray a.tmps) := by
    unfold Region.wanted
    cases hgu : l'[i].guard with
    | none => rfl
    | some g =>
      obtain ⟨j, b⟩ := g
      rw [hgu] at hgi
      simp only [decide_eq_true_eq] at hgi
      have : yielded (l' ++ [o]).toArray a.tmps j = yielded l'.toArray a.tmps j := by
        unfold yielded
        have e3 : (l' ++ [o]).toArray[j]? = l'.toArray[j]? := by simp [List.getElem?_append_left hgi]
        rw [e3]
      simp only [this]
  rw [hw]
  split at h
  · rename_i hwt
    rw [if_pos hwt]
    rcases h with h | ⟨h1, a1, w1, h2⟩
    · refine .inl ?_
      unfold Oper.wp at *
      generalize (execOp a.eval l'[i]).run P w = r at *
      cases r with
      | ok n w' =>
        cases n <;> simp only [Oper.upon] at h ⊢ <;>
          first
            | exact h
            | exact Calls.mono h (fun e w'' he => by cases e <;> first | exact he | (obtain ⟨a2, w2, h2⟩ := he; exact ⟨a2, w2, h2⟩))
      | halt x w' => cases x <;> simp only [Oper.upon] at h ⊢ <;> exact h
    · exact .inr ⟨h1, a1, w1, h2⟩
  · rename_i hwt
    rw [if_neg hwt]; exact h

theorem push_getD {listed : Array Bool} {k : Nat} (hs : listed.size = k) (i : Nat) (b : Bool) : (listed.push false).getD i b = if i < k then listed.getD i b else if i = k then false else b := by
  subst hs
  simp only [Array.getD_eq_getD_getElem?, Array.getElem?_push]
  by_cases h1 : i = listed.size
  · simp [h1]
  · by_cases h2 : i < listed.size
    · simp [h1, h2]
    · simp [h1, h2, Array.getElem?_eq_none (Nat.le_of_not_lt h2)]
theorem push_set {listed : Array Bool} {i : Nat} (hi : i < listed.size) : (listed.push false).setIfInBounds i true = (listed.setIfInBounds i true).push false := by
  exact Array.ext' (by simp [List.set_append, hi])

theorem any_last {l' : List Oper} {o : Oper} {Q : Exit → Act → World → Prop} (ok : lastOk l' o = true) : ∀ (fuel : Nat) (listed : Array Bool) (a : Act) (w : World), listed.size = l'.length →
    (∀ i, listed.getD i false = true → ∀ j ∈ depsOf l' i, listed.getD j false = true) →
    wpAny P .any l'.toArray (afterQ P (l' ++ [o]).toArray l'.length Q) fuel listed a w → wpAny P .any (l' ++ [o]).toArray Q (fuel + 1) (listed.push false) a w := by
  simp only [lastOk, Bool.and_eq_true] at ok
  obtain ⟨⟨⟨hcov, hord⟩, hg⟩, hdl⟩ := ok
  have hcov : ∀ j, j < l'.length → j ∈ ancs (l' ++ [o]) (l' ++ [o]).length (depsOf (l' ++ [o]) l'.length) := fun j hj => by
    have := List.all_eq_true.1 hcov j (List.mem_range.2 hj)
    simpa using this
  have hord : ∀ i, i < l'.length → ∀ j ∈ depsOf l' i, j < i := fun i hi j hj => by
    have := List.all_eq_true.1 (List.all_eq_true.1 hord i (List.mem_range.2 hi)) j hj
    simpa using this
  -- where the last one may come, all are listed
  have hall : ∀ (listed : Array Bool), listed.size = l'.length → (∀ i, listed.getD i false = true → ∀ j ∈ depsOf l' i, listed.getD j false = true) →
      (∀ j ∈ depsOf (l' ++ [o]) l'.length, (listed.push false).getD j false = true) → ∀ j, j < l'.length → listed.getD j false = true := by
    intro listed hs hc hd j hj
    have h1 := ancs_listed (l := l' ++ [o]) (listed := listed.push false) (fun i hi => by
      rw [push_getD hs] at hi
      split at hi
      · rename_i hik
        rw [deps_app hik]
        intro x hx
        have hxi := hord i hik x hx
        rw [push_getD hs, if_pos (by omega)]
        exact hc i hi x hx
      · split at hi <;> cases hi) _ _ hd j (hcov j hj)
    rw [push_getD hs, if_pos hj] at h1
    exact h1
  have hfull : ∀ (listed : Array Bool), listed.size = l'.length → Region.ready .any l'.toArray listed = [] → ∀ j, j < l'.length → listed.getD j false = true := by
    intro listed hs hr j
    induction j using Nat.strongRecOn with
    | ind j ih =>
      intro hj
      cases hu : listed.getD j true with
      | true =>
        simp only [Array.getD_eq_getD_getElem?] at hu ⊢
        rw [Array.getElem?_eq_getElem (by omega)] at hu ⊢
        exact hu
      | false =>
        have := ready_of hj hu (fun x hx => ih x (hord j hj x hx) (by have := hord j hj x hx; omega))
        rw [hr] at this; cases this
  have hnone : ∀ (listed : Array Bool), listed.size = l'.length → (∀ j, j < l'.length → listed.getD j false = true) → Region.ready .any l'.toArray listed = [] := by
    intro listed hs h
    cases hr : Region.ready .any l'.toArray listed with
    | nil => rfl
    | cons i r =>
      obtain ⟨h1, h2, _⟩ := ready_mem (l := l') (listed := listed) (i := i) (by rw [hr]; simp)
      rw [getD_tf (h i h1)] at h2; cases h2
  -- the last step
  have hend : ∀ (fuel : Nat) (listed : Array Bool) (a : Act) (w : World), listed.size = l'.length → (∀ j, j < l'.length → listed.getD j false = true) → wpOp P (l' ++ [o]).toArray Q l'.length (Q .normal) a w →
      wpAny P .any (l' ++ [o]).toArray Q (fuel + 1) (listed.push false) a w := by
    intro fuel listed a w hs ha h
    have hrk : l'.length ∈ Region.ready .any (l' ++ [o]).toArray (listed.push false) := by
      refine ready_of (by simp) (by rw [push_getD hs, if_neg (by omega), if_pos rfl]) (fun j hj => ?_)
      have hjl : j < l'.length := by simpa using List.all_eq_true.1 hdl j hj
      rw [push_getD hs, if_pos hjl]; exact ha j hjl
    refine ⟨fun h0 => (by rw [h0] at hrk; cases hrk), fun i hi => ?_⟩
    obtain ⟨h1, h2, _⟩ := ready_mem hi
    have hik : i = l'.length := by
      rcases Nat.lt_or_ge i l'.length with h3 | h3
      · rw [push_getD hs, if_pos h3, getD_tf (ha i h3)] at h2; cases h2
      · simp at h1; omega
    subst hik
    refine wpOp_mono (fun a' w' h' => wpAny_done ?_ h' fuel) h
    cases hr : Region.ready .any (l' ++ [o]).toArray ((listed.push false).setIfInBounds l'.length true) with
    | nil => rfl
    | cons j r =>
      obtain ⟨h4, h5, _⟩ := ready_mem (l := l' ++ [o]) (i := j) (by rw [hr]; simp)
      rw [setL_getD] at h5
      split at h5
      · cases h5
      · rename_i hne
        rcases Nat.lt_or_ge j l'.length with h3 | h3
        · rw [push_getD hs, if_pos h3, getD_tf (ha j h3)] at h5; cases h5
        · simp at h4; exact absurd ⟨by omega, by simp [hs]⟩ hne
  intro fuel
  induction fuel with
  | zero =>
    intro listed a w hs hc h
    exact hend 0 listed a w hs (hfull listed hs h.1) h.2
  | succ fuel ih =>
    intro listed a w hs hc h
    by_cases hr : Region.ready .any l'.toArray listed = []
    · exact hend _ listed a w hs (hfull listed hs hr) (h.1 hr)
    · refine ⟨fun h0 => ?_, fun i hi => ?_⟩
      · exfalso
        obtain ⟨i, hi⟩ := List.exists_mem_of_ne_nil _ hr
        obtain ⟨h1, h2, h3⟩ := ready_mem hi
        have := ready_of (l := l' ++ [o]) (listed := listed.push false) (i := i) (by simp; omega) (by rw [push_getD hs, if_pos h1]; exact h2) (fun j hj => by
          rw [deps_app h1] at hj
          have := hord i h1 j hj
          rw [push_getD hs, if_pos (by omega)]; exact h3 j hj)
        rw [h0] at this; cases this
      · obtain ⟨h1, h2, h3⟩ := ready_mem hi
        rcases Nat.lt_or_ge i l'.length with h4 | h4
        · have hi' : i ∈ Region.ready .any l'.toArray listed := by
            refine ready_of h4 (by rw [push_getD hs, if_pos h4] at h2; exact h2) (fun j hj => ?_)
            have hji := hord i h4 j hj
            have := h3 j (by rw [deps_app h4]; exact hj)
            rw [push_getD hs, if_pos (by omega)] at this; exact this
          have h5 := h.2 i hi'
          have h6 := wpOp_app (o := o) h4 hg h5
          refine wpOp_mono (fun a' w' h' => ?_) h6
          rw [push_set (by omega)]
          refine ih _ a' w' (by simpa using hs) ?_ h'
          intro x hx y hy
          rw [setL_getD] at hx ⊢
          split
          · rfl
          · split at hx
            · rename_i hxi
              rw [← hxi.1] at hy
              have hyi := hord i h4 y hy
              have := h3 y (by rw [deps_app h4]; exact hy)
              rw [push_getD hs, if_pos (by omega)] at this; exact this
            · exact hc x hx y hy
        · have hik : i = l'.length := by simp at h1; omega
          subst hik
          have ha := hall listed hs hc h3
          exact absurd (hnone listed hs ha) hr

theorem wpOp_monoQ {ops : Array Oper} {Q Q' : Exit → Act → World → Prop} (hQ : ∀ e a w, Q e a w → Q' e a w) {i : Nat} {K' K'' : Act → World → Prop} (hK : ∀ a w, K' a w → K'' a w) {a : Act} {w : World} (h : wpOp P ops Q i K' a w) : wpOp P ops Q' i K'' a w := by
  unfold wpOp at *
  split
  · rename_i h0
    rw [h0] at h; exact hK _ _ h
  · rename_i o ho
    rw [ho] at h
    simp only at h
    split at h
    · rename_i hwt
      rw [if_pos hwt]
      rcases h with h | ⟨h1, a1, w1, h2⟩
      · refine .inl ?_
        unfold Oper.wp at *
        generalize (execOp a.eval o).run P w = r at *
        cases r with
        | ok n w' =>
          cases n <;> simp only [Oper.upon] at h ⊢ <;>
            first
              | exact hK _ _ h
              | exact Calls.mono h (fun e w'' he => by cases e <;> first | exact hK _ _ he | exact hQ _ _ _ he | (obtain ⟨a2, w2, h2⟩ := he; exact ⟨a2, w2, hQ _ _ _ h2⟩))
              | exact Rows.mono h (fun _ _ he => hK _ _ he)
        | halt x w' => cases x <;> simp only [Oper.upon] at h ⊢ <;> first | exact h | exact hQ _ _ _ h
      · exact .inr ⟨h1, a1, w1, hQ _ _ _ h2⟩
    · rename_i hwt
      rw [if_neg hwt]; exact hK _ _ h
theorem wpAny_monoQ {ops : Array Oper} {Q Q' : Exit → Act → World → Prop} (hQ : ∀ e a w, Q e a w → Q' e a w) : ∀ (fuel : Nat) (listed : Array Bool) (a : Act) (w : World), wpAny P .any ops Q fuel listed a w → wpAny P .any ops Q' fuel listed a w
  | 0, _, _, _, h => ⟨h.1, hQ _ _ _ h.2⟩
  | fuel + 1, _, _, _, h => ⟨fun h0 => hQ _ _ _ (h.1 h0), fun i hi => wpOp_monoQ hQ (fun a w h => wpAny_monoQ hQ fuel _ a w h) (h.2 i hi)⟩

/-- A region whose last operation waits for all others: the others as a region of their own, then the last. -/
theorem Sy_draw_last {id : Nat} {Q : Post} {env : Env} {L : List HProp} {l' : List Oper} {o : Oper} (plan : Plan) (hm : P.follows .mixedOrders = true) (hk : lastOk l' o = true) (hp : planOk l' plan [] [] [] = true)
    (h : RP P B n l' plan [] [] (fun env L => SyO P B n (l' ++ [o]).toArray [o] (fun env L => Q .normal env L) env L) env L) : Sy P B n (.region id (l' ++ [o]).toArray true) Q env L := by
  intro ok a w hr hs
  have ok2 : (l' ++ [o]).all (okDst n) = true := by simpa [okCode] using ok
  rw [List.all_append, Bool.and_eq_true] at ok2
  refine wp_mono (wp_region_any hm ?_) ?_ (Q := lift B n (onlyNormal fun env L => Q .normal env L))
  · have hsz : (l' ++ [o]).toArray.size = l'.length + 1 := by simp
    have hrep : Array.replicate (l'.length + 1) false = (Array.replicate l'.length false).push false := Array.ext' (by simp [List.replicate_succ'])
    rw [hsz, hrep]
    refine any_last hk _ _ a _ (by simp) (fun i hi => by
      exfalso
      simp only [Array.getD_eq_getD_getElem?] at hi
      by_cases hlt : i < l'.length
      · simp [hlt] at hi
      · simp [hlt] at hi) ?_
    have h1 : wpAny P .any l'.toArray (lift B n (onlyNormal (fun env L => SyO P B n (l' ++ [o]).toArray [o] (fun env L => Q .normal env L) env L))) l'.length (Array.replicate l'.length false) a { w with drawn := w.drawn + 1 } := by
      refine h hp ok2.1 Done.nil (fun _ h => by cases h) _ _ a _ ?_ hs.drew ?_
      · refine ⟨hr.defers, hr.size, by simp, ?_, ?_, fun t _ => hr.tmps t, fun _ h => by cases h⟩
        · intro i hi hlt
          simp [Array.getD_eq_getD_getElem?, hlt] at hi
        · intro i hi hlt
          simp [Array.getD_eq_getD_getElem?, hlt] at hi
      · simp [unlisted]
    refine wpAny_monoQ (fun e a w hq => ?_) _ _ _ _ h1
    obtain ⟨env', L', hr', hs', he, hq⟩ := hq
    subst he
    have h2 := hq (by simpa using ok2.2) a w hr' hs'
    show wpOp P (l' ++ [o]).toArray _ l'.length _ a w
    unfold wpOp
    have e1 : (l' ++ [o]).toArray[l'.length]? = some o := by simp
    rw [e1]
    exact h2
  · rintro e a' w' ⟨env', L', hr', hs', he, hq⟩
    subst he
    exact ⟨env', L', hr', hs', hq⟩

/-- The way through a region but for its last operation. -/
class PlanLast (n id : Nat) (plan : outParam (Plan)) : Prop
class SplitLast (l : List Oper) (l' : outParam (List Oper)) (o : outParam Oper) : Prop where h : l = l' ++ [o]
instance splitLast_one (o : Oper) : SplitLast [o] [] o := ⟨rfl⟩
instance splitLast_cons (x y : Oper) (l l' : List Oper) (o : Oper) [h : SplitLast (y :: l) l' o] : SplitLast (x :: y :: l) (x :: l') o := ⟨by rw [h.h]; rfl⟩
theorem Sy_draw_lastC {id : Nat} {Q : Post} {env : Env} {L : List HProp} {l l' : List Oper} {o : Oper} (plan : Plan) [m : Mixed P] [s : SplitLast l l' o] (hp : (lastOk l' o && planOk l' plan [] [] []) = true)
    (h : RP P B n l' plan [] [] (fun env L => SyO P B n l.toArray [o] (fun env L => Q .normal env L) env L) env L) : Sy P B n (.region id l.toArray true) Q env L := by
  obtain rfl := s.h
  rw [Bool.and_eq_true] at hp
  exact Sy_draw_last plan m.h hp.1 hp.2 h
instance adv_drawLast {Q : Post} {env : Env} {L : List HProp} (id : Nat) (l l' : List Oper) (o : Oper) (plan : Plan) [p : PlanLast n id plan] [m : Mixed P] [s : SplitLast l l' o] :
    Adv (Sy P B n (.region id l.toArray true) Q env L) (Side ((lastOk l' o && planOk l' plan [] [] []) = true) (RP P B n l' plan [] [] (fun env L => SyO P B n l.toArray [o] (fun env L => Q .normal env L) env L) env L)) :=
  ⟨fun h => Sy_draw_lastC plan h.side h.rest⟩

def XP (P : Program) (B : World) (n : Nat) (l : List Oper) (K : Kont) : Nat → Array Bool → Env → List HProp → Prop
  | 0, listed, env, L => Region.ready .any l.toArray listed = [] ∧ K env L
  | f + 1, listed, env, L => (Region.ready .any l.toArray listed = [] → K env L) ∧
    ∀ i ∈ Region.ready .any l.toArray listed, ∃ o, l[i]? = some o ∧ SyO P B n l.toArray [o] (fun env L => XP P B n l K f (listed.setIfInBounds i true) env L) env L

theorem wpList_single {ops : Array Oper} {Q Q' : Exit → Act → World → Prop} (hQ : ∀ e a w, e ≠ .normal → Q e a w → Q' e a w) {o : Oper} {i : Nat} (ho : ops[i]? = some o) {a : Act} {w : World} (h : wpList P ops Q [o] a w) : wpOp P ops Q' i (Q .normal) a w := by
  unfold wpOp
  rw [ho]
  simp only
  have h' : if Region.wanted o (yielded ops a.tmps) then o.wp P a w (Q .normal) Q ∨ (o.asks P a w ∧ LetsOut Q) else Q .normal (a.put o.dst undef) w := h
  split at h'
  · rename_i hwt
    rw [if_pos hwt]
    rcases h' with h | ⟨h1, a1, w1, h2⟩
    · refine .inl ?_
      unfold Oper.wp at *
      generalize (execOp a.eval o).run P w = r at *
      cases r with
      | ok n w' =>
        cases n <;> simp only [Oper.upon] at h ⊢ <;>
          first
            | exact h
            | exact Calls.mono h (fun e w'' he => by cases e <;> first | exact he | exact hQ _ _ _ (by simp) he | (obtain ⟨a2, w2, h2⟩ := he; exact ⟨a2, w2, hQ _ _ _ (by simp) h2⟩))
      | halt x w' => cases x <;> simp only [Oper.upon] at h ⊢ <;> first | exact h | exact hQ _ _ _ (by simp) h
    · exact .inr ⟨h1, a1, w1, hQ _ _ _ (by simp) h2⟩
  · rename_i hwt
    rw [if_neg hwt]; exact h'

theorem XP.any (hn : l.all (okDst n) = true) : ∀ (f : Nat) (listed : Array Bool) (env : Env) (L : List HProp) (a : Act) (w : World), rel n a env → sat B L w → XP P B n l K f listed env L → wpAny P .any l.toArray (lift B n (onlyNormal K)) f listed a w
  | 0, _, env, L, a, w, hr, hs, h => ⟨h.1, env, L, hr, hs, rfl, h.2⟩
  | f + 1, listed, env, L, a, w, hr, hs, h => by
    refine ⟨fun h0 => ⟨env, L, hr, hs, rfl, h.1 h0⟩, fun i hi => ?_⟩
    obtain ⟨o, ho, ho2⟩ := h.2 i hi
    have hod : [o].all (okDst n) = true := by
      have := List.all_eq_true.1 hn o (List.mem_of_getElem? ho)
      simpa using this
    have h1 := ho2 hod a w hr hs
    have h2 := wpList_single (Q' := lift B n (onlyNormal K)) (fun e a w hne ⟨_, _, _, _, he, _⟩ => absurd he hne) (i := i) (by simpa using ho) h1
    refine wpOp_mono (fun a' w' h' => ?_) h2
    obtain ⟨env', L', hr', hs', _, hx⟩ := h'
    exact XP.any hn f _ env' L' a' w' hr' hs' hx

theorem Sy_draw_all {id : Nat} {Q : Post} {env : Env} {L : List HProp} (hm : P.follows .mixedOrders = true) (h : XP P B n l (fun env L => Q .normal env L) l.length (Array.replicate l.length false) env L) : Sy P B n (.region id l.toArray true) Q env L := by
  intro ok a w hr hs
  refine wp_mono (wp_region_any hm ?_) ?_ (Q := lift B n (onlyNormal fun env L => Q .normal env L))
  · have := XP.any (P := P) (by simpa [okCode] using ok) _ _ _ _ a _ hr hs.drew h
    simpa using this
  · rintro e a' w' ⟨env', L', hr', hs', he, hq⟩
    subst he
    exact ⟨env', L', hr', hs', hq⟩

theorem XP.go {f : Nat} {listed : Array Bool} {env : Env} {L : List HProp} (rs : List Nat) (hr : Region.ready .any l.toArray listed = rs) (hne : rs ≠ [])
    (h : ∀ i ∈ rs, ∃ o, l[i]? = some o ∧ SyO P B n l.toArray [o] (fun env L => XP P B n l K f (listed.setIfInBounds i true) env L) env L) : XP P B n l K (f + 1) listed env L :=
  ⟨fun h0 => absurd (hr ▸ h0) hne, hr ▸ h⟩
theorem XP.done {f : Nat} {listed : Array Bool} {env : Env} {L : List HProp} (hr : Region.ready .any l.toArray listed = []) (h : K env L) : XP P B n l K f listed env L := by
  cases f with
  | zero => exact ⟨hr, h⟩
  | succ f => exact ⟨fun _ => h, by rw [hr]; simp⟩
end

section
variable {P : Program} {env : Env} {ty : TypeId} {L : List HProp}
instance exec_slice3 (t e : TypeId) (k : Nat) (x : Operand) (hi mx : Operand) (a : Option Addr) (len c jh jm : Nat) (h m : Int) (kh km : IntKind) (α : Type) (i : Rep α) (s : Sl α) [ex : EvO env x (.slice a len c)] [u : TUnd P t (.slice e)] [ts : TSize P e k] [kk : @KIs α i k]
    [r : RoAt L a len c α i s] [bh : EvO env hi (.int kh h)] [bm : EvO env mx (.int km m)] [nh : ToNat h jh] [nm : ToNat m jm] :
    Exec P (.slice t x none (some hi) (some mx)) ty env L (fun K => Side (0 ≤ h ∧ h ≤ m ∧ m ≤ len)
      (All fun a' => K (.slice a' (s.xs.take jh).length jm) (@roS α i ⟨a', jm, s.xs.take jh⟩ :: L))) :=
  ⟨fun B dst pos after guard K hk w hs => by
    obtain ⟨h0, h1, h2⟩ := hk.side
    have hs' := r.dup B [] w (by simpa using hs)
    simp only [List.append_nil] at hs'
    have ok : s.ok := by obtain ⟨g, a, _⟩ := hs'.headOf; exact a.1
    have hc := ok.cap
    rw [r.el, r.ec] at hc
    have eh := nh.h
    have em := nm.h
    have hlen : (s.xs.take jh).length = jh := by simp [r.el]; omega
    have hcut := ro_cut (B := B) (lo := 0) (hi := jh) (mx := jm) (s := s) (by omega) (by rw [r.el]; omega) (by omega) (by rw [r.ec]; omega) hs'
    have hfin : sat B (@roS α i ⟨if jm = 0 then s.a else s.a.map (·.add (0 * i.k)), jm, s.xs.take jh⟩ :: L) w := by
      have := hcut.perm (.swap _ _ _)
      simpa using this.tail
    refine .inl ⟨.slice (if jm = 0 then s.a else s.a.map (·.add (0 * i.k))) jh jm, w, _, ?_, hfin, by have h9 := hk.rest.all (if jm = 0 then s.a else s.a.map (·.add (0 * i.k))); rw [hlen] at h9; exact h9⟩
    have hx : ev env x = .slice a len c := ex.h
    have hkk : i.k = k := kk.h
    have c1 : 0 ≤ m ∧ m ≤ (c : Int) := ⟨by omega, by omega⟩
    have c2 : 0 ≤ h ∧ h ≤ (jm : Int) := ⟨h0, by omega⟩
    simp only [execOp, Instr.sliceAt, Instr.slice, Instr.sliceBounds, Instr.sliceBound, asIntOf, Sem.run_bind, u.run, Result.andThen_ok, hx, bh.h, bm.h, ts.h, Sem.run_pure, hkk, r.ea, Option.map_none, Option.map_some, c1, and_self, if_true, em, c2, eh, Nat.sub_zero]⟩
end

section
variable {P : Program} {env : Env} {ty : TypeId}
theorem ofInt_nat64 {a : Int} (h0 : 0 ≤ a) (h1 : a ≤ 9223372036854775807) : (BitVec.ofInt 64 a).toNat = a.toNat := by
  obtain ⟨n, rfl⟩ := Int.eq_ofNat_of_zero_le h0
  simp only [BitVec.toNat_ofInt, Int.toNat_natCast]
  omega
instance (priority := low) cexec_or_i64 (t u : TypeId) (x y : Operand) (a b : Int) (m n : Nat) [e : EvO env x (.int .i64 a)] [f : EvO env y (.int .i64 b)] [ta : ToNat a m] [tb : ToNat b n] :
    CExec P (.binOp .or t x y u) ty env ((0 ≤ a ∧ a ≤ 9223372036854775807) ∧ 0 ≤ b ∧ b ≤ 9223372036854775807) (.int .i64 ((m ||| n : Nat) : Int)) := ⟨fun _ _ _ _ _ h => by
  have h1 : (BitVec.ofInt IntKind.i64.bits a).toNat = a.toNat := ofInt_nat64 h.1.1 h.1.2
  have h2 : (BitVec.ofInt IntKind.i64.bits b).toNat = b.toNat := ofInt_nat64 h.2.1 h.2.2
  have e1 := ta.h
  have e2 := tb.h
  have hlt : m ||| n < 2 ^ 63 := Nat.or_lt_two_pow (by omega) (by omega)
  have hw : IntKind.i64.wrap ((m ||| n : Nat) : Int) = ((m ||| n : Nat) : Int) := wrap_i64 ⟨by omega, by omega⟩
  simp only [execOp, e.h, f.h, binOp, eqGuard_at_int, Op.intBits, ne_eq, not_true_eq_false, if_false, Sem.run_bind, Sem.run_pure, Result.andThen_ok, BitVec.toNat_or, h1, h2, ta.h, tb.h, hw]⟩
end
end Go.SL
namespace Go.SL
open Go.Proofs
instance : PlanLast Tryz.f3.ntmps 18 (.calc 0 (.calc 1 (.calc 2 (.calc 3 (.calc 4 (.calc 5 (.calc 6 (.calc 9 (.calc 10 (.calc 11 (.act 7 [] (.calc 8 (.act 12 [] (.calc 13 (.act 14 [] (.act 15 [] .nil)))))))))))))))) := ⟨⟩
instance : PlanLast Tryz.f58.ntmps 5 (.calc 0 (.calc 1 (.read 2 (.calc 3 (.calc 6 (.read 7 (.act 4 [7] (.act 5 [7] (.act 8 [] .nil))))))))) := ⟨⟩
instance : PlanLast Tryz.f101.ntmps 5 (.calc 0 (.calc 1 (.calc 2 (.calc 3 (.read 4 (.calc 5 (.calc 6 (.calc 7 (.read 8 (.act 9 [4] (.calc 10 (.act 11 [] (.act 12 [] .nil))))))))))))) := ⟨⟩
instance : PlanLast Tryz.f123.ntmps 13 (.calc 0 (.calc 1 (.calc 2 (.calc 3 (.read 4 (.read 5 (.calc 6 (.calc 7 (.calc 8 (.calc 9 (.calc 10 (.read 11 (.read 12 (.calc 13 (.calc 14 (.calc 15 (.calc 16 .nil))))))))))))))))) := ⟨⟩
end Go.SL
namespace Go.SL
open Go.Proofs
set_option synthInstance.maxSize 4000
set_option synthInstance.maxHeartbeats 400000
set_option maxRecDepth 4000
set_option maxHeartbeats 2000000

instance (priority := low) appH_any (X M : List HProp) : AppH X M (X ++ M) := ⟨rfl⟩
instance (priority := low) picks_app (M F : List HProp) : Picks M (M ++ F) F := ⟨fun B X w h => by simpa using h⟩

/-- Ways that come together: what is so wherever they do. -/
theorem Sy_join {P : Program} {B : World} {n id : Nat} {c : Code} {K : Kont} {Q2 : Post} {env : Env} {L : List HProp} (J : Kont) (hJ : ∀ env L, J env L → K env L) (h : Sy P B n c (blockQ id (thenQ J Q2)) env L) : Sy P B n c (blockQ id (thenQ K Q2)) env L := by
  intro ok a w hr hs
  refine wp_mono (h ok a w hr hs) ?_
  rintro e a' w' ⟨env', L', hr', hs', hq⟩
  refine ⟨env', L', hr', hs', ?_⟩
  cases e with
  | normal => exact hJ _ _ hq
  | exit i =>
    simp only [blockQ, thenQ] at hq ⊢
    split at hq
    · rename_i hi; rw [if_pos hi]; exact hJ _ _ hq
    · rename_i hi; rw [if_neg hi]; exact hq
  | _ => exact hq
theorem Sy_env {P : Program} {B : World} {n : Nat} {c : Code} {Q : Post} {env : Env} {L : List HProp} (slots : List (Nat × Value)) (h0 : ∀ p ∈ slots, env p.1 = p.2) (h : ∀ env', Sy P B n c Q (upds env' slots) L) : Sy P B n c Q env L := by
  have e : ∀ (l : List (Nat × Value)), (∀ p ∈ l, env p.1 = p.2) → upds env l = env := by
    intro l
    induction l with
    | nil => intro _; rfl
    | cons p l ih =>
      intro hl
      have h1 := ih (fun q hq => hl q (List.mem_cons_of_mem _ hq))
      have h2 := hl p (List.mem_cons_self ..)
      funext t
      show upd (upds env l) p.1 p.2 t = env t
      rw [upd_eq, h1]
      split
      · rename_i ht; rw [ht, h2]
      · rfl
  have := h env
  rwa [e slots h0] at this

structure PutR where
  lba : Int
  d : Sl UInt8
@[reducible] def PutR.vals (x : PutR) : List Value := [.int .i64 x.lba, .slice x.d.a x.d.xs.length x.d.c]
instance rep_put : Rep PutR := ⟨2, PutR.vals, fun x => roS x.d, fun _ => rfl, fun x v hv => by
  simp only [PutR.vals, List.mem_cons, List.not_mem_nil, or_false] at hv
  rcases hv with rfl | rfl <;> rfl, fun _ => inferInstance, by decide⟩
instance (priority := low) enc_put' (x : PutR) : EncIs PutR x [.int .i64 x.lba, .slice x.d.a x.d.xs.length x.d.c] := ⟨rfl⟩
instance k_put : KIs PutR 2 := ⟨rfl⟩
abbrev PV := Int × List UInt8
@[reducible] def PutR.v (x : PutR) : PV := (x.lba, x.d.xs)

structure TxR where
  time : Int
  ps : Sl PutR
@[reducible] def TxR.vals (x : TxR) : List Value := [.int .i64 x.time, .slice x.ps.a x.ps.xs.length x.ps.c]
instance rep_tx : Rep TxR := ⟨2, TxR.vals, fun x => roS x.ps, fun _ => rfl, fun x v hv => by
  simp only [TxR.vals, List.mem_cons, List.not_mem_nil, or_false] at hv
  rcases hv with rfl | rfl <;> rfl, fun _ => inferInstance, by decide⟩
instance (priority := low) enc_tx' (x : TxR) : EncIs TxR x [.int .i64 x.time, .slice x.ps.a x.ps.xs.length x.ps.c] := ⟨rfl⟩
instance k_tx : KIs TxR 2 := ⟨rfl⟩
abbrev TV := Int × List PV
@[reducible] def TxR.v (x : TxR) : TV := (x.time, x.ps.xs.map PutR.v)

theorem ro_pull_put {B : World} {L : List HProp} {s : Sl PutR} {w : World} {j : Nat} (hj : j < s.xs.length) (hs : sat B (roS s :: L) w) : sat B (roS s.xs[j].d :: roS s :: L) w := ro_pull hj hs
theorem ro_pull_tx {B : World} {L : List HProp} {s : Sl TxR} {w : World} {j : Nat} (hj : j < s.xs.length) (hs : sat B (roS s :: L) w) : sat B (roS s.xs[j].ps :: roS s :: L) w := ro_pull hj hs
/-- What an element refers to, beside what is there. -/
theorem pull_any {α : Type} [Rep α] {B : World} {L R : List HProp} {A : HProp} (s : Sl α) [p : Pick (roS s) L R] (hA : ∀ M w, sat B (roS s :: M) w → sat B (A :: roS s :: M) w) : ∀ w, sat B L w → sat B (A :: L) w :=
  fun w h => (hA _ w (h.perm p.perm)).perm (.cons _ p.perm.symm)
theorem pull_tx {B : World} {L R : List HProp} (s : Sl TxR) [p : Pick (roS s) L R] {j : Nat} (hj : j < s.xs.length) : ∀ w, sat B L w → sat B (roS s.xs[j].ps :: L) w := pull_any s fun _ _ h => ro_pull_tx hj h
theorem pull_put {B : World} {L R : List HProp} (s : Sl PutR) [p : Pick (roS s) L R] {j : Nat} (hj : j < s.xs.length) : ∀ w, sat B L w → sat B (roS s.xs[j].d :: L) w := pull_any s fun _ _ h => ro_pull_put hj h
theorem pull_sl {α : Type} [Rep α] {B : World} {L R : List HProp} (s : Sl (Sl α)) [p : Pick (roS s) L R] {j : Nat} (hj : j < s.xs.length) : ∀ w, sat B L w → sat B (roS s.xs[j] :: L) w := pull_any s fun _ _ h => ro_pull_sl hj h
/-- A slice that is made is from now on only read. -/
theorem freezeS {α : Type} [Rep α] {B : World} {L R : List HProp} (s : Sl α) [p : Pick (ownS s) L R] : ∀ w, sat B L w → sat B (roS s :: R) w := fun _ h => ownS_ro (h.perm p.perm)
theorem CallG.freeze {α : Type} [Rep α] {P : Program} {f : FuncId} {args : Array Value} {L R : List HProp} {K : Value → List HProp → Prop} (s : Sl α) [p : Pick (ownS s) L R] (h : CallG P f args (roS s :: R) K) : CallG P f args L K := CallG_conv (fun _ => freezeS s) h
theorem CallG.pull {P : Program} {f : FuncId} {args : Array Value} {L L' : List HProp} {K : Value → List HProp → Prop} (hL : ∀ B w, sat B L w → sat B L' w) (h : CallG P f args L' K) : CallG P f args L K := CallG_conv hL h
/-- A put, freshly laid, behind others. -/
theorem AppG.oneP {P : Program} {t ty e b r : Nat} {zs : List Value} {L R : List HProp} {K : Value → List HProp → Prop} (s : Sl PutR) (x : PutR) [u : TUnd P t (.slice e)] [ti : TI P e 2 b zs]
    [p : Picks [ownS s, cells true r 0 [.int .i64 x.lba, .slice x.d.a x.d.xs.length x.d.c], roS x.d] L R]
    (hb : (s.xs.length + 1) * b ≤ 140737488355328 ∧ s.xs.length + 1 ≤ 140737488355328)
    (h : ∀ a c, K (.slice a (s.xs ++ [x]).length c) (ownS ⟨a, c, s.xs ++ [x]⟩ :: R)) {v1 : Value} (e1 : v1 = s.val := by rfl) : AppG P t ty v1 (.slice (some ⟨r, 0, none⟩) 1 1) L K :=
  AppG.one (t := t) (ty := ty) (e := e) (k := 2) (b := b) (zs := zs) (vs := x.vals) (P := P) (en := ⟨rfl⟩) (p := (p : Picks [ownS s, cells true r 0 x.vals, Rep.own x] L R)) s x hb h e1
theorem AppG.oneT {P : Program} {t ty e b r : Nat} {zs : List Value} {L R : List HProp} {K : Value → List HProp → Prop} (s : Sl TxR) (x : TxR) [u : TUnd P t (.slice e)] [ti : TI P e 2 b zs]
    [p : Picks [ownS s, cells true r 0 [.int .i64 x.time, .slice x.ps.a x.ps.xs.length x.ps.c], roS x.ps] L R]
    (hb : (s.xs.length + 1) * b ≤ 140737488355328 ∧ s.xs.length + 1 ≤ 140737488355328)
    (h : ∀ a c, K (.slice a (s.xs ++ [x]).length c) (ownS ⟨a, c, s.xs ++ [x]⟩ :: R)) {v1 : Value} (e1 : v1 = s.val := by rfl) : AppG P t ty v1 (.slice (some ⟨r, 0, none⟩) 1 1) L K :=
  AppG.one (t := t) (ty := ty) (e := e) (k := 2) (b := b) (zs := zs) (vs := x.vals) (P := P) (en := ⟨rfl⟩) (p := (p : Picks [ownS s, cells true r 0 x.vals, Rep.own x] L R)) s x hb h e1

def rises : List PV → Bool
  | [] => true
  | [_] => true
  | a :: b :: l => decide (a.1 < b.1) && rises (b :: l)
def orderOk : Int → List TV → Bool
  | _, [] => true
  | last, t :: ts => if t.1 ≤ last ∨ 1099511627776 < t.1 ∨ t.2.length = 0 then false else rises t.2 && orderOk t.1 ts

theorem valid_order (s : Sl TxR) : Spec Tryz.prog 161 #[s.val] [roS s] (fun v L => v = .bool (orderOk 0 (s.xs.map TxR.v)) ∧ L = []) := by
  refine enter1 Tryz.func161 rfl (by decide) (by decide) ?_
  intro B F
  dsimp only [lcA, lnA]
  refine Sy_know (fun B w h => ro_ok s B w h) (fun hs => ?_)
  have hsl := hs.len
  repeat' first | refine adv ?_ | refine Side.go ?_ | refine Giv.mk fun _ => ?_ | refine All.mk fun q => ?_ | refine Fork.mk ?_ ?_ | (refine Two.mk (fun h => ?_) (fun h => ?_) <;> try first | contradiction | (exfalso; omega))
  refine Sy_loop (ι := {st : Nat × Int // st.1 ≤ s.xs.length ∧ orderOk 0 (s.xs.map TxR.v) = orderOk st.2 ((s.xs.map TxR.v).drop st.1)})
    (fun st => [(9, .int .i64 st.1.1), (8, .int .i64 s.xs.length), (7, s.val), (3, .int .i64 st.1.2)]) (fun _ => roS s :: F) (fun st => s.xs.length - st.1.1) ⟨(0, 0), Nat.zero_le _, rfl⟩ (evs rfl (evs rfl (evs rfl (evs rfl .nil)))) (fun _ h => h) ?_
  rintro ⟨⟨k, last⟩, hk, hgo⟩ env
  dsimp only [upds] at hk hgo ⊢
  by_cases hk2 : k < s.xs.length
  · have hst := hgo
    rw [List.drop_eq_getElem_cons (by simpa using hk2), List.getElem_map, orderOk] at hst
    dsimp only [TxR.v] at hst
    simp only [List.length_map] at hst
    refine Sy_conv (L' := roS s.xs[k].ps :: roS s :: F) (fun w h => ro_pull_tx hk2 h) ?_
    refine Sy_know (fun B w h => ro_ok s.xs[k].ps B w h) (fun hps => ?_)
    have hpl := hps.len
    repeat' first | refine adv ?_ | refine Side.go ?_ | refine Giv.mk fun _ => ?_ | refine All.mk fun q => ?_ | refine Fork.mk ?_ ?_ | (refine Two.mk (fun h => ?_) (fun h => ?_) <;> try first | contradiction | (exfalso; omega))
    · exact endQ.one Tryz.results161 ⟨by rw [hst, if_pos (by omega)], rfl⟩
    · exact endQ.one Tryz.results161 ⟨by rw [hst, if_pos (by omega)], rfl⟩
    · exact endQ.one Tryz.results161 ⟨by rw [hst, if_pos (by omega)], rfl⟩
    rw [if_neg (by omega)] at hst
    have hl1 : 1 ≤ s.xs[k].ps.xs.length := by omega
    refine Sy_loop (ι := {i : Nat // (1 ≤ i ∧ i ≤ s.xs[k].ps.xs.length) ∧ rises (s.xs[k].ps.xs.map PutR.v) = rises ((s.xs[k].ps.xs.map PutR.v).drop (i - 1))})
      (fun i => [(6, .int .i64 i.1), (5, .pointer (some ⟨q, 0, none⟩)), (9, .int .i64 k), (8, .int .i64 s.xs.length), (7, s.val), (3, .int .i64 s.xs[k].time)])
      (fun _ => cells true q 0 [.int .i64 s.xs[k].time, .slice s.xs[k].ps.a s.xs[k].ps.xs.length s.xs[k].ps.c] :: roS s.xs[k].ps :: roS s :: F) (fun i => s.xs[k].ps.xs.length - i.1) ⟨1, ⟨by omega, by omega⟩, rfl⟩ (evs rfl (evs rfl (evs rfl (evs rfl (evs rfl (evs rfl .nil)))))) (fun w h => goes w h) ?_
    rintro ⟨i, hi, hri⟩ env
    dsimp only [upds] at hi hri ⊢
    by_cases hi2 : i < s.xs[k].ps.xs.length
    · have hrs := hri
      rw [List.drop_eq_getElem_cons (by simp; omega), show i - 1 + 1 = i from by omega, List.drop_eq_getElem_cons (by simp; omega), List.getElem_map, List.getElem_map, rises] at hrs
      dsimp only [PutR.v] at hrs
      repeat' first | refine adv ?_ | refine Side.go ?_ | refine Giv.mk fun _ => ?_ | refine All.mk fun q => ?_ | refine Fork.mk ?_ ?_ | (refine Two.mk (fun h => ?_) (fun h => ?_) <;> try first | contradiction | (exfalso; omega))
      · have hix : ((i : Int) - 1).toNat = i - 1 := by omega
        simp only [hix] at h
        refine endQ.one Tryz.results161 ⟨?_, rfl⟩
        rw [hst, hrs, decide_eq_false (by omega)]; rfl
      · have hix : ((i : Int) - 1).toNat = i - 1 := by omega
        simp only [hix] at h
        rw [decide_eq_true (by omega), Bool.true_and] at hrs
        refine loopQ.next ⟨i + 1, ⟨by omega, by omega⟩, ?_⟩ (by simp only []; omega) (evs rfl (evs rfl (evs rfl (evs rfl (evs rfl (evs rfl .nil)))))) (fun w h => goes w h)
        have e := List.drop_eq_getElem_cons (l := s.xs[k].ps.xs.map PutR.v) (i := i) (by simpa using hi2)
        rw [hrs, show i + 1 - 1 = i from by omega, e, List.getElem_map]
    · have hi3 : i = s.xs[k].ps.xs.length := by omega
      have hr1 : rises (s.xs[k].ps.xs.map PutR.v) = true := by
        rw [hri, List.drop_eq_getElem_cons (by simp; omega), List.drop_of_length_le (by simp; omega)]; rfl
      rw [hr1, Bool.true_and] at hst
      repeat' first | refine adv ?_ | refine Side.go ?_ | refine Giv.mk fun _ => ?_ | refine All.mk fun q => ?_ | refine Fork.mk ?_ ?_ | (refine Two.mk (fun h => ?_) (fun h => ?_) <;> try first | contradiction | (exfalso; omega))
      refine loopQ.next ⟨(k + 1, s.xs[k].time), by dsimp only; omega, hst⟩ (by simp only []; omega) (evs rfl (evs rfl (evs rfl (evs rfl .nil)))) (fun w h => goes w h)
  · have hk3 : k = s.xs.length := by omega
    subst hk3
    repeat' first | refine adv ?_ | refine Side.go ?_ | refine Giv.mk fun _ => ?_ | refine All.mk fun q => ?_ | refine Fork.mk ?_ ?_ | (refine Two.mk (fun h => ?_) (fun h => ?_) <;> try first | contradiction | (exfalso; omega))
    refine endQ.one Tryz.results161 ⟨?_, rfl⟩
    rw [hgo, List.drop_of_length_le (by simp)]
    rfl
end Go.SL
namespace Go.SL
open Go.Proofs
set_option synthInstance.maxSize 4000
set_option synthInstance.maxHeartbeats 400000
set_option maxRecDepth 4000
set_option maxHeartbeats 2000000

def vget {α : Type} (vs : List (Int × α)) (k : Int) : Option α := (vs.find? fun e => e.1 == k).map (·.2)
def vset {α : Type} (vs : List (Int × α)) (k : Int) (x : α) : List (Int × α) := if vs.any fun e => e.1 == k then vs.map fun e => if e.1 = k then (k, x) else e else vs ++ [(k, x)]
def vmap {α : Type} (f : α → Value) (vs : List (Int × α)) : List (Int × Value) := vs.map fun e => (e.1, f e.2)
theorem mget_vmap {α : Type} (f : α → Value) (vs : List (Int × α)) (k : Int) : mget (vmap f vs) k = (vget vs k).map f := by
  unfold mget vget vmap
  rw [List.find?_map]
  cases h : vs.find? ((fun e : Int × Value => e.1 == k) ∘ fun e => (e.1, f e.2)) with
  | none =>
    have : vs.find? (fun e => e.1 == k) = none := h
    rw [this]; rfl
  | some e =>
    have : vs.find? (fun e => e.1 == k) = some e := h
    rw [this]; rfl
theorem mset_vmap {α : Type} (f : α → Value) (vs : List (Int × α)) (k : Int) (x : α) : mset (vmap f vs) k (f x) = vmap f (vset vs k x) := by
  unfold mset vset vmap
  have e : (vs.map fun e => (e.1, f e.2)).any (fun e => e.1 == k) = vs.any (fun e => e.1 == k) := by rw [List.any_map]; rfl
  rw [e]
  split
  · rw [List.map_map, List.map_map]
    apply List.map_congr_left
    intro a _
    simp only [Function.comp]
    split <;> simp_all
  · simp
theorem vmap_keys {α : Type} (f : α → Value) (vs : List (Int × α)) : (vmap f vs).map (·.1) = vs.map (·.1) := by unfold vmap; rw [List.map_map]; rfl

structure Ver where
  time : Int
  d : Sl UInt8
@[reducible] def Ver.vals (x : Ver) : List Value := [.int .i64 x.time, .slice x.d.a x.d.xs.length x.d.c]
instance rep_ver : Rep Ver := ⟨2, Ver.vals, fun x => roS x.d, fun _ => rfl, fun x v hv => by
  simp only [Ver.vals, List.mem_cons, List.not_mem_nil, or_false] at hv
  rcases hv with rfl | rfl <;> rfl, fun _ => inferInstance, by decide⟩
instance (priority := low) enc_ver' (x : Ver) : EncIs Ver x [.int .i64 x.time, .slice x.d.a x.d.xs.length x.d.c] := ⟨rfl⟩
instance k_ver : KIs Ver 2 := ⟨rfl⟩
@[reducible] def Ver.v (x : Ver) : PV := (x.time, x.d.xs)
theorem AppG.oneV {P : Program} {t ty e b r : Nat} {zs : List Value} {L R : List HProp} {K : Value → List HProp → Prop} (s : Sl Ver) (x : Ver) [u : TUnd P t (.slice e)] [ti : TI P e 2 b zs]
    [p : Picks [ownS s, cells true r 0 [.int .i64 x.time, .slice x.d.a x.d.xs.length x.d.c], roS x.d] L R]
    (hb : (s.xs.length + 1) * b ≤ 140737488355328 ∧ s.xs.length + 1 ≤ 140737488355328)
    (h : ∀ a c, K (.slice a (s.xs ++ [x]).length c) (ownS ⟨a, c, s.xs ++ [x]⟩ :: R)) {v1 : Value} (e1 : v1 = s.val := by rfl) : AppG P t ty v1 (.slice (some ⟨r, 0, none⟩) 1 1) L K :=
  AppG.one (t := t) (ty := ty) (e := e) (k := 2) (b := b) (zs := zs) (vs := x.vals) (P := P) (en := ⟨rfl⟩) (p := (p : Picks [ownS s, cells true r 0 x.vals, Rep.own x] L R)) s x hb h e1

/-- All versions of all blocks. -/
structure Em where
  blocks : Nat
  vs : List (Int × List PV)
  last : Int
abbrev EmR := Nat × List (Int × Sl Ver)
def EmR.v (r : EmR) : List (Int × List PV) := r.2.map fun e => (e.1, e.2.xs.map Ver.v)
@[reducible] def emL (m : Nat) (E : Em) (r : EmR) : List HProp := [cells true m 0 [.int .i64 E.blocks, .map (some r.1), .int .i64 E.last], mapO r.1 (vmap Sl.val r.2), bigS (fun q : Int × Sl Ver => ownS q.2) r.2]
def emO (m : Nat) (E : Em) : HProp := ex fun r : EmR => star (says (EmR.v r = E.vs) :: emL m E r)
theorem emO_open {B : World} {L : List HProp} {m : Nat} {E : Em} {w : World} (h : sat B (emO m E :: L) w) : ∃ r : {r : EmR // EmR.v r = E.vs}, sat B (emL m E r.1 ++ L) w := by
  obtain ⟨r, hr⟩ := sat_ex.1 h
  obtain ⟨e, h2⟩ := sat_says.1 (sat_star.1 hr)
  exact ⟨⟨r, e⟩, h2⟩
theorem emO_close {B : World} {L : List HProp} {m : Nat} {w : World} (E : Em) (r : EmR) (e : EmR.v r = E.vs)
    (h : sat B (cells true m 0 [.int .i64 E.blocks, .map (some r.1), .int .i64 E.last] :: mapO r.1 (vmap Sl.val r.2) :: bigS (fun q : Int × Sl Ver => ownS q.2) r.2 :: L) w) : sat B (emO m E :: L) w :=
  sat_ex.2 ⟨r, sat_star.2 (sat_says.2 ⟨e, h⟩)⟩

theorem ext_new (n : Int) : Spec Tryz.prog 85 #[.int .i64 n] [] (fun v L => (¬ (1 ≤ n ∧ n ≤ 1048576) ∧ v = .tuple #[.pointer none, .int .i64 1] ∧ L = []) ∨
    ((1 ≤ n ∧ n ≤ 1048576) ∧ ∃ m, v = .tuple #[.pointer (some ⟨m, 0, none⟩), .int .i64 0] ∧ L = [emO m ⟨n.toNat, [], 0⟩])) := by
  refine enter1 Tryz.func85 rfl (by decide) (by decide) ?_
  intro B F
  dsimp only [lcA, lnA]
  repeat' first | refine adv ?_ | refine Side.go ?_ | refine Giv.mk fun _ => ?_ | refine All.mk fun q => ?_ | refine Fork.mk ?_ ?_ | (refine Two.mk (fun h => ?_) (fun h => ?_) <;> try first | contradiction | (exfalso; omega))
  · exact endQ.two Tryz.results85 (.inl ⟨by omega, rfl, rfl⟩)
  · exact endQ.two Tryz.results85 (.inl ⟨by omega, rfl, rfl⟩)
  · rename_i rm
    obtain ⟨N, rfl⟩ := Int.eq_ofNat_of_zero_le (a := n) (by omega)
    refine endQ.twoW Tryz.results85 (.inr ⟨by omega, q, rfl, rfl⟩) (fun w h => ?_)
    refine emO_close ⟨(N : Int).toNat, [], 0⟩ (rm, []) rfl ?_
    have h1 : sat B (cells true q 0 [.int .i64 N, .map (some rm), .int .i64 0] :: mapO rm (vmap Sl.val ([] : List (Int × Sl Ver))) :: bigS (fun q : Int × Sl Ver => ownS q.2) [] :: F) w := goes w (show sat B (cells true q 0 [.int .i64 N, .map (some rm), .int .i64 0] :: mapO rm (vmap Sl.val ([] : List (Int × Sl Ver))) :: F) w from h)
    exact h1

theorem ext_gone (m b : Nat) (x y : Value) : Spec Tryz.prog 124 #[.pointer (some ⟨m, 0, none⟩)] [cells true m 0 [.int .i64 b, x, y]] (fun v L => v = .bool (decide (b = 0)) ∧ L = [cells true m 0 [.int .i64 b, x, y]]) := by
  refine enter1 Tryz.func124 rfl (by decide) (by decide) ?_
  intro B F
  dsimp only [lcA, lnA]
  repeat' first | refine adv ?_ | refine Side.go ?_ | refine Giv.mk fun _ => ?_ | refine All.mk fun q => ?_ | refine Fork.mk ?_ ?_ | (refine Two.mk (fun h => ?_) (fun h => ?_) <;> try first | contradiction | (exfalso; omega))
  refine endQ.oneW Tryz.results124 ⟨?_, rfl⟩ (fun w h => goes w h)
  congr 1; exact decide_eq_decide.2 (by omega)
theorem ext_blocks (m b : Nat) (x y : Value) : Spec Tryz.prog 93 #[.pointer (some ⟨m, 0, none⟩)] [cells true m 0 [.int .i64 b, x, y]] (fun v L => v = .int .i64 b ∧ L = [cells true m 0 [.int .i64 b, x, y]]) := by
  refine enter1 Tryz.func93 rfl (by decide) (by decide) ?_
  intro B F
  dsimp only [lcA, lnA]
  repeat' first | refine adv ?_ | refine Side.go ?_ | refine Giv.mk fun _ => ?_ | refine All.mk fun q => ?_ | refine Fork.mk ?_ ?_ | (refine Two.mk (fun h => ?_) (fun h => ?_) <;> try first | contradiction | (exfalso; omega))
  exact endQ.oneW Tryz.results93 ⟨rfl, rfl⟩ (fun w h => goes w h)
theorem ext_block (m b : Nat) (x y : Value) (lba : Int) : Spec Tryz.prog 126 #[.pointer (some ⟨m, 0, none⟩), .int .i64 lba] [cells true m 0 [.int .i64 b, x, y]] (fun v L => v = .bool (decide (0 ≤ lba ∧ lba < b)) ∧ L = [cells true m 0 [.int .i64 b, x, y]]) := by
  refine enter2 Tryz.func126 rfl (by decide) (by decide) ?_
  intro B F
  dsimp only [lcA, lnA]
  repeat' first | refine adv ?_ | refine Side.go ?_ | refine Giv.mk fun _ => ?_ | refine All.mk fun q => ?_ | refine Fork.mk ?_ ?_ | (refine Two.mk (fun h => ?_) (fun h => ?_) <;> try first | contradiction | (exfalso; omega))
  · refine CallG.use (ext_blocks m b x y) ?_
    rintro r M ⟨rfl, rfl⟩
    dsimp only [lcA, lnA]
    repeat' first | refine adv ?_ | refine Side.go ?_ | refine Giv.mk fun _ => ?_ | refine All.mk fun q => ?_ | refine Fork.mk ?_ ?_ | (refine Two.mk (fun h => ?_) (fun h => ?_) <;> try first | contradiction | (exfalso; omega))
    refine endQ.oneW Tryz.results126 ⟨?_, rfl⟩ (fun w h => goes w h)
    congr 1; exact decide_eq_decide.2 (by omega)
  · refine endQ.oneW Tryz.results126 ⟨?_, rfl⟩ (fun w h => goes w h)
    congr 1; exact (decide_eq_false (by omega)).symm

theorem ext_apply1 (lba : Int) (d : Sl UInt8) : Spec Tryz.prog 128 #[.agg #[.int .i64 lba, d.val]] [roS d] (fun v L => v = .bool (decide (d.xs.length ≠ 40)) ∧ L = []) := by
  refine enter1 Tryz.func128 rfl (by decide) (by decide) ?_
  intro B F
  dsimp only [lcA, lnA]
  repeat' first | refine adv ?_ | refine Side.go ?_ | refine Giv.mk fun _ => ?_ | refine All.mk fun q => ?_ | refine Fork.mk ?_ ?_ | (refine Two.mk (fun h => ?_) (fun h => ?_) <;> try first | contradiction | (exfalso; omega))
  refine endQ.one Tryz.results128 ⟨?_, rfl⟩
  congr 1
  rw [← decide_not]; exact decide_eq_decide.2 (by omega)
end Go.SL
namespace Go.SL
open Go.Proofs
set_option synthInstance.maxSize 4000
set_option synthInstance.maxHeartbeats 400000
set_option maxRecDepth 4000
set_option maxHeartbeats 2000000

theorem bigS_perm {α : Type} {B : World} {f : α → HProp} {l l' : List α} (p : l.Perm l') : ∀ {L : List HProp} {w : World}, sat B (bigS f l :: L) w → sat B (bigS f l' :: L) w := by
  induction p with
  | nil => exact fun h => h
  | cons x _ ih =>
    intro L w h
    have h1 := sat_bigS_cons.1 h
    have h2 := ih (h1.perm (.swap _ _ _))
    exact sat_bigS_cons.2 (h2.perm (.swap _ _ _))
  | swap x y l =>
    intro L w h
    have h1 := sat_bigS_cons.1 h
    have h2 := sat_bigS_cons.1 (h1.perm (.swap _ _ _))
    have h3 : sat B (f y :: bigS f l :: f x :: L) w := (h2.perm (.trans (.cons _ (.swap _ _ _)) (.trans (.swap _ _ _) (.cons _ (.swap _ _ _)))))
    exact sat_bigS_cons.2 ((sat_bigS_cons.2 h3).perm (.swap _ _ _))
  | trans _ _ ih₁ ih₂ => exact fun h => ih₂ (ih₁ h)
def vdel {α : Type} (vs : List (Int × α)) (k : Int) : List (Int × α) := vs.filter fun e => !(e.1 == k)
theorem vget_perm {α : Type} {vs : List (Int × α)} {k : Int} {x : α} (hn : (vs.map (·.1)).Nodup) (h : vget vs k = some x) : vs.Perm ((k, x) :: vdel vs k) := by
  induction vs with
  | nil => cases h
  | cons p vs ih =>
    rw [List.map_cons, List.nodup_cons] at hn
    unfold vget at h
    rw [List.find?_cons] at h
    unfold vdel
    rw [List.filter_cons]
    cases hk : p.1 == k with
    | true =>
      rw [hk] at h
      simp only [Option.map_some, Option.some.injEq] at h
      have hk2 : p.1 = k := by simpa using hk
      have hall : vs.filter (fun e => !(e.1 == k)) = vs := by
        rw [List.filter_eq_self]
        intro e he
        have : e.1 ≠ k := fun hek => hn.1 (by rw [hk2, ← hek]; exact List.mem_map.2 ⟨e, he, rfl⟩)
        simpa using this
      simp only [Bool.not_true, Bool.false_eq_true, if_false, hall]
      rw [← hk2, ← h]
    | false =>
      rw [hk] at h
      simp only [Bool.not_false, if_true]
      exact (List.Perm.cons p (ih hn.2 h)).trans (.swap _ _ _)
theorem vdel_none {α : Type} {vs : List (Int × α)} {k : Int} (h : vget vs k = none) : vdel vs k = vs := by
  unfold vget at h
  unfold vdel
  rw [List.filter_eq_self]
  intro e he
  rw [Option.map_eq_none_iff, List.find?_eq_none] at h
  have := h e he
  simpa using this
theorem vset_perm {α : Type} {vs : List (Int × α)} {k : Int} (hn : (vs.map (·.1)).Nodup) (x : α) : ((k, x) :: vdel vs k).Perm (vset vs k x) := by
  unfold vset
  split
  · rename_i hany
    induction vs with
    | nil => cases hany
    | cons p vs ih =>
      rw [List.map_cons, List.nodup_cons] at hn
      unfold vdel at *
      rw [List.filter_cons, List.map_cons]
      by_cases hk : p.1 = k
      · have hall : vs.filter (fun e => !(e.1 == k)) = vs := by
          rw [List.filter_eq_self]
          intro e he
          have : e.1 ≠ k := fun hek => hn.1 (by rw [hk, ← hek]; exact List.mem_map.2 ⟨e, he, rfl⟩)
          simpa using this
        have hid : vs.map (fun e => if e.1 = k then (k, x) else e) = vs := by
          have : ∀ e ∈ vs, (if e.1 = k then (k, x) else e) = e := fun e he => if_neg (fun hek => hn.1 (by rw [hk, ← hek]; exact List.mem_map.2 ⟨e, he, rfl⟩))
          exact (List.map_congr_left this).trans (List.map_id _)
        simp [hk, hall, hid]
      · have hb : (p.1 == k) = false := by simpa using hk
        simp only [hb, Bool.not_false, if_true, if_neg hk]
        have : vs.any (fun e => e.1 == k) = true := by rw [List.any_cons, hb, Bool.false_or] at hany; exact hany
        exact (List.Perm.swap _ _ _).trans (.cons _ (ih hn.2 this))
  · rename_i hany
    have hg : vget vs k = none := by
      unfold vget
      rw [Option.map_eq_none_iff, List.find?_eq_none]
      intro e he hek
      exact hany (List.any_eq_true.2 ⟨e, he, hek⟩)
    rw [vdel_none hg]
    exact (List.perm_append_singleton _ _).symm
theorem mapO_nodup {B : World} {L : List HProp} {r : Nat} {es : List (Int × Value)} {w : World} (h : sat B (mapO r es :: L) w) : (es.map (·.1)).Nodup := by
  obtain ⟨ms, ck, he, _⟩ := mapO_open h
  exact he.nodup
/-- What a look-up gives. -/
class MD (es : List (Int × Value)) (k : Int) (z : Value) (v : outParam Value) : Prop where h : (mget es k).getD z = v
instance (priority := high) rexec_lookup_d (P : Program) (env : Env) (ty : TypeId) (L : List HProp) (mt kt e : TypeId) (x y : Operand) (r : Nat) (k : Int) (z v : Value) (es : List (Int × Value)) [ex : EvO env x (.map (some r))] [ey : EvO env y (.int .i64 k)] [u : TUnd P mt (.map kt e)] [uk : TUnd P kt (.int .i64)] [hz : TZero P e z]
    [m : MapAt L r es] [g : MD es k z v] : RExec P (.lookup mt x y false) ty env L v L := ⟨fun dst pos after guard B w hs => ⟨by
      obtain ⟨L', hs'⟩ := m.h B w hs
      simp [execOp, ex.h, ey.h, lookup_run u.h uk.h hz.h hs' k false, g.h], hs⟩⟩
def nilS {α : Type} : Sl α := ⟨none, 0, []⟩
theorem md_sl {α : Type} (vs : List (Int × Sl α)) (k : Int) : MD (vmap Sl.val vs) k (.slice none 0 0) ((vget vs k).getD nilS).val := ⟨by rw [mget_vmap]; cases vget vs k <;> rfl⟩
theorem map_nodup {L : List HProp} {r : Nat} {es : List (Int × Value)} [m : MapAt L r es] (B : World) (w : World) (h : sat B L w) : (es.map (·.1)).Nodup := by
  obtain ⟨L', h'⟩ := m.h B w h
  exact mapO_nodup h'
/-- The slice at a key, taken out; none: the empty one. -/
theorem take_own {α : Type} [Rep α] {B : World} {L R : List HProp} (vs : List (Int × Sl α)) (k : Int) (hn : (vs.map (·.1)).Nodup) [p : Pick (bigS (fun q : Int × Sl α => ownS q.2) vs) L R] :
    ∀ w, sat B L w → sat B (ownS ((vget vs k).getD nilS) :: bigS (fun q : Int × Sl α => ownS q.2) (vdel vs k) :: R) w := fun w h => by
  have h1 := h.perm p.perm
  cases hg : vget vs k with
  | none =>
    rw [vdel_none hg]
    exact sat_true own_nil h1
  | some s =>
    exact sat_bigS_cons.1 (bigS_perm (vget_perm hn hg) h1)
theorem put_own {α : Type} [Rep α] {B : World} {L : List HProp} {w : World} (vs : List (Int × Sl α)) (k : Int) (s : Sl α) (hn : (vs.map (·.1)).Nodup) (h : sat B (ownS s :: bigS (fun q : Int × Sl α => ownS q.2) (vdel vs k) :: L) w) :
    sat B (bigS (fun q : Int × Sl α => ownS q.2) (vset vs k s) :: L) w :=
  bigS_perm (vset_perm hn s) (sat_bigS_cons.2 (show sat B ((fun q : Int × Sl α => ownS q.2) (k, s) :: bigS (fun q : Int × Sl α => ownS q.2) (vdel vs k) :: L) w from h))

theorem ext_rise (s : Sl PutR) : Spec Tryz.prog 125 #[s.val] [roS s] (fun v L => v = .bool (rises (s.xs.map PutR.v) && decide (0 < s.xs.length)) ∧ L = []) := by
  refine enter1 Tryz.func125 rfl (by decide) (by decide) ?_
  intro B F
  dsimp only [lcA, lnA]
  refine Sy_know (fun B w h => ro_ok s B w h) (fun hs => ?_)
  have hsl := hs.len
  repeat' first | refine adv ?_ | refine Side.go ?_ | refine Giv.mk fun _ => ?_ | refine All.mk fun q => ?_ | refine Fork.mk ?_ ?_ | (refine Two.mk (fun h => ?_) (fun h => ?_) <;> try first | contradiction | (exfalso; omega))
  refine Sy_loop (ι := {i : Nat // (1 ≤ i ∧ (i ≤ s.xs.length ∨ i = 1)) ∧ rises (s.xs.map PutR.v) = rises ((s.xs.map PutR.v).drop (i - 1))})
      (fun i => [(3, .int .i64 i.1), (0, s.val)]) (fun _ => roS s :: F) (fun i => s.xs.length - i.1) ⟨1, ⟨by omega, by omega⟩, rfl⟩ (evs rfl (evs rfl .nil)) (fun w h => h) ?_
  rintro ⟨i, hi, hri⟩ env
  dsimp only [upds] at hi hri ⊢
  by_cases hi2 : i < s.xs.length
  · have hrs := hri
    rw [List.drop_eq_getElem_cons (by simp; omega), show i - 1 + 1 = i from by omega, List.drop_eq_getElem_cons (by simp; omega), List.getElem_map, List.getElem_map, rises] at hrs
    dsimp only [PutR.v] at hrs
    have hix : ((i : Int) - 1).toNat = i - 1 := by omega
    repeat' first | refine adv ?_ | refine Side.go ?_ | refine Giv.mk fun _ => ?_ | refine All.mk fun q => ?_ | refine Fork.mk ?_ ?_ | (refine Two.mk (fun h => ?_) (fun h => ?_) <;> try first | contradiction | (exfalso; omega))
    · simp only [hix] at h
      refine endQ.one Tryz.results125 ⟨?_, rfl⟩
      rw [hrs, decide_eq_false (by omega)]; rfl
    · simp only [hix] at h
      rw [decide_eq_true (by omega), Bool.true_and] at hrs
      refine loopQ.next ⟨i + 1, ⟨by omega, by omega⟩, ?_⟩ (by simp only []; omega) (evs rfl (evs rfl .nil)) (fun w h => goes w h)
      have e := List.drop_eq_getElem_cons (l := s.xs.map PutR.v) (i := i) (by simpa using hi2)
      rw [hrs, show i + 1 - 1 = i from by omega, e, List.getElem_map]
  · have hr1 : rises (s.xs.map PutR.v) = true := by
      rw [hri]
      rcases Nat.lt_or_ge (i - 1) s.xs.length with h | h
      · rw [List.drop_eq_getElem_cons (by simp; omega), List.drop_of_length_le (by simp; omega)]; rfl
      · rw [List.drop_of_length_le (by simp; omega)]; rfl
    repeat' first | refine adv ?_ | refine Side.go ?_ | refine Giv.mk fun _ => ?_ | refine All.mk fun q => ?_ | refine Fork.mk ?_ ?_ | (refine Two.mk (fun h => ?_) (fun h => ?_) <;> try first | contradiction | (exfalso; omega))
    refine endQ.one Tryz.results125 ⟨?_, rfl⟩
    rw [hr1, Bool.true_and]
    congr 1; exact decide_eq_decide.2 (by omega)
end Go.SL
namespace Go.SL
open Go.Proofs
set_option synthInstance.maxSize 4000
set_option synthInstance.maxHeartbeats 400000
set_option maxRecDepth 4000
set_option maxHeartbeats 2000000

theorem index_put (s : Sl PutR) (g : FuncId) [TFunc Tryz.prog g] (cs : List Value) (H : List HProp) (pred : PV → Bool)
    (hg : ∀ j (h : j < s.xs.length), Spec Tryz.prog g (.agg #[.int .i64 s.xs[j].lba, s.xs[j].d.val] :: cs).toArray (roS s.xs[j].d :: H) (fun v L => v = .bool (pred s.xs[j].v) ∧ L = H)) :
    Spec Tryz.prog 151 #[s.val, .func (.func g) #[] cs.toArray] (roS s :: H) (fun v L => ∃ n : Int, v = .int .i64 n ∧ (0 ≤ n ↔ (s.xs.map PutR.v).any pred = true) ∧ L = H) := by
  refine enter2 Tryz.func151 rfl (by decide) (by decide) ?_
  intro B F
  dsimp only [lcA, lnA]
  refine Sy_know (fun B w h => ro_ok s B w h) (fun hs => ?_)
  have hsl := hs.len
  repeat' first | refine adv ?_ | refine Side.go ?_ | refine Giv.mk fun _ => ?_ | refine All.mk fun q => ?_ | refine Fork.mk ?_ ?_ | (refine Two.mk (fun h => ?_) (fun h => ?_) <;> try first | contradiction | (exfalso; omega))
  refine Sy_loop (ι := {k : Nat // k ≤ s.xs.length ∧ ((s.xs.take k).map PutR.v).any pred = false}) (fun k => [(8, .int .i64 k.1), (7, .int .i64 s.xs.length), (0, s.val), (1, .func (.func g) #[] cs.toArray)]) (fun _ => roS s :: (H ++ F))
      (fun k => s.xs.length - k.1) ⟨0, Nat.zero_le _, rfl⟩ (evs rfl (evs rfl (evs rfl (evs rfl .nil)))) (fun _ h => h) ?_
  rintro ⟨k, hk, hp⟩ env
  dsimp only [upds]
  repeat' first | refine adv ?_ | refine Side.go ?_ | refine Giv.mk fun _ => ?_ | refine All.mk fun q => ?_ | refine Fork.mk ?_ ?_ | (refine Two.mk (fun h => ?_) (fun h => ?_) <;> try first | contradiction | (exfalso; omega))
  · have hk2 : k < s.xs.length := by omega
    refine CallG_conv (L' := (roS s.xs[k].d :: H) ++ (roS s :: F)) (fun B w h => (ro_pull_put hk2 h).perm (.cons _ List.perm_middle.symm)) ?_
    refine CallG.use (R := roS s :: F) (p := ⟨fun _ _ _ h => h⟩) (hg k hk2) ?_
    rintro r M ⟨rfl, rfl⟩
    repeat' first | refine adv ?_ | refine Side.go ?_ | refine Giv.mk fun _ => ?_ | refine All.mk fun q => ?_ | refine Fork.mk ?_ ?_ | (refine Two.mk (fun h => ?_) (fun h => ?_) <;> try first | contradiction | (exfalso; omega))
    · refine endQ.oneW Tryz.results151 ⟨_, rfl, ⟨fun _ => ?_, fun _ => by omega⟩, rfl⟩ (fun w h => h.perm (List.perm_middle.trans (.refl _)) |>.tail)
      rw [List.any_eq_true]
      exact ⟨s.xs[k].v, List.mem_map.2 ⟨s.xs[k], List.getElem_mem hk2, rfl⟩, h⟩
    · refine loopQ.next ⟨k + 1, by omega, ?_⟩ (by simp only []; omega) (evs rfl (evs rfl (evs rfl (evs rfl .nil)))) (fun w h => h.perm List.perm_middle)
      rw [List.take_succ_eq_append_getElem hk2, List.map_append, List.any_append, hp]
      simpa using h
  · have hk3 : k = s.xs.length := by omega
    subst hk3
    rw [List.take_length] at hp
    refine endQ.oneW Tryz.results151 ⟨_, rfl, ⟨fun hn => by omega, fun hn => by rw [hp] at hn; cases hn⟩, rfl⟩ (fun w h => h.tail)

theorem contains_put (s : Sl PutR) (g : FuncId) [TFunc Tryz.prog g] (cs : List Value) (H : List HProp) (pred : PV → Bool)
    (hg : ∀ j (h : j < s.xs.length), Spec Tryz.prog g (.agg #[.int .i64 s.xs[j].lba, s.xs[j].d.val] :: cs).toArray (roS s.xs[j].d :: H) (fun v L => v = .bool (pred s.xs[j].v) ∧ L = H)) :
    Spec Tryz.prog 127 #[s.val, .func (.func g) #[] cs.toArray] (roS s :: H) (fun v L => v = .bool ((s.xs.map PutR.v).any pred) ∧ L = H) := by
  refine enter2 Tryz.func127 rfl (by decide) (by decide) ?_
  intro B F
  dsimp only [lcA, lnA]
  repeat' first | refine adv ?_ | refine Side.go ?_ | refine Giv.mk fun _ => ?_ | refine All.mk fun q => ?_ | refine Fork.mk ?_ ?_ | (refine Two.mk (fun h => ?_) (fun h => ?_) <;> try first | contradiction | (exfalso; omega))
  refine CallG.use (R := F) (p := ⟨fun _ _ _ h => h⟩) (index_put s g cs H pred hg) ?_
  rintro r M ⟨n, rfl, hn, rfl⟩
  repeat' first | refine adv ?_ | refine Side.go ?_ | refine Giv.mk fun _ => ?_ | refine All.mk fun q => ?_ | refine Fork.mk ?_ ?_ | (refine Two.mk (fun h => ?_) (fun h => ?_) <;> try first | contradiction | (exfalso; omega))
  refine endQ.one Tryz.results127 ⟨?_, rfl⟩
  congr 1
  rw [Bool.eq_iff_iff, decide_eq_true_eq, hn]

def putOk (p : PV) : Bool := decide ((0 ≤ p.1 ∧ p.1 ≤ 1048576) ∧ p.2.length = 40)
theorem batch_put (lba : Int) (d : Sl UInt8) : Spec Tryz.prog 164 #[.agg #[.int .i64 lba, d.val]] [roS d] (fun v L => v = .bool (putOk (lba, d.xs)) ∧ L = []) := by
  refine enter1 Tryz.func164 rfl (by decide) (by decide) ?_
  intro B F
  dsimp only [lcA, lnA]
  repeat' first | refine adv ?_ | refine Side.go ?_ | refine Giv.mk fun _ => ?_ | refine All.mk fun q => ?_ | refine Fork.mk ?_ ?_ | (refine Two.mk (fun h => ?_) (fun h => ?_) <;> try first | contradiction | (exfalso; omega))
  all_goals refine endQ.one Tryz.results164 ⟨?_, rfl⟩
  all_goals unfold putOk
  all_goals dsimp only
  all_goals first | (congr 1; exact (decide_eq_true (by omega)).symm) | (congr 1; exact (decide_eq_false (by omega)).symm) | (congr 1; exact decide_eq_decide.2 (by omega))
theorem batch_check1 (lba : Int) (d : Sl UInt8) : Spec Tryz.prog 163 #[.agg #[.int .i64 lba, d.val]] [roS d] (fun v L => v = .bool (!putOk (lba, d.xs)) ∧ L = []) := by
  refine enter1 Tryz.func163 rfl (by decide) (by decide) ?_
  intro B F
  dsimp only [lcA, lnA]
  repeat' first | refine adv ?_ | refine Side.go ?_ | refine Giv.mk fun _ => ?_ | refine All.mk fun q => ?_ | refine Fork.mk ?_ ?_ | (refine Two.mk (fun h => ?_) (fun h => ?_) <;> try first | contradiction | (exfalso; omega))
  refine CallG.use (batch_put lba d) ?_
  rintro r M ⟨rfl, rfl⟩
  dsimp only [lcA, lnA]
  repeat' first | refine adv ?_ | refine Side.go ?_ | refine Giv.mk fun _ => ?_ | refine All.mk fun q => ?_ | refine Fork.mk ?_ ?_ | (refine Two.mk (fun h => ?_) (fun h => ?_) <;> try first | contradiction | (exfalso; omega))
  exact endQ.one Tryz.results163 ⟨rfl, rfl⟩

def blocksN (l : List TV) : Nat := 1 + (l.map (·.2.length)).sum
theorem batch_blocks (num : Int) (s : Sl TxR) (h8 : s.xs.length ≤ 1000) : Spec Tryz.prog 162 #[.agg #[.int .i64 num, s.val]] [roS s] (fun v L => v = .int .i64 (blocksN (s.xs.map TxR.v)) ∧ L = []) := by
  refine enter1 Tryz.func162 rfl (by decide) (by decide) ?_
  intro B F
  dsimp only [lcA, lnA]
  refine Sy_know (fun B w h => ro_ok s B w h) (fun hs => ?_)
  have hsl := hs.len
  repeat' first | refine adv ?_ | refine Side.go ?_ | refine Giv.mk fun _ => ?_ | refine All.mk fun q => ?_ | refine Fork.mk ?_ ?_ | (refine Two.mk (fun h => ?_) (fun h => ?_) <;> try first | contradiction | (exfalso; omega))
  refine Sy_loop (ι := {st : Nat × Nat // (st.1 ≤ s.xs.length ∧ st.2 ≤ 1 + st.1 * 140737488355328) ∧ st.2 + (((s.xs.drop st.1).map TxR.v).map (·.2.length)).sum = blocksN (s.xs.map TxR.v)})
    (fun st => [(9, .int .i64 st.1.1), (8, .int .i64 s.xs.length), (7, s.val), (3, .int .i64 st.1.2)]) (fun _ => roS s :: F) (fun st => s.xs.length - st.1.1) ⟨(0, 1), ⟨Nat.zero_le _, by simp⟩, rfl⟩ (evs rfl (evs rfl (evs rfl (evs rfl .nil)))) (fun w h => goes w h) ?_
  rintro ⟨⟨k, n⟩, hk, hsum⟩ env
  dsimp only [upds] at hk hsum ⊢
  by_cases hk2 : k < s.xs.length
  · refine Sy_conv (L' := roS s.xs[k].ps :: roS s :: F) (fun w h => ro_pull_tx hk2 h) ?_
    refine Sy_know (fun B w h => ro_ok s.xs[k].ps B w h) (fun hp => ?_)
    have hpl := hp.len
    repeat' first | refine adv ?_ | refine Side.go ?_ | refine Giv.mk fun _ => ?_ | refine All.mk fun q => ?_ | refine Fork.mk ?_ ?_ | (refine Two.mk (fun h => ?_) (fun h => ?_) <;> try first | contradiction | (exfalso; omega))
    refine loopQ.next ⟨(k + 1, n + s.xs[k].ps.xs.length), ⟨by dsimp only; omega, by dsimp only; omega⟩, ?_⟩ (by simp only []; omega) (evs rfl (evs rfl (evs rfl (evs rfl .nil)))) (fun w h => goes w h)
    rw [← hsum, List.drop_eq_getElem_cons hk2]
    simp only [List.map_cons, List.sum_cons, List.length_map]
    omega
  · have hk3 : k = s.xs.length := by omega
    subst hk3
    repeat' first | refine adv ?_ | refine Side.go ?_ | refine Giv.mk fun _ => ?_ | refine All.mk fun q => ?_ | refine Fork.mk ?_ ?_ | (refine Two.mk (fun h => ?_) (fun h => ?_) <;> try first | contradiction | (exfalso; omega))
    refine endQ.one Tryz.results162 ⟨?_, rfl⟩
    rw [← hsum, List.drop_of_length_le (Nat.le_refl _)]
    rfl

def formGo : Nat → Int → List TV → Nat
  | n, _, [] => n
  | n, p, t :: ts => if 8 ≤ n ∨ 0 < n ∧ 32 - p < t.2.length then n else formGo (n + 1) (p + t.2.length) ts
theorem batch_form (s : Sl TxR) : Spec Tryz.prog 102 #[s.val] [roS s] (fun v L => v = .int .i64 (formGo 0 0 (s.xs.map TxR.v)) ∧ L = []) := by
  refine enter1 Tryz.func102 rfl (by decide) (by decide) ?_
  intro B F
  dsimp only [lcA, lnA]
  refine Sy_know (fun B w h => ro_ok s B w h) (fun hs => ?_)
  have hsl := hs.len
  repeat' first | refine adv ?_ | refine Side.go ?_ | refine Giv.mk fun _ => ?_ | refine All.mk fun q => ?_ | refine Fork.mk ?_ ?_ | (refine Two.mk (fun h => ?_) (fun h => ?_) <;> try first | contradiction | (exfalso; omega))
  refine Sy_loop (ι := {st : Nat × Nat // (st.1 ≤ s.xs.length ∧ st.1 ≤ 8 ∧ st.2 ≤ st.1 * 140737488355328) ∧ formGo 0 0 (s.xs.map TxR.v) = formGo st.1 st.2 ((s.xs.map TxR.v).drop st.1)})
    (fun st => [(8, .int .i64 st.1.1), (7, .int .i64 s.xs.length), (6, s.val), (2, .int .i64 st.1.1), (3, .int .i64 st.1.2)]) (fun _ => roS s :: F) (fun st => s.xs.length - st.1.1) ⟨(0, 0), ⟨Nat.zero_le _, by decide, by simp⟩, rfl⟩ (evs rfl (evs rfl (evs rfl (evs rfl (evs rfl .nil))))) (fun w h => goes w h) ?_
  rintro ⟨⟨k, n⟩, hk, hgo⟩ env
  dsimp only [upds] at hk hgo ⊢
  by_cases hk2 : k < s.xs.length
  · refine Sy_conv (L' := roS s.xs[k].ps :: roS s :: F) (fun w h => ro_pull_tx hk2 h) ?_
    refine Sy_know (fun B w h => ro_ok s.xs[k].ps B w h) (fun hp => ?_)
    have hpl := hp.len
    have hst := hgo
    rw [List.drop_eq_getElem_cons (by simpa using hk2), List.getElem_map, formGo] at hst
    dsimp only [TxR.v] at hst
    simp only [List.length_map] at hst
    repeat' first | refine adv ?_ | refine Side.go ?_ | refine Giv.mk fun _ => ?_ | refine All.mk fun q => ?_ | refine Fork.mk ?_ ?_ | (refine Two.mk (fun h => ?_) (fun h => ?_) <;> try first | contradiction | (exfalso; omega))
    all_goals first
      | (exact endQ.one Tryz.results102 ⟨by rw [hst, if_pos (by omega)], rfl⟩)
      | (rw [if_neg (by omega)] at hst
         refine loopQ.next ⟨(k + 1, n + s.xs[k].ps.xs.length), ⟨by dsimp only; omega, by dsimp only; omega, by dsimp only; omega⟩, ?_⟩ (by simp only []; omega) (evs rfl (evs rfl (evs rfl (evs rfl (evs rfl .nil))))) (fun w h => goes w h)
         simpa using hst)
  · have hk3 : k = s.xs.length := by omega
    subst hk3
    repeat' first | refine adv ?_ | refine Side.go ?_ | refine Giv.mk fun _ => ?_ | refine All.mk fun q => ?_ | refine Fork.mk ?_ ?_ | (refine Two.mk (fun h => ?_) (fun h => ?_) <;> try first | contradiction | (exfalso; omega))
    refine endQ.one Tryz.results102 ⟨?_, rfl⟩
    rw [hgo, List.drop_of_length_le (by simp)]
    rfl
end Go.SL
namespace Go.SL
open Go.Proofs
set_option synthInstance.maxSize 4000
set_option synthInstance.maxHeartbeats 400000
set_option maxRecDepth 4000
set_option maxHeartbeats 2000000

def vput (vs : List (Int × List PV)) (k : Int) (x : PV) : List (Int × List PV) := vset vs k ((vget vs k).getD [] ++ [x])
def Em.put (E : Em) (t : Int) (ps : List PV) : Em := { E with vs := ps.foldl (fun vs p => vput vs p.1 (t, p.2)) E.vs, last := t }
def Em.apply (E : Em) (t : Int) (ps : List PV) : Int × Em :=
  if E.blocks = 0 then (1, E)
  else if t ≤ E.last ∨ 1099511627776 < t then (11, E)
  else if (rises ps && decide (0 < ps.length)) = false then (1, E)
  else if ¬ ((0 : Int) ≤ (ps.head?.getD (0, [])).1 ∧ (ps.head?.getD (0, [])).1 < E.blocks) ∨ ¬ ((0 : Int) ≤ (ps.getLast?.getD (0, [])).1 ∧ (ps.getLast?.getD (0, [])).1 < E.blocks) then (2, E)
  else if ps.any (fun p => decide (p.2.length ≠ 40)) = true then (3, E)
  else (0, E.put t ps)

/-- Versions as they lie in memory, and as they are read. -/
def vv (vs : List (Int × Sl Ver)) : List (Int × List PV) := vs.map fun e => (e.1, e.2.xs.map Ver.v)
theorem vget_vv (vs : List (Int × Sl Ver)) (k : Int) : vget (vv vs) k = (vget vs k).map fun s => s.xs.map Ver.v := by
  unfold vget vv
  rw [List.find?_map]
  have e : ((fun e : Int × List PV => e.1 == k) ∘ fun e : Int × Sl Ver => (e.1, e.2.xs.map Ver.v)) = fun e => e.1 == k := rfl
  rw [e]
  cases vs.find? (fun e => e.1 == k) <;> rfl
theorem vset_vv (vs : List (Int × Sl Ver)) (k : Int) (s : Sl Ver) : vset (vv vs) k (s.xs.map Ver.v) = vv (vset vs k s) := by
  unfold vset vv
  have e : (vs.map fun e => (e.1, e.2.xs.map Ver.v)).any (fun e => e.1 == k) = vs.any (fun e => e.1 == k) := by rw [List.any_map]; rfl
  rw [e]
  split
  · rw [List.map_map, List.map_map]
    apply List.map_congr_left
    intro a _
    simp only [Function.comp]
    split <;> simp_all
  · simp

theorem ext_apply (m : Nat) (E : Em) (t : Int) (ps : Sl PutR) (hbig : ∀ e ∈ E.vs, e.2.length ≤ 1000000) (hpn : ps.xs.length ≤ 1000000) :
    Spec Tryz.prog 88 #[.pointer (some ⟨m, 0, none⟩), .agg #[.int .i64 t, ps.val]] [emO m E, roS ps] (fun v L => v = .int .i64 (E.apply t (ps.xs.map PutR.v)).1 ∧ L = [emO m (E.apply t (ps.xs.map PutR.v)).2]) := by
  refine enter2 Tryz.func88 rfl (by decide) (by decide) ?_
  intro B F
  dsimp only [lcA, lnA]
  refine Sy_know (fun B w h => ro_ok ps B w h) (fun hps => ?_)
  have hpsl := hps.len
  refine Sy_all (fun w h => emO_open h) (fun r => ?_)
  obtain ⟨r, hr⟩ := r
  dsimp only [emL, List.cons_append, List.nil_append]
  repeat' first | refine adv ?_ | refine Side.go ?_ | refine Giv.mk fun _ => ?_ | refine All.mk fun q => ?_ | refine Fork.mk ?_ ?_ | (refine Two.mk (fun h => ?_) (fun h => ?_) <;> try first | contradiction | (exfalso; omega))
  refine CallG.use (ext_gone m E.blocks (.map (some r.1)) (.int .i64 E.last)) ?_
  rintro r M ⟨rfl, rfl⟩
  dsimp only [lcA, lnA]
  by_cases hb : E.blocks = 0
  · have e : E.apply t (ps.xs.map PutR.v) = (1, E) := by rw [Em.apply, if_pos hb]
    rw [decide_eq_true hb]
    repeat' first | refine adv ?_ | refine Side.go ?_ | refine Giv.mk fun _ => ?_ | refine All.mk fun q => ?_ | refine Fork.mk ?_ ?_ | (refine Two.mk (fun h => ?_) (fun h => ?_) <;> try first | contradiction | (exfalso; omega))
    rw [e]
    exact endQ.oneW Tryz.results88 ⟨rfl, rfl⟩ (fun w h => emO_close E r hr (goes w h))
  rw [decide_eq_false hb]
  repeat' first | refine adv ?_ | refine Side.go ?_ | refine Giv.mk fun _ => ?_ | refine All.mk fun q => ?_ | refine Fork.mk ?_ ?_ | (refine Two.mk (fun h => ?_) (fun h => ?_) <;> try first | contradiction | (exfalso; omega))
  · have e : E.apply t (ps.xs.map PutR.v) = (11, E) := by rw [Em.apply, if_neg hb, if_pos (by omega)]
    rw [e]
    exact endQ.oneW Tryz.results88 ⟨rfl, rfl⟩ (fun w h => emO_close E r hr (goes w h))
  · have e : E.apply t (ps.xs.map PutR.v) = (11, E) := by rw [Em.apply, if_neg hb, if_pos (by omega)]
    rw [e]
    exact endQ.oneW Tryz.results88 ⟨rfl, rfl⟩ (fun w h => emO_close E r hr (goes w h))
  have ht : ¬ (t ≤ E.last ∨ 1099511627776 < t) := by omega
  refine CallG.use (ext_rise ps) ?_
  rintro r M ⟨rfl, rfl⟩
  dsimp only [lcA, lnA]
  cases hri : rises (ps.xs.map PutR.v) && decide (0 < ps.xs.length) with
  | false =>
    repeat' first | refine adv ?_ | refine Side.go ?_ | refine Giv.mk fun _ => ?_ | refine All.mk fun q => ?_ | refine Fork.mk ?_ ?_ | (refine Two.mk (fun h => ?_) (fun h => ?_) <;> try first | contradiction | (exfalso; omega))
    have e : E.apply t (ps.xs.map PutR.v) = (1, E) := by rw [Em.apply, if_neg hb, if_neg ht, if_pos (by rw [List.length_map]; exact hri)]
    rw [e]
    exact endQ.oneW Tryz.results88 ⟨rfl, rfl⟩ (fun w h => emO_close E r hr (goes w h))
  | true =>
    have hl0 : 0 < ps.xs.length := by
      rw [Bool.and_eq_true] at hri
      exact of_decide_eq_true hri.2
    have hix : ((ps.xs.length : Int) - 1).toNat = ps.xs.length - 1 := by omega
    have hfst : ((ps.xs.map PutR.v).head?.getD (0, [])).1 = ps.xs[0].lba := by
      rw [List.head?_eq_getElem?, List.getElem?_eq_getElem (by simpa using hl0), List.getElem_map]; rfl
    have hlst : ((ps.xs.map PutR.v).getLast?.getD (0, [])).1 = (ps.xs[ps.xs.length - 1]'(by omega)).lba := by
      rw [List.getLast?_eq_getElem?, List.length_map, List.getElem?_eq_getElem (by simp; omega), List.getElem_map]; rfl
    have hno : ¬ (rises (ps.xs.map PutR.v) && decide (0 < (ps.xs.map PutR.v).length)) = false := by rw [List.length_map, hri]; simp
    have e2 : (¬ ((0 : Int) ≤ ps.xs[0].lba ∧ ps.xs[0].lba < E.blocks) ∨ ¬ ((0 : Int) ≤ (ps.xs[ps.xs.length - 1]'(by omega)).lba ∧ (ps.xs[ps.xs.length - 1]'(by omega)).lba < E.blocks)) → E.apply t (ps.xs.map PutR.v) = (2, E) := fun h => by
      rw [Em.apply, if_neg hb, if_neg ht, if_neg hno, if_pos (by rw [hfst, hlst]; exact h)]
    repeat' first | refine adv ?_ | refine Side.go ?_ | refine Giv.mk fun _ => ?_ | refine All.mk fun q => ?_ | refine Fork.mk ?_ ?_ | (refine Two.mk (fun h => ?_) (fun h => ?_) <;> try first | contradiction | (exfalso; omega))
    refine CallG.use (ext_block m E.blocks (.map (some r.1)) (.int .i64 E.last) ps.xs[0].lba) ?_
    rintro r M ⟨rfl, rfl⟩
    dsimp only [lcA, lnA]
    by_cases h1 : (0 : Int) ≤ ps.xs[0].lba ∧ ps.xs[0].lba < E.blocks
    case neg =>
      rw [decide_eq_false h1]
      repeat' first | refine adv ?_ | refine Side.go ?_ | refine Giv.mk fun _ => ?_ | refine All.mk fun q => ?_ | refine Fork.mk ?_ ?_ | (refine Two.mk (fun h => ?_) (fun h => ?_) <;> try first | contradiction | (exfalso; omega))
      rw [e2 (.inl h1)]
      exact endQ.oneW Tryz.results88 ⟨rfl, rfl⟩ (fun w h => emO_close E r hr (goes w h))
    rw [decide_eq_true h1]
    repeat' first | refine adv ?_ | refine Side.go ?_ | refine Giv.mk fun _ => ?_ | refine All.mk fun q => ?_ | refine Fork.mk ?_ ?_ | (refine Two.mk (fun h => ?_) (fun h => ?_) <;> try first | contradiction | (exfalso; omega))
    simp only [hix]
    refine CallG.use (ext_block m E.blocks (.map (some r.1)) (.int .i64 E.last) (ps.xs[ps.xs.length - 1]'(by omega)).lba) ?_
    rintro r M ⟨rfl, rfl⟩
    dsimp only [lcA, lnA]
    by_cases h2 : (0 : Int) ≤ (ps.xs[ps.xs.length - 1]'(by omega)).lba ∧ (ps.xs[ps.xs.length - 1]'(by omega)).lba < E.blocks
    case neg =>
      rw [decide_eq_false h2]
      repeat' first | refine adv ?_ | refine Side.go ?_ | refine Giv.mk fun _ => ?_ | refine All.mk fun q => ?_ | refine Fork.mk ?_ ?_ | (refine Two.mk (fun h => ?_) (fun h => ?_) <;> try first | contradiction | (exfalso; omega))
      rw [e2 (.inr h2)]
      exact endQ.oneW Tryz.results88 ⟨rfl, rfl⟩ (fun w h => emO_close E r hr (goes w h))
    rw [decide_eq_true h2]
    repeat' first | refine adv ?_ | refine Side.go ?_ | refine Giv.mk fun _ => ?_ | refine All.mk fun q => ?_ | refine Fork.mk ?_ ?_ | (refine Two.mk (fun h => ?_) (fun h => ?_) <;> try first | contradiction | (exfalso; omega))
    refine CallG.use (contains_put ps 128 [] [] (fun p => decide (p.2.length ≠ 40)) (fun j hj => ext_apply1 ps.xs[j].lba ps.xs[j].d)) ?_
    rintro r M ⟨rfl, rfl⟩
    dsimp only [lcA, lnA]
    have hr2 : ¬ (¬ ((0 : Int) ≤ ps.xs[0].lba ∧ ps.xs[0].lba < E.blocks) ∨ ¬ ((0 : Int) ≤ (ps.xs[ps.xs.length - 1]'(by omega)).lba ∧ (ps.xs[ps.xs.length - 1]'(by omega)).lba < E.blocks)) := fun h => h.elim (fun h => h h1) (fun h => h h2)
    cases hany : (ps.xs.map PutR.v).any (fun p => decide (p.2.length ≠ 40)) with
    | true =>
      repeat' first | refine adv ?_ | refine Side.go ?_ | refine Giv.mk fun _ => ?_ | refine All.mk fun q => ?_ | refine Fork.mk ?_ ?_ | (refine Two.mk (fun h => ?_) (fun h => ?_) <;> try first | contradiction | (exfalso; omega))
      have e : E.apply t (ps.xs.map PutR.v) = (3, E) := by rw [Em.apply, if_neg hb, if_neg ht, if_neg hno, if_neg (by rw [hfst, hlst]; exact hr2), if_pos hany]
      rw [e]
      exact endQ.oneW Tryz.results88 ⟨rfl, rfl⟩ (fun w h => emO_close E r hr (goes w h))
    | false =>
      have e : E.apply t (ps.xs.map PutR.v) = (0, E.put t (ps.xs.map PutR.v)) := by rw [Em.apply, if_neg hb, if_neg ht, if_neg hno, if_neg (by rw [hfst, hlst]; exact hr2), if_neg (by rw [hany]; simp)]
      rw [e]
      repeat' first | refine adv ?_ | refine Side.go ?_ | refine Giv.mk fun _ => ?_ | refine All.mk fun q => ?_ | refine Fork.mk ?_ ?_ | (refine Two.mk (fun h => ?_) (fun h => ?_) <;> try first | contradiction | (exfalso; omega))
      obtain ⟨q0, hq0⟩ : ∃ p, p = q := ⟨q, rfl⟩
      subst hq0
      refine Sy_loop (ι := {st : Nat × List (Int × Sl Ver) // (st.1 ≤ ps.xs.length ∧ ∀ e ∈ st.2, e.2.xs.length ≤ 1000000 + st.1) ∧ vv st.2 = ((ps.xs.take st.1).map PutR.v).foldl (fun vs p => vput vs p.1 (t, p.2)) E.vs})
        (fun st => [(58, .int .i64 st.1.1), (57, .int .i64 ps.xs.length), (56, ps.val), (0, .pointer (some ⟨m, 0, none⟩)), (3, .pointer (some ⟨q0, 0, none⟩))])
        (fun st => cells true q0 0 [.int .i64 t, ps.val] :: cells true m 0 [.int .i64 E.blocks, .map (some r.1), .int .i64 E.last] :: mapO r.1 (vmap Sl.val st.1.2) :: bigS (fun q : Int × Sl Ver => ownS q.2) st.1.2 :: roS ps :: F)
        (fun st => ps.xs.length - st.1.1) ⟨(0, r.2), ⟨Nat.zero_le _, ?_⟩, hr⟩ (evs rfl (evs rfl (evs rfl (evs rfl (evs rfl .nil))))) (fun w h => goes w h) ?_
      · intro e he
        have h9 := hbig (e.1, e.2.xs.map Ver.v) (by rw [← hr]; exact List.mem_map.2 ⟨e, he, rfl⟩)
        simpa using h9
      rintro ⟨⟨k, vs⟩, ⟨hk, hlen⟩, hfold⟩ env
      dsimp only [upds] at hk hlen hfold ⊢
      refine Sy_know (fun B w h => map_nodup (r := r.1) (es := vmap Sl.val vs) B w h) (fun hn => ?_)
      rw [vmap_keys] at hn
      by_cases hk2 : k < ps.xs.length
      · have hs1 : ((vget vs ps.xs[k].lba).getD nilS).xs.length ≤ 1000000 + k := by
          cases hg : vget vs ps.xs[k].lba with
          | none => simp [nilS]
          | some s =>
            have hp := vget_perm hn hg
            exact hlen (ps.xs[k].lba, s) (hp.symm.subset (List.mem_cons_self ..))
        haveI := md_sl vs ps.xs[k].lba
        refine Sy_conv (fun w h => pull_put ps hk2 w (take_own vs ps.xs[k].lba hn w h)) ?_
        generalize hsg : (vget vs ps.xs[k].lba).getD nilS = s at *
        repeat' first | refine adv ?_ | refine Side.go ?_ | refine Giv.mk fun _ => ?_ | refine All.mk fun q => ?_ | refine Fork.mk ?_ ?_ | (refine Two.mk (fun h => ?_) (fun h => ?_) <;> try first | contradiction | (exfalso; omega))
        · refine CallG.use (clone_bytes ps.xs[k].d) ?_
          rintro r M ⟨a, c, rfl, rfl⟩
          dsimp only [lcA, lnA]
          repeat' first | refine adv ?_ | refine Side.go ?_ | refine Giv.mk fun _ => ?_ | refine All.mk fun q => ?_ | refine Fork.mk ?_ ?_ | (refine Two.mk (fun h => ?_) (fun h => ?_) <;> try first | contradiction | (exfalso; omega))
          refine AppG.oneV s ⟨t, ⟨a, c, ps.xs[k].d.xs⟩⟩ (by omega) (fun a2 c2 => ?_)
          repeat' first | refine adv ?_ | refine Side.go ?_ | refine Giv.mk fun _ => ?_ | refine All.mk fun q => ?_ | refine Fork.mk ?_ ?_ | (refine Two.mk (fun h => ?_) (fun h => ?_) <;> try first | contradiction | (exfalso; omega))
          refine loopQ.next ⟨(k + 1, vset vs ps.xs[k].lba ⟨a2, c2, s.xs ++ [⟨t, ⟨a, c, ps.xs[k].d.xs⟩⟩]⟩), ⟨by dsimp only; omega, ?_⟩, ?_⟩ (by simp only []; omega) (evs rfl (evs rfl (evs rfl (evs rfl (evs rfl .nil))))) (fun w h => ?_)
          · intro e he
            have he2 := (vset_perm hn (⟨a2, c2, s.xs ++ [⟨t, ⟨a, c, ps.xs[k].d.xs⟩⟩]⟩ : Sl Ver)).symm.subset he
            rcases List.mem_cons.1 he2 with rfl | he2
            · simp; omega
            · have := hlen e (List.mem_filter.1 he2).1
              dsimp only; omega
          · dsimp only
            rw [List.take_succ_eq_append_getElem hk2, List.map_append, List.foldl_append, ← hfold, List.map_cons, List.map_nil, List.foldl_cons, List.foldl_nil, vput, vget_vv, ← vset_vv]
            congr 1
            rw [List.map_append, ← hsg]
            cases vget vs ps.xs[k].lba <;> rfl
          · dsimp only
            rw [← mset_vmap]
            have h2 : sat B (ownS (⟨a2, c2, s.xs ++ [⟨t, ⟨a, c, ps.xs[k].d.xs⟩⟩]⟩ : Sl Ver) :: bigS (fun q : Int × Sl Ver => ownS q.2) (vdel vs ps.xs[k].lba) :: cells true q0 0 [.int .i64 t, ps.val] :: cells true m 0 [.int .i64 E.blocks, .map (some r.1), .int .i64 E.last] :: mapO r.1 (mset (vmap Sl.val vs) ps.xs[k].lba (⟨a2, c2, s.xs ++ [⟨t, ⟨a, c, ps.xs[k].d.xs⟩⟩]⟩ : Sl Ver).val) :: roS ps :: F) w := goes w h
            exact goes w (put_own vs ps.xs[k].lba _ hn h2)
      · have hk3 : k = ps.xs.length := by omega
        subst hk3
        rw [List.take_length] at hfold
        repeat' first | refine adv ?_ | refine Side.go ?_ | refine Giv.mk fun _ => ?_ | refine All.mk fun q => ?_ | refine Fork.mk ?_ ?_ | (refine Two.mk (fun h => ?_) (fun h => ?_) <;> try first | contradiction | (exfalso; omega))
        refine endQ.oneW Tryz.results88 ⟨rfl, rfl⟩ (fun w h => ?_)
        have h2 : sat B (cells true m 0 [.int .i64 E.blocks, .map (some r.1), .int .i64 t] :: mapO r.1 (vmap Sl.val vs) :: bigS (fun q : Int × Sl Ver => ownS q.2) vs :: F) w := goes w h
        exact emO_close (E.put t (ps.xs.map PutR.v)) (r.1, vs) hfold h2
end Go.SL
namespace Go.SL

theorem sat.behind {B : World} {L : List HProp} {w w' : World} (s : sat B L w) (h : RowKit.Below w.heap.size w w') : sat B L w' := by
  obtain ⟨b, g, hs, hr⟩ := s
  have hcell : ∀ a : Addr, a.block < w.heap.size → w'.cell? a = w.cell? a := fun a ha => by unfold World.cell?; rw [h.block a.block ha]
  have hfr : ∀ a : Addr, a.block < w.heap.size → w'.frozen? a = w.frozen? a := fun a ha => by unfold World.frozen?; rw [h.block a.block ha]
  refine ⟨⟨h.os.trans b.os, h.output.trans b.output, Nat.le_trans b.size h.size, fun a ha => ?_, fun i c t fr hi => ?_⟩, g, hs, fun k bb x hk => ?_⟩
  · rw [hfr a (Nat.lt_of_lt_of_le ha b.size)]; exact b.frozen a ha
  · obtain ⟨c', h1, h2⟩ := b.cells i c t fr hi
    have hlt : i < w.heap.size := by
      rcases Nat.lt_or_ge i w.heap.size with h' | h'
      · exact h'
      · rw [Array.getElem?_eq_none h'] at h1; cases h1
    exact ⟨c', by rw [h.block i hlt]; exact h1, h2⟩
  · have h1 := hr k bb x hk
    have hlt := okAt_lt h1
    cases k with
    | cell r o =>
      cases x with
      | cell v => exact ⟨by rw [hcell ⟨r, o, none⟩ hlt]; exact h1.1, fun hb => by rw [hfr ⟨r, o, none⟩ hlt]; exact h1.2 hb⟩
      | obj y => exact h1.elim
    | obj r =>
      cases x with
      | cell v => exact h1.elim
      | obj y => exact ⟨by rw [h.block r hlt]; exact h1.1, h1.2⟩

theorem sat.fresh {B : World} {L : List HProp} {w w' : World} (s : sat B L w) (h : RowKit.Below w.heap.size w w') {g : Nat} {cur : Array Value} {e : TypeId} (hg : w.heap.size ≤ g) (hgc : w'.heap[g]? = some (.cells cur e)) :
    sat B (cells true g 0 cur.toList :: L) w' := by
  obtain ⟨b, h0, hs, hr⟩ := s
  obtain ⟨b', h0', hs', hr'⟩ := (show sat B L w from ⟨b, h0, hs, hr⟩).behind h
  have s' : sat B L w' := (show sat B L w from ⟨b, h0, hs, hr⟩).behind h
  have hfresh : ∀ o, h0 (.cell g o) = none := fun o => by
    cases hk : h0 (.cell g o) with
    | none => rfl
    | some y => exact absurd (okAt_lt (hr _ y.1 y.2 hk)) (by simp; omega)
  have hr2 : realises h0 w' := fun k bb x hk => by
    have s1 : sat B [fun g => g = h0] w := ⟨b, h0, ⟨h0, fun _ => none, fun _ => .inr (.inl rfl), by funext k; unfold join; cases h0 k <;> rfl, rfl, trivial⟩, hr⟩
    obtain ⟨_, g1, ⟨g2, g3, c, rfl, rfl, _⟩, hr3⟩ := s1.behind h
    exact hr3 k bb x (by unfold join; rw [hk])
  refine ⟨b', join (fun k => match k with | .cell r o => if r = g then (cur.toList[o]?).map fun v => (true, .cell v) else none | _ => none) h0, ⟨_, h0, ?_, rfl, ?_, hs⟩, ?_⟩
  · intro k
    cases k with
    | cell r o =>
      by_cases hr' : r = g
      · subst hr'; exact .inr (.inl (hfresh o))
      · exact .inl (by simp [hr'])
    | obj r => exact .inl rfl
  · intro i v hi
    simp only [Nat.zero_add, if_true, hi, Option.map_some]
  · intro k bb x hk
    unfold join at hk
    cases k with
    | cell r o =>
      by_cases hrg : r = g
      · subst hrg
        simp only [if_true] at hk
        cases hc : cur.toList[o]? with
        | none =>
          rw [hc] at hk
          simp only [Option.map_none] at hk
          rw [hfresh o] at hk
          cases hk
        | some v =>
          rw [hc] at hk
          simp only [Option.map_some, Option.some.injEq, Prod.mk.injEq] at hk
          obtain ⟨rfl, rfl⟩ := hk
          have hc2 : cur[o]? = some v := by simpa using hc
          exact ⟨by unfold World.cell?; rw [hgc]; simp [hc2], fun _ => by unfold World.frozen?; rw [hgc]; simp⟩
      · simp only [hrg, if_false] at hk
        exact hr2 _ _ _ hk
    | obj r => exact hr2 _ _ _ hk
end Go.SL
namespace Go.Proofs
open Go.Shelf
def Tryz.keysA_ren : Go.Shelf.Ren := ⟨fun | 7 => 145 | 10 => 166 | n => n, fun | 23 => 191 | 26 => 3 | 3 => 200 | 28 => 149 | 0 => 0 | 27 => 148 | 33 => 64 | 4 => 4 | n => n, fun | n => n⟩
theorem Tryz.keysA : Go.Proofs.SlLaysZI.n7 Tryz.prog Tryz.keysA_ren := {
  mixed := by kernel_rfl
  f7 := ⟨Tryz.f145.name, by decide, Tryz.func145.trans (congrArg some (by kernel_rfl))⟩
  f10 := ⟨Tryz.f166.name, by decide, Tryz.func166.trans (congrArg some (by kernel_rfl))⟩
  t0 := Tryz.underlying0
  a0 := Tryz.isAgg0
  z0 := Tryz.sizeOf0
  v0 := Tryz.zeroValue0
  t4 := Tryz.underlying4
  a4 := Tryz.isAgg4
  z4 := Tryz.sizeOf4
  v4 := Tryz.zeroValue4
  t23 := Tryz.underlying191
  a23 := Tryz.isAgg191
  z23 := Tryz.sizeOf191
  v23 := Tryz.zeroValue191
  t26 := Tryz.underlying3
  a26 := Tryz.isAgg3
  z26 := Tryz.sizeOf3
  v26 := Tryz.zeroValue3
  t27 := Tryz.underlying148
  a27 := Tryz.isAgg148
  z27 := Tryz.sizeOf148
  v27 := Tryz.zeroValue148
  t28 := Tryz.underlying149
  a28 := Tryz.isAgg149
  z28 := Tryz.sizeOf149
  v28 := Tryz.zeroValue149
  t33 := Tryz.underlying64
  a33 := Tryz.isAgg64
  z33 := Tryz.sizeOf64
  v33 := Tryz.zeroValue64 }
def Tryz.keysB_ren : Go.Shelf.Ren := ⟨fun | 7 => 90 | 10 => 131 | n => n, fun | 23 => 94 | 26 => 3 | 3 => 40 | 28 => 149 | 0 => 0 | 27 => 148 | 33 => 64 | 4 => 4 | n => n, fun | n => n⟩
theorem Tryz.keysB : Go.Proofs.SlLaysZI.n7 Tryz.prog Tryz.keysB_ren := {
  mixed := by kernel_rfl
  f7 := ⟨Tryz.f90.name, by decide, Tryz.func90.trans (congrArg some (by kernel_rfl))⟩
  f10 := ⟨Tryz.f131.name, by decide, Tryz.func131.trans (congrArg some (by kernel_rfl))⟩
  t0 := Tryz.underlying0
  a0 := Tryz.isAgg0
  z0 := Tryz.sizeOf0
  v0 := Tryz.zeroValue0
  t4 := Tryz.underlying4
  a4 := Tryz.isAgg4
  z4 := Tryz.sizeOf4
  v4 := Tryz.zeroValue4
  t23 := Tryz.underlying94
  a23 := Tryz.isAgg94
  z23 := Tryz.sizeOf94
  v23 := Tryz.zeroValue94
  t26 := Tryz.underlying3
  a26 := Tryz.isAgg3
  z26 := Tryz.sizeOf3
  v26 := Tryz.zeroValue3
  t27 := Tryz.underlying148
  a27 := Tryz.isAgg148
  z27 := Tryz.sizeOf148
  v27 := Tryz.zeroValue148
  t28 := Tryz.underlying149
  a28 := Tryz.isAgg149
  z28 := Tryz.sizeOf149
  v28 := Tryz.zeroValue149
  t33 := Tryz.underlying64
  a33 := Tryz.isAgg64
  z33 := Tryz.sizeOf64
  v33 := Tryz.zeroValue64 }
def Tryz.keysC_ren : Go.Shelf.Ren := ⟨fun | 7 => 167 | 10 => 189 | n => n, fun | 23 => 194 | 26 => 3 | 3 => 3 | 28 => 149 | 0 => 0 | 27 => 148 | 33 => 64 | 4 => 4 | n => n, fun | n => n⟩
theorem Tryz.keysC : Go.Proofs.SlLaysZI.n7 Tryz.prog Tryz.keysC_ren := {
  mixed := by kernel_rfl
  f7 := ⟨Tryz.f167.name, by decide, Tryz.func167.trans (congrArg some (by kernel_rfl))⟩
  f10 := ⟨Tryz.f189.name, by decide, Tryz.func189.trans (congrArg some (by kernel_rfl))⟩
  t0 := Tryz.underlying0
  a0 := Tryz.isAgg0
  z0 := Tryz.sizeOf0
  v0 := Tryz.zeroValue0
  t4 := Tryz.underlying4
  a4 := Tryz.isAgg4
  z4 := Tryz.sizeOf4
  v4 := Tryz.zeroValue4
  t23 := Tryz.underlying194
  a23 := Tryz.isAgg194
  z23 := Tryz.sizeOf194
  v23 := Tryz.zeroValue194
  t26 := Tryz.underlying3
  a26 := Tryz.isAgg3
  z26 := Tryz.sizeOf3
  v26 := Tryz.zeroValue3
  t27 := Tryz.underlying148
  a27 := Tryz.isAgg148
  z27 := Tryz.sizeOf148
  v27 := Tryz.zeroValue148
  t28 := Tryz.underlying149
  a28 := Tryz.isAgg149
  z28 := Tryz.sizeOf149
  v28 := Tryz.zeroValue149
  t33 := Tryz.underlying64
  a33 := Tryz.isAgg64
  z33 := Tryz.sizeOf64
  v33 := Tryz.zeroValue64 }
def Tryz.sortedA_ren : Go.Shelf.Ren := ⟨fun | 6 => 89 | 8 => 129 | 9 => 130 | 11 => 152 | 13 => 154 | 12 => 153 | 23 => 181 | 24 => 182 | 14 => 172 | 15 => 173 | 16 => 174 | 17 => 175 | 18 => 176 | 19 => 177 | 20 => 178 | 21 => 179 | 22 => 180 | 25 => 190 | 26 => 191 | 27 => 192 | 28 => 193 | 29 => 194 | 30 => 195 | 31 => 204 | n => n, fun | 26 => 3 | 28 => 149 | 24 => 24 | 0 => 0 | 3 => 3 | 37 => 215 | 48 => 128 | 50 => 125 | 4 => 4 | 40 => 250 | 39 => 249 | 45 => 109 | 5 => 5 | 9 => 9 | 51 => 263 | 55 => 267 | 57 => 275 | 58 => 276 | 33 => 64 | n => n, fun | n => n⟩
theorem Tryz.sortedA : Go.Proofs.SlLaysZI.n6 Tryz.prog Tryz.sortedA_ren := {
  mixed := by kernel_rfl
  f6 := ⟨Tryz.f89.name, by decide, Tryz.func89.trans (congrArg some (by kernel_rfl))⟩
  f8 := ⟨Tryz.f129.name, by decide, Tryz.func129.trans (congrArg some (by kernel_rfl))⟩
  f11 := ⟨Tryz.f152.name, by decide, Tryz.func152.trans (congrArg some (by kernel_rfl))⟩
  t0 := Tryz.underlying0
  a0 := Tryz.isAgg0
  z0 := Tryz.sizeOf0
  v0 := Tryz.zeroValue0
  t24 := Tryz.underlying24
  a24 := Tryz.isAgg24
  z24 := Tryz.sizeOf24
  v24 := Tryz.zeroValue24
  t26 := Tryz.underlying3
  a26 := Tryz.isAgg3
  z26 := Tryz.sizeOf3
  v26 := Tryz.zeroValue3
  t28 := Tryz.underlying149
  a28 := Tryz.isAgg149
  z28 := Tryz.sizeOf149
  v28 := Tryz.zeroValue149
  i26 := by kernel_rfl }
def Tryz.sortA_ren : Go.Shelf.Ren := ⟨fun | 5 => 130 | 8 => 154 | 7 => 153 | 19 => 181 | 20 => 182 | 10 => 172 | 11 => 173 | 12 => 174 | 13 => 175 | 14 => 176 | 15 => 177 | 16 => 178 | 17 => 179 | 18 => 180 | 30 => 190 | 31 => 191 | 32 => 192 | 33 => 193 | 34 => 194 | 35 => 195 | 40 => 204 | n => n, fun | 23 => 24 | 25 => 3 | 3 => 3 | 32 => 215 | 22 => 24 | 0 => 0 | 44 => 128 | 46 => 125 | 4 => 4 | 36 => 250 | 35 => 249 | 41 => 109 | 5 => 5 | 9 => 9 | 53 => 263 | 57 => 267 | 63 => 275 | 64 => 276 | n => n, fun | n => n⟩
theorem Tryz.sortA : Go.Proofs.SlLaysM.n5 Tryz.prog Tryz.sortA_ren := {
  mixed := by kernel_rfl
  f5 := ⟨Tryz.f130.name, by decide, Tryz.func130.trans (congrArg some (by kernel_rfl))⟩
  f7 := ⟨Tryz.f153.name, by decide, Tryz.func153.trans (congrArg some (by kernel_rfl))⟩
  f8 := Tryz.func154.trans (congrArg some (by kernel_rfl))
  f10 := ⟨Tryz.f172.name, by decide, Tryz.func172.trans (congrArg some (by kernel_rfl))⟩
  f11 := ⟨Tryz.f173.name, by decide, Tryz.func173.trans (congrArg some (by kernel_rfl))⟩
  f12 := ⟨Tryz.f174.name, by decide, Tryz.func174.trans (congrArg some (by kernel_rfl))⟩
  f13 := ⟨Tryz.f175.name, by decide, Tryz.func175.trans (congrArg some (by kernel_rfl))⟩
  f14 := ⟨Tryz.f176.name, by decide, Tryz.func176.trans (congrArg some (by kernel_rfl))⟩
  f15 := ⟨Tryz.f177.name, by decide, Tryz.func177.trans (congrArg some (by kernel_rfl))⟩
  f16 := ⟨Tryz.f178.name, by decide, Tryz.func178.trans (congrArg some (by kernel_rfl))⟩
  f17 := ⟨Tryz.f179.name, by decide, Tryz.func179.trans (congrArg some (by kernel_rfl))⟩
  f18 := ⟨Tryz.f180.name, by decide, Tryz.func180.trans (congrArg some (by kernel_rfl))⟩
  f19 := Tryz.func181.trans (congrArg some (by kernel_rfl))
  f20 := Tryz.func182.trans (congrArg some (by kernel_rfl))
  f30 := ⟨Tryz.f190.name, by decide, Tryz.func190.trans (congrArg some (by kernel_rfl))⟩
  f31 := Tryz.func191.trans (congrArg some (by kernel_rfl))
  f32 := Tryz.func192.trans (congrArg some (by kernel_rfl))
  f33 := ⟨Tryz.f193.name, by decide, Tryz.func193.trans (congrArg some (by kernel_rfl))⟩
  f34 := ⟨Tryz.f194.name, by decide, Tryz.func194.trans (congrArg some (by kernel_rfl))⟩
  f35 := ⟨Tryz.f195.name, by decide, Tryz.func195.trans (congrArg some (by kernel_rfl))⟩
  f40 := ⟨Tryz.f204.name, by decide, Tryz.func204.trans (congrArg some (by kernel_rfl))⟩
  t0 := Tryz.underlying0
  a0 := Tryz.isAgg0
  z0 := Tryz.sizeOf0
  v0 := Tryz.zeroValue0
  t3 := Tryz.underlying3
  a3 := Tryz.isAgg3
  z3 := Tryz.sizeOf3
  v3 := Tryz.zeroValue3
  t4 := Tryz.underlying4
  a4 := Tryz.isAgg4
  z4 := Tryz.sizeOf4
  v4 := Tryz.zeroValue4
  t5 := Tryz.underlying5
  a5 := Tryz.isAgg5
  z5 := Tryz.sizeOf5
  v5 := Tryz.zeroValue5
  t9 := Tryz.underlying9
  a9 := Tryz.isAgg9
  z9 := Tryz.sizeOf9
  v9 := Tryz.zeroValue9
  t22 := Tryz.underlying24
  a22 := Tryz.isAgg24
  z22 := Tryz.sizeOf24
  v22 := Tryz.zeroValue24
  t23 := Tryz.underlying24
  a23 := Tryz.isAgg24
  z23 := Tryz.sizeOf24
  v23 := Tryz.zeroValue24
  t25 := Tryz.underlying3
  a25 := Tryz.isAgg3
  z25 := Tryz.sizeOf3
  v25 := Tryz.zeroValue3
  t32 := Tryz.underlying215
  a32 := Tryz.isAgg215
  z32 := Tryz.sizeOf215
  v32 := Tryz.zeroValue215
  t35 := Tryz.underlying249
  a35 := Tryz.isAgg249
  z35 := Tryz.sizeOf249
  v35 := Tryz.zeroValue249
  t36 := Tryz.underlying250
  a36 := Tryz.isAgg250
  z36 := Tryz.sizeOf250
  v36 := Tryz.zeroValue250
  t41 := Tryz.underlying109
  a41 := Tryz.isAgg109
  z41 := Tryz.sizeOf109
  v41 := Tryz.zeroValue109
  t44 := Tryz.underlying128
  a44 := Tryz.isAgg128
  z44 := Tryz.sizeOf128
  v44 := Tryz.zeroValue128
  t46 := Tryz.underlying125
  a46 := Tryz.isAgg125
  z46 := Tryz.sizeOf125
  v46 := Tryz.zeroValue125
  t53 := Tryz.underlying263
  a53 := Tryz.isAgg263
  z53 := Tryz.sizeOf263
  v53 := Tryz.zeroValue263
  t57 := Tryz.underlying267
  a57 := Tryz.isAgg267
  z57 := Tryz.sizeOf267
  v57 := Tryz.zeroValue267
  t63 := Tryz.underlying275
  a63 := Tryz.isAgg275
  z63 := Tryz.sizeOf275
  v63 := Tryz.zeroValue275
  t64 := Tryz.underlying276
  a64 := Tryz.isAgg276
  z64 := Tryz.sizeOf276
  v64 := Tryz.zeroValue276 }
def Tryz.sortEx_ren : Go.Shelf.Ren := ⟨fun | 6 => 200 | 15 => 154 | 14 => 208 | 28 => 181 | 29 => 182 | 20 => 209 | 21 => 210 | 22 => 211 | 23 => 212 | 24 => 213 | 25 => 214 | 26 => 215 | 27 => 216 | 46 => 217 | 47 => 191 | 48 => 192 | 49 => 218 | 50 => 219 | 57 => 220 | n => n, fun | 22 => 230 | 24 => 236 | 25 => 272 | 3 => 3 | 39 => 215 | 0 => 0 | 53 => 128 | 55 => 125 | 4 => 4 | 46 => 250 | 45 => 249 | 50 => 109 | 5 => 5 | 9 => 9 | 66 => 263 | 70 => 267 | 76 => 275 | 77 => 276 | n => n, fun | n => n⟩
theorem Tryz.sortEx : Go.Proofs.SlLaysF0.n6 Tryz.prog Tryz.sortEx_ren := {
  mixed := by kernel_rfl
  f6 := ⟨Tryz.f200.name, by decide, Tryz.func200.trans (congrArg some (by kernel_rfl))⟩
  f14 := ⟨Tryz.f208.name, by decide, Tryz.func208.trans (congrArg some (by kernel_rfl))⟩
  f15 := Tryz.func154.trans (congrArg some (by kernel_rfl))
  f20 := ⟨Tryz.f209.name, by decide, Tryz.func209.trans (congrArg some (by kernel_rfl))⟩
  f21 := ⟨Tryz.f210.name, by decide, Tryz.func210.trans (congrArg some (by kernel_rfl))⟩
  f22 := ⟨Tryz.f211.name, by decide, Tryz.func211.trans (congrArg some (by kernel_rfl))⟩
  f23 := ⟨Tryz.f212.name, by decide, Tryz.func212.trans (congrArg some (by kernel_rfl))⟩
  f24 := ⟨Tryz.f213.name, by decide, Tryz.func213.trans (congrArg some (by kernel_rfl))⟩
  f25 := ⟨Tryz.f214.name, by decide, Tryz.func214.trans (congrArg some (by kernel_rfl))⟩
  f26 := ⟨Tryz.f215.name, by decide, Tryz.func215.trans (congrArg some (by kernel_rfl))⟩
  f27 := ⟨Tryz.f216.name, by decide, Tryz.func216.trans (congrArg some (by kernel_rfl))⟩
  f28 := Tryz.func181.trans (congrArg some (by kernel_rfl))
  f29 := Tryz.func182.trans (congrArg some (by kernel_rfl))
  f46 := ⟨Tryz.f217.name, by decide, Tryz.func217.trans (congrArg some (by kernel_rfl))⟩
  f47 := Tryz.func191.trans (congrArg some (by kernel_rfl))
  f48 := Tryz.func192.trans (congrArg some (by kernel_rfl))
  f49 := ⟨Tryz.f218.name, by decide, Tryz.func218.trans (congrArg some (by kernel_rfl))⟩
  f50 := ⟨Tryz.f219.name, by decide, Tryz.func219.trans (congrArg some (by kernel_rfl))⟩
  f57 := ⟨Tryz.f220.name, by decide, Tryz.func220.trans (congrArg some (by kernel_rfl))⟩
  t0 := Tryz.underlying0
  a0 := Tryz.isAgg0
  z0 := Tryz.sizeOf0
  v0 := Tryz.zeroValue0
  t3 := Tryz.underlying3
  a3 := Tryz.isAgg3
  z3 := Tryz.sizeOf3
  v3 := Tryz.zeroValue3
  t4 := Tryz.underlying4
  a4 := Tryz.isAgg4
  z4 := Tryz.sizeOf4
  v4 := Tryz.zeroValue4
  t5 := Tryz.underlying5
  a5 := Tryz.isAgg5
  z5 := Tryz.sizeOf5
  v5 := Tryz.zeroValue5
  t9 := Tryz.underlying9
  a9 := Tryz.isAgg9
  z9 := Tryz.sizeOf9
  v9 := Tryz.zeroValue9
  t22 := Tryz.underlying230
  a22 := Tryz.isAgg230
  z22 := Tryz.sizeOf230
  v22 := Tryz.zeroValue230
  t25 := Tryz.underlying272
  a25 := Tryz.isAgg272
  z25 := Tryz.sizeOf272
  v25 := Tryz.zeroValue272
  t39 := Tryz.underlying215
  a39 := Tryz.isAgg215
  z39 := Tryz.sizeOf215
  v39 := Tryz.zeroValue215
  t45 := Tryz.underlying249
  a45 := Tryz.isAgg249
  z45 := Tryz.sizeOf249
  v45 := Tryz.zeroValue249
  t46 := Tryz.underlying250
  a46 := Tryz.isAgg250
  z46 := Tryz.sizeOf250
  v46 := Tryz.zeroValue250
  t50 := Tryz.underlying109
  a50 := Tryz.isAgg109
  z50 := Tryz.sizeOf109
  v50 := Tryz.zeroValue109
  t53 := Tryz.underlying128
  a53 := Tryz.isAgg128
  z53 := Tryz.sizeOf128
  v53 := Tryz.zeroValue128
  t55 := Tryz.underlying125
  a55 := Tryz.isAgg125
  z55 := Tryz.sizeOf125
  v55 := Tryz.zeroValue125
  t66 := Tryz.underlying263
  a66 := Tryz.isAgg263
  z66 := Tryz.sizeOf263
  v66 := Tryz.zeroValue263
  t70 := Tryz.underlying267
  a70 := Tryz.isAgg267
  z70 := Tryz.sizeOf267
  v70 := Tryz.zeroValue267
  t76 := Tryz.underlying275
  a76 := Tryz.isAgg275
  z76 := Tryz.sizeOf275
  v76 := Tryz.zeroValue275
  t77 := Tryz.underlying276
  a77 := Tryz.isAgg276
  z77 := Tryz.sizeOf276
  v77 := Tryz.zeroValue276 }
def Tryz.cmpInt_ren : Go.Shelf.Ren := ⟨fun | 5 => 202 | 7 => 195 | n => n, fun | 22 => 3 | 3 => 3 | 4 => 4 | n => n, fun | n => n⟩
theorem Tryz.cmpInt : Go.Proofs.SlLaysC2.n5 Tryz.prog Tryz.cmpInt_ren := {
  mixed := by kernel_rfl
  f5 := ⟨Tryz.f202.name, by decide, Tryz.func202.trans (congrArg some (by kernel_rfl))⟩
  f7 := ⟨Tryz.f195.name, by decide, Tryz.func195.trans (congrArg some (by kernel_rfl))⟩
  t3 := Tryz.underlying3
  a3 := Tryz.isAgg3
  z3 := Tryz.sizeOf3
  v3 := Tryz.zeroValue3
  t4 := Tryz.underlying4
  a4 := Tryz.isAgg4
  z4 := Tryz.sizeOf4
  v4 := Tryz.zeroValue4
  t22 := Tryz.underlying3
  a22 := Tryz.isAgg3
  z22 := Tryz.sizeOf3
  v22 := Tryz.zeroValue3 }
end Go.Proofs
namespace Go.Proofs
open Go.RowKit Go.Maps Go.Sort Go.Shelf
theorem Tryz.sortsA (m : Nat) : AnyZI.SortsIn Tryz.prog Tryz.sortedA_ren Fence.wide m :=
  ⟨fun blk off cap ss W hH hblk hsz => callsIn_wide.2 (AnyM.slices_Sort_int Tryz.sortA blk off cap ss W hH hblk hsz),
   fun p cap W => callsIn_wide.2 (AnyM.slices_Sort_int_none Tryz.sortA p cap W)⟩
end Go.Proofs
namespace Go.SL
open Go.Proofs
set_option synthInstance.maxSize 4000
set_option synthInstance.maxHeartbeats 400000
set_option maxRecDepth 4000
set_option maxHeartbeats 2000000
open Go.RowKit Go.Maps Go.Sort Go.Shelf

def sortI (l : List Int) : List Int := l.mergeSort fun x y => decide (x ≤ y)
def anyR : Value → Option (DataW Unit × List MemPlace) := fun _ => some (.nil, [])

theorem owns_of {P : Program} {kt rm : Nat} {es : List (Int × Value)} {ms : Array MapEntry} {ck : Nat} {w : World} (hk : P.underlying kt = some (.int .i64)) (he : Ents es ms ck) (hg : w.heap[rm]? = some (.map ms ck)) (hi : ∀ e ∈ es, I64 e.1) (hl : es.length ≤ 1000000) :
    ∃ D0 : DataW Unit, w.ownsMap P kt anyR rm ms.size D0 ∧ (intKeys D0).Perm (es.map (·.1)) ∧ Maps.size D0 = es.length := by
  have hkey : ∀ a : Int, I64 a → keyOf P kt (.int .i64 a) = some (.int .i64 a) := by
    intro a ha
    have hw : (Lit.int .i64 a).wf = true := by
      have e1 : IntKind.i64.min = -9223372036854775808 := by decide
      have e2 : IntKind.i64.max = 9223372036854775807 := by decide
      simp only [Lit.wf, e1, e2, Bool.and_eq_true, decide_eq_true_eq]
      exact ha
    simp only [keyOf, hk, mapKey]
    rw [if_pos ⟨trivial, hw⟩]
  have hlen : ms.toList.length = es.length := by have := congrArg List.length he.same; simpa using this
  have hat : ∀ x ∈ ms.toList, ∃ e ∈ es, x.key = .int .i64 e.1 := by
    intro x hx
    have h1 : (x.key, x.val) ∈ es.map (fun p => (Value.int .i64 p.1, p.2)) := by rw [← he.same]; exact List.mem_map.2 ⟨x, hx, rfl⟩
    obtain ⟨e, hee, h2⟩ := List.mem_map.1 h1
    exact ⟨e, hee, (congrArg Prod.fst h2).symm⟩
  have hrd : ∀ x ∈ ms.toList, ∀ e ∈ es, x.key = .int .i64 e.1 → WideElems.rd P kt anyR x = some (.int .i64 e.1, .nil) := by
    intro x _ e hee hxe
    unfold WideElems.rd
    rw [hxe, hkey e.1 (hi e hee)]
    rfl
  have hrg : ms.toList.map (WideElems.rg P kt anyR) = es.map fun e => (Lit.int .i64 e.1, (DataW.nil : DataW Unit)) := by
    apply List.ext_getElem?
    intro j
    simp only [List.getElem?_map]
    have hj := congrArg (·[j]?) he.same
    simp only [List.getElem?_map] at hj
    cases hm : ms.toList[j]? with
    | none =>
      rw [hm] at hj
      cases hee : es[j]? with
      | none => rfl
      | some e => rw [hee] at hj; cases hj
    | some x =>
      rw [hm] at hj
      cases hee : es[j]? with
      | none => rw [hee] at hj; cases hj
      | some e =>
        rw [hee] at hj
        simp only [Option.map_some, Option.some.injEq, Prod.mk.injEq] at hj
        simp only [Option.map_some, Option.some.injEq]
        exact WideElems.rg_of (hrd x (List.mem_of_getElem? hm) e (List.mem_of_getElem? hee) hj.1)
  refine ⟨.map ((ms.toList.map (WideElems.rg P kt anyR)).foldr DataW.insert []), ⟨ms, ck, hg, ⟨?_, ⟨fun x hx => he.clock x hx, he.born, ?_⟩, ?_⟩, Nat.le_refl _, rfl⟩, ?_, ?_⟩
  · have : ms.size = es.length := by simpa using hlen
    rw [this]; exact Nat.le_trans hl (by decide)
  · have h1 : ms.toList.map (·.key) = (es.map (·.1)).map (Value.int .i64) := by
      have := congrArg (List.map Prod.fst) he.same
      simpa [List.map_map, Function.comp_def] using this
    rw [h1]
    exact List.pairwise_map.2 (he.nodup.imp (fun h e => h (by injection e)))
  · intro x hx
    obtain ⟨e, hee, hxe⟩ := hat x hx
    exact ⟨_, hrd x hx e hee hxe⟩
  · show ((((ms.toList.map (WideElems.rg P kt anyR)).foldr DataW.insert []).map fun p => Go.intOf p.1)).Perm _
    refine ((WideShapes.sorted_perm _).map _).trans ?_
    rw [hrg, List.map_map]
    exact .refl _
  · show ((ms.toList.map (WideElems.rg P kt anyR)).foldr DataW.insert []).length = _
    rw [(WideShapes.sorted_perm _).length_eq, List.length_map, hlen]

theorem sortI_len (l : List Int) : (sortI l).length = l.length := List.length_mergeSort ..

theorem maps_keys_ver (rm : Nat) : Spec Tryz.prog 145 #[.map (some rm)] [] (fun v L => ∃ p, v = .func (.func 166) #[] #[.pointer (some ⟨p, 0, none⟩)] ∧ L = [cells true p 0 [.map (some rm)]]) := by
  refine enter1 Tryz.func145 rfl (by decide) (by decide) ?_
  intro B F
  dsimp only [lcA, lnA]
  repeat' first | refine adv ?_ | refine Side.go ?_ | refine Giv.mk fun _ => ?_ | refine All.mk fun q => ?_ | refine Fork.mk ?_ ?_ | (refine Two.mk (fun h => ?_) (fun h => ?_) <;> try first | contradiction | (exfalso; omega))
  exact endQ.one Tryz.results145 ⟨_, rfl, rfl⟩

theorem sorted_ver (p rm : Nat) (es : List (Int × Value)) (hi : ∀ e ∈ es, I64 e.1) (hl : es.length ≤ 1000000) :
    Spec Tryz.prog 89 #[.func (.func 166) #[] #[.pointer (some ⟨p, 0, none⟩)]] [cells true p 0 [.map (some rm)], mapO rm es] (fun v L => ∃ a c, v = .slice a es.length c ∧ L = [mapO rm es, ownS (⟨a, c, sortI (es.map (·.1))⟩ : Sl Int)]) := by
  intro B F w hs
  have hs0 : sat B (cells true p 0 [.map (some rm)] :: mapO rm es :: F) w := hs
  have hcell := hs0.cell (i := 0) (v := .map (some rm)) rfl
  have hs1 : sat B (mapO rm es :: F) w := hs0.tail
  obtain ⟨ms, ck, he, hs2⟩ := mapO_open hs1
  have hg := hs2.obj
  obtain ⟨D0, hown, hperm, hsz⟩ := owns_of (P := Tryz.prog) (kt := 3) Tryz.underlying3 he hg hi hl
  have hplt : p < w.heap.size := by
    rcases Nat.lt_or_ge p w.heap.size with h | h
    · exact h
    · unfold World.cell? at hcell
      rw [Array.getElem?_eq_none h] at hcell; cases hcell
  refine (callsIn_wide (n := 5)).1 ?_
  have hseq : SeqGives Fence.wide 2 Tryz.prog 166 #[.pointer (some ⟨p, 0, none⟩)] encZ (fun ss => ss.Perm (intKeys D0)) (Maps.size D0) w :=
    AnyZI.keys_gives (ρ := Tryz.keysA_ren) { Tryz.keysA with } Fence.wide _ trivial rfl (by omega) p rm _ D0 w hplt hcell hown
  have cS := AnyZI.sorted_in Tryz.sortedA Fence.wide 5 trivial trivial trivial trivial rfl (by omega) (Tryz.sortsA _) (enters_of Tryz.func130 (by kernel_rfl) rfl) 166 #[.pointer (some ⟨p, 0, none⟩)] trivial (enters_of Tryz.func166 (by kernel_rfl) rfl) _ _
    (by rw [hsz]; exact Nat.le_trans hl (by decide)) (by rw [hsz]; omega) _ hseq
  change CallsIn _ _ Tryz.prog 89 _ _ _ at cS
  refine cS.mono ?_
  rintro e w' ⟨v, ss, rfl, hS, hrow, hnil, hb⟩
  have hss : (ss.mergeSort fun x y => decide (x ≤ y)) = sortI (es.map (·.1)) := mergeSort_of_perm_i (hS.trans hperm)
  have hsl : ss.length = es.length := by rw [(hS.trans hperm).length_eq, List.length_map]
  rw [hss] at hrow
  rcases hrow.2 with ⟨rfl, h0⟩ | ⟨g, cap, cur, rfl, hbg, hgc, hnc, hcm, hcs, htk⟩
  · have hes : es = [] := List.eq_nil_of_length_eq_zero (by omega)
    subst hes
    refine ⟨_, _, rfl, ⟨none, 0, rfl, rfl⟩, ?_⟩
    have h3 := hs1.behind hb
    have e0 : sortI (List.map (fun x => x.1) ([] : List (Int × Value))) = [] := by simp [sortI]
    rw [e0]
    exact (sat_true (own_nil (α := Int)) h3).perm (.swap _ _ _)
  · refine ⟨_, _, rfl, ⟨some ⟨g, 0, none⟩, cap, by rw [hsl], rfl⟩, ?_⟩
    have h3 : sat B (cells true g 0 cur.toList :: mapO rm es :: F) w' := hs1.fresh hb hbg hgc
    have hfl : flat (sortI (es.map (·.1))) = (sortI (es.map (·.1))).map encZ := by
      unfold flat
      induction sortI (es.map (·.1)) with
      | nil => rfl
      | cons x l ih => rw [List.flatMap_cons, ih]; rfl
    have hcur : cur.toList = flat (sortI (es.map (·.1))) ++ cur.toList.drop ss.length := by
      rw [hfl, ← htk, Nat.mul_one, List.take_append_drop]
    rw [hcur] at h3
    have hcl : cur.toList.length = cap := by simp [hcs]
    have hln : (sortI (es.map (·.1))).length = ss.length := by rw [sortI_len, List.length_map, hsl]
    have h4 : sat B (ownS (⟨some ⟨g, 0, none⟩, cap, sortI (es.map (·.1))⟩ : Sl Int) :: mapO rm es :: F) w' := by
      refine ownS_of_cells (s := ⟨some ⟨g, 0, none⟩, cap, sortI (es.map (·.1))⟩) (room := cur.toList.drop ss.length) ⟨by rintro _ ⟨⟩; rfl, by dsimp only; omega, by simp, by dsimp only; omega⟩ ?_ ?_
      · rw [List.length_drop, hcl]; dsimp only; rw [hln]; exact (Nat.mul_one _).symm
      · exact (ownAll_true (xs := sortI (es.map (·.1))) (fun _ _ => trivial) h3).perm (.swap _ _ _)
    exact h4.perm (.swap _ _ _)
theorem maps_keys_bytes (rm : Nat) : Spec Tryz.prog 90 #[.map (some rm)] [] (fun v L => ∃ p, v = .func (.func 131) #[] #[.pointer (some ⟨p, 0, none⟩)] ∧ L = [cells true p 0 [.map (some rm)]]) := by
  refine enter1 Tryz.func90 rfl (by decide) (by decide) ?_
  intro B F
  dsimp only [lcA, lnA]
  repeat' first | refine adv ?_ | refine Side.go ?_ | refine Giv.mk fun _ => ?_ | refine All.mk fun q => ?_ | refine Fork.mk ?_ ?_ | (refine Two.mk (fun h => ?_) (fun h => ?_) <;> try first | contradiction | (exfalso; omega))
  exact endQ.one Tryz.results90 ⟨_, rfl, rfl⟩

theorem sorted_bytes (p rm : Nat) (es : List (Int × Value)) (hi : ∀ e ∈ es, I64 e.1) (hl : es.length ≤ 1000000) :
    Spec Tryz.prog 89 #[.func (.func 131) #[] #[.pointer (some ⟨p, 0, none⟩)]] [cells true p 0 [.map (some rm)], mapO rm es] (fun v L => ∃ a c, v = .slice a es.length c ∧ L = [mapO rm es, ownS (⟨a, c, sortI (es.map (·.1))⟩ : Sl Int)]) := by
  intro B F w hs
  have hs0 : sat B (cells true p 0 [.map (some rm)] :: mapO rm es :: F) w := hs
  have hcell := hs0.cell (i := 0) (v := .map (some rm)) rfl
  have hs1 : sat B (mapO rm es :: F) w := hs0.tail
  obtain ⟨ms, ck, he, hs2⟩ := mapO_open hs1
  have hg := hs2.obj
  obtain ⟨D0, hown, hperm, hsz⟩ := owns_of (P := Tryz.prog) (kt := 3) Tryz.underlying3 he hg hi hl
  have hplt : p < w.heap.size := by
    rcases Nat.lt_or_ge p w.heap.size with h | h
    · exact h
    · unfold World.cell? at hcell
      rw [Array.getElem?_eq_none h] at hcell; cases hcell
  refine (callsIn_wide (n := 5)).1 ?_
  have hseq : SeqGives Fence.wide 2 Tryz.prog 131 #[.pointer (some ⟨p, 0, none⟩)] encZ (fun ss => ss.Perm (intKeys D0)) (Maps.size D0) w :=
    AnyZI.keys_gives (ρ := Tryz.keysB_ren) { Tryz.keysB with } Fence.wide _ trivial rfl (by omega) p rm _ D0 w hplt hcell hown
  have cS := AnyZI.sorted_in Tryz.sortedA Fence.wide 5 trivial trivial trivial trivial rfl (by omega) (Tryz.sortsA _) (enters_of Tryz.func130 (by kernel_rfl) rfl) 131 #[.pointer (some ⟨p, 0, none⟩)] trivial (enters_of Tryz.func131 (by kernel_rfl) rfl) _ _
    (by rw [hsz]; exact Nat.le_trans hl (by decide)) (by rw [hsz]; omega) _ hseq
  change CallsIn _ _ Tryz.prog 89 _ _ _ at cS
  refine cS.mono ?_
  rintro e w' ⟨v, ss, rfl, hS, hrow, hnil, hb⟩
  have hss : (ss.mergeSort fun x y => decide (x ≤ y)) = sortI (es.map (·.1)) := mergeSort_of_perm_i (hS.trans hperm)
  have hsl : ss.length = es.length := by rw [(hS.trans hperm).length_eq, List.length_map]
  rw [hss] at hrow
  rcases hrow.2 with ⟨rfl, h0⟩ | ⟨g, cap, cur, rfl, hbg, hgc, hnc, hcm, hcs, htk⟩
  · have hes : es = [] := List.eq_nil_of_length_eq_zero (by omega)
    subst hes
    refine ⟨_, _, rfl, ⟨none, 0, rfl, rfl⟩, ?_⟩
    have h3 := hs1.behind hb
    have e0 : sortI (List.map (fun x => x.1) ([] : List (Int × Value))) = [] := by simp [sortI]
    rw [e0]
    exact (sat_true (own_nil (α := Int)) h3).perm (.swap _ _ _)
  · refine ⟨_, _, rfl, ⟨some ⟨g, 0, none⟩, cap, by rw [hsl], rfl⟩, ?_⟩
    have h3 : sat B (cells true g 0 cur.toList :: mapO rm es :: F) w' := hs1.fresh hb hbg hgc
    have hfl : flat (sortI (es.map (·.1))) = (sortI (es.map (·.1))).map encZ := by
      unfold flat
      induction sortI (es.map (·.1)) with
      | nil => rfl
      | cons x l ih => rw [List.flatMap_cons, ih]; rfl
    have hcur : cur.toList = flat (sortI (es.map (·.1))) ++ cur.toList.drop ss.length := by
      rw [hfl, ← htk, Nat.mul_one, List.take_append_drop]
    rw [hcur] at h3
    have hcl : cur.toList.length = cap := by simp [hcs]
    have hln : (sortI (es.map (·.1))).length = ss.length := by rw [sortI_len, List.length_map, hsl]
    have h4 : sat B (ownS (⟨some ⟨g, 0, none⟩, cap, sortI (es.map (·.1))⟩ : Sl Int) :: mapO rm es :: F) w' := by
      refine ownS_of_cells (s := ⟨some ⟨g, 0, none⟩, cap, sortI (es.map (·.1))⟩) (room := cur.toList.drop ss.length) ⟨by rintro _ ⟨⟩; rfl, by dsimp only; omega, by simp, by dsimp only; omega⟩ ?_ ?_
      · rw [List.length_drop, hcl]; dsimp only; rw [hln]; exact (Nat.mul_one _).symm
      · exact (ownAll_true (xs := sortI (es.map (·.1))) (fun _ _ => trivial) h3).perm (.swap _ _ _)
    exact h4.perm (.swap _ _ _)
theorem maps_keys_int (rm : Nat) : Spec Tryz.prog 167 #[.map (some rm)] [] (fun v L => ∃ p, v = .func (.func 189) #[] #[.pointer (some ⟨p, 0, none⟩)] ∧ L = [cells true p 0 [.map (some rm)]]) := by
  refine enter1 Tryz.func167 rfl (by decide) (by decide) ?_
  intro B F
  dsimp only [lcA, lnA]
  repeat' first | refine adv ?_ | refine Side.go ?_ | refine Giv.mk fun _ => ?_ | refine All.mk fun q => ?_ | refine Fork.mk ?_ ?_ | (refine Two.mk (fun h => ?_) (fun h => ?_) <;> try first | contradiction | (exfalso; omega))
  exact endQ.one Tryz.results167 ⟨_, rfl, rfl⟩

theorem sorted_int (p rm : Nat) (es : List (Int × Value)) (hi : ∀ e ∈ es, I64 e.1) (hl : es.length ≤ 1000000) :
    Spec Tryz.prog 89 #[.func (.func 189) #[] #[.pointer (some ⟨p, 0, none⟩)]] [cells true p 0 [.map (some rm)], mapO rm es] (fun v L => ∃ a c, v = .slice a es.length c ∧ L = [mapO rm es, ownS (⟨a, c, sortI (es.map (·.1))⟩ : Sl Int)]) := by
  intro B F w hs
  have hs0 : sat B (cells true p 0 [.map (some rm)] :: mapO rm es :: F) w := hs
  have hcell := hs0.cell (i := 0) (v := .map (some rm)) rfl
  have hs1 : sat B (mapO rm es :: F) w := hs0.tail
  obtain ⟨ms, ck, he, hs2⟩ := mapO_open hs1
  have hg := hs2.obj
  obtain ⟨D0, hown, hperm, hsz⟩ := owns_of (P := Tryz.prog) (kt := 3) Tryz.underlying3 he hg hi hl
  have hplt : p < w.heap.size := by
    rcases Nat.lt_or_ge p w.heap.size with h | h
    · exact h
    · unfold World.cell? at hcell
      rw [Array.getElem?_eq_none h] at hcell; cases hcell
  refine (callsIn_wide (n := 5)).1 ?_
  have hseq : SeqGives Fence.wide 2 Tryz.prog 189 #[.pointer (some ⟨p, 0, none⟩)] encZ (fun ss => ss.Perm (intKeys D0)) (Maps.size D0) w :=
    AnyZI.keys_gives (ρ := Tryz.keysC_ren) { Tryz.keysC with } Fence.wide _ trivial rfl (by omega) p rm _ D0 w hplt hcell hown
  have cS := AnyZI.sorted_in Tryz.sortedA Fence.wide 5 trivial trivial trivial trivial rfl (by omega) (Tryz.sortsA _) (enters_of Tryz.func130 (by kernel_rfl) rfl) 189 #[.pointer (some ⟨p, 0, none⟩)] trivial (enters_of Tryz.func189 (by kernel_rfl) rfl) _ _
    (by rw [hsz]; exact Nat.le_trans hl (by decide)) (by rw [hsz]; omega) _ hseq
  change CallsIn _ _ Tryz.prog 89 _ _ _ at cS
  refine cS.mono ?_
  rintro e w' ⟨v, ss, rfl, hS, hrow, hnil, hb⟩
  have hss : (ss.mergeSort fun x y => decide (x ≤ y)) = sortI (es.map (·.1)) := mergeSort_of_perm_i (hS.trans hperm)
  have hsl : ss.length = es.length := by rw [(hS.trans hperm).length_eq, List.length_map]
  rw [hss] at hrow
  rcases hrow.2 with ⟨rfl, h0⟩ | ⟨g, cap, cur, rfl, hbg, hgc, hnc, hcm, hcs, htk⟩
  · have hes : es = [] := List.eq_nil_of_length_eq_zero (by omega)
    subst hes
    refine ⟨_, _, rfl, ⟨none, 0, rfl, rfl⟩, ?_⟩
    have h3 := hs1.behind hb
    have e0 : sortI (List.map (fun x => x.1) ([] : List (Int × Value))) = [] := by simp [sortI]
    rw [e0]
    exact (sat_true (own_nil (α := Int)) h3).perm (.swap _ _ _)
  · refine ⟨_, _, rfl, ⟨some ⟨g, 0, none⟩, cap, by rw [hsl], rfl⟩, ?_⟩
    have h3 : sat B (cells true g 0 cur.toList :: mapO rm es :: F) w' := hs1.fresh hb hbg hgc
    have hfl : flat (sortI (es.map (·.1))) = (sortI (es.map (·.1))).map encZ := by
      unfold flat
      induction sortI (es.map (·.1)) with
      | nil => rfl
      | cons x l ih => rw [List.flatMap_cons, ih]; rfl
    have hcur : cur.toList = flat (sortI (es.map (·.1))) ++ cur.toList.drop ss.length := by
      rw [hfl, ← htk, Nat.mul_one, List.take_append_drop]
    rw [hcur] at h3
    have hcl : cur.toList.length = cap := by simp [hcs]
    have hln : (sortI (es.map (·.1))).length = ss.length := by rw [sortI_len, List.length_map, hsl]
    have h4 : sat B (ownS (⟨some ⟨g, 0, none⟩, cap, sortI (es.map (·.1))⟩ : Sl Int) :: mapO rm es :: F) w' := by
      refine ownS_of_cells (s := ⟨some ⟨g, 0, none⟩, cap, sortI (es.map (·.1))⟩) (room := cur.toList.drop ss.length) ⟨by rintro _ ⟨⟩; rfl, by dsimp only; omega, by simp, by dsimp only; omega⟩ ?_ ?_
      · rw [List.length_drop, hcl]; dsimp only; rw [hln]; exact (Nat.mul_one _).symm
      · exact (ownAll_true (xs := sortI (es.map (·.1))) (fun _ _ => trivial) h3).perm (.swap _ _ _)
    exact h4.perm (.swap _ _ _)
end Go.SL
namespace Go.SL
open Go.Proofs
set_option synthInstance.maxSize 4000
set_option synthInstance.maxHeartbeats 400000
set_option maxRecDepth 4000
set_option maxHeartbeats 2000000

/-- The newest bytes of every block, by rising number. -/
def Em.dump (E : Em) : List PV := if E.blocks = 0 then [] else (sortI (E.vs.map (·.1))).map fun k => (k, (((vget E.vs k).getD []).getLast?.getD (0, [])).2)

theorem vget_mem {α : Type} {vs : List (Int × α)} {k : Int} (h : k ∈ vs.map (·.1)) : ∃ x, vget vs k = some x ∧ (k, x) ∈ vs := by
  unfold vget
  cases hf : vs.find? (fun e => e.1 == k) with
  | none =>
    obtain ⟨e, he, rfl⟩ := List.mem_map.1 h
    have := List.find?_eq_none.1 hf e he
    simp at this
  | some e =>
    have h1 := List.find?_some hf
    have h2 : e.1 = k := by simpa using h1
    exact ⟨e.2, rfl, h2 ▸ List.mem_of_find?_eq_some hf⟩
theorem sortI_mem {l : List Int} {k : Int} : k ∈ sortI l ↔ k ∈ l := List.mem_mergeSort

theorem untake {α : Type} [Rep α] {B : World} {L : List HProp} {w : World} {vs : List (Int × Sl α)} {k : Int} {s : Sl α} (hn : (vs.map (·.1)).Nodup) (hg : vget vs k = some s) (h : sat B (ownS s :: bigS (fun q : Int × Sl α => ownS q.2) (vdel vs k) :: L) w) :
    sat B (bigS (fun q : Int × Sl α => ownS q.2) vs :: L) w :=
  bigS_perm (vget_perm hn hg).symm (sat_bigS_cons.2 (show sat B ((fun q : Int × Sl α => ownS q.2) (k, s) :: bigS (fun q : Int × Sl α => ownS q.2) (vdel vs k) :: L) w from h))
theorem pull_own_ver {B : World} {L R : List HProp} (s : Sl Ver) [p : Pick (ownS s) L R] {j : Nat} (hj : j < s.xs.length) : ∀ w, sat B L w → sat B (roS s.xs[j].d :: L) w :=
  fun w h => (own_pull hj (h.perm p.perm) : sat B (roS s.xs[j].d :: ownS s :: R) w).perm (.cons _ p.perm.symm)

theorem ext_dump (m : Nat) (E : Em) (hk : ∀ e ∈ E.vs, I64 e.1 ∧ 0 < e.2.length ∧ e.2.length ≤ 2000000) (hl : E.vs.length ≤ 1000000) :
    Spec Tryz.prog 113 #[.pointer (some ⟨m, 0, none⟩)] [emO m E] (fun v L => ∃ t : Sl PutR, t.xs.map PutR.v = E.dump ∧ v = t.val ∧ L = [emO m E, ownS t]) := by
  refine enter1 Tryz.func113 rfl (by decide) (by decide) ?_
  intro B F
  dsimp only [lcA, lnA]
  refine Sy_all (fun w h => emO_open h) (fun r => ?_)
  obtain ⟨⟨rm, vs⟩, hr⟩ := r
  dsimp only [emL, List.cons_append, List.nil_append]
  have hvl : vs.length = E.vs.length := by rw [← hr]; simp [EmR.v]
  have hvk : (vmap Sl.val vs).map (·.1) = E.vs.map (·.1) := by rw [vmap_keys, ← hr]; simp [EmR.v, List.map_map, Function.comp_def]
  have hve : ∀ e ∈ vs, I64 e.1 ∧ 0 < e.2.xs.length ∧ e.2.xs.length ≤ 2000000 := by
    intro e he
    have := hk (e.1, e.2.xs.map Ver.v) (by rw [← hr]; exact List.mem_map.2 ⟨e, he, rfl⟩)
    simpa using this
  refine Sy_know (fun B w h => map_nodup (r := rm) (es := vmap Sl.val vs) B w h) (fun hn => ?_)
  rw [vmap_keys] at hn
  repeat' first | refine adv ?_ | refine Side.go ?_ | refine Giv.mk fun _ => ?_ | refine All.mk fun q => ?_ | refine Fork.mk ?_ ?_ | (refine Two.mk (fun h => ?_) (fun h => ?_) <;> try first | contradiction | (exfalso; omega))
  refine CallG.use (ext_gone m E.blocks (.map (some rm)) (.int .i64 E.last)) ?_
  rintro r M ⟨rfl, rfl⟩
  dsimp only [lcA, lnA]
  by_cases hb : E.blocks = 0
  · rw [decide_eq_true hb]
    repeat' first | refine adv ?_ | refine Side.go ?_ | refine Giv.mk fun _ => ?_ | refine All.mk fun q => ?_ | refine Fork.mk ?_ ?_ | (refine Two.mk (fun h => ?_) (fun h => ?_) <;> try first | contradiction | (exfalso; omega))
    refine endQ.oneW (v := .slice none 0 0) (M := [emO m E, ownS (⟨none, 0, []⟩ : Sl PutR)]) Tryz.results113 ⟨⟨none, 0, []⟩, by rw [Em.dump, if_pos hb]; rfl, rfl, rfl⟩ (fun w h => emO_close E (rm, vs) hr (goes w h))
  rw [decide_eq_false hb]
  repeat' first | refine adv ?_ | refine Side.go ?_ | refine Giv.mk fun _ => ?_ | refine All.mk fun q => ?_ | refine Fork.mk ?_ ?_ | (refine Two.mk (fun h => ?_) (fun h => ?_) <;> try first | contradiction | (exfalso; omega))
  refine CallG.use (maps_keys_ver rm) ?_
  rintro r M ⟨p, rfl, rfl⟩
  dsimp only [lcA, lnA]
  repeat' first | refine adv ?_ | refine Side.go ?_ | refine Giv.mk fun _ => ?_ | refine All.mk fun q => ?_ | refine Fork.mk ?_ ?_ | (refine Two.mk (fun h => ?_) (fun h => ?_) <;> try first | contradiction | (exfalso; omega))
  refine CallG.use (sorted_ver p rm (vmap Sl.val vs) (by intro e he; obtain ⟨x, hx, rfl⟩ := List.mem_map.1 he; exact (hve x hx).1) (by simp [vmap]; omega)) ?_
  rintro r M ⟨a, c, rfl, rfl⟩
  dsimp only [lcA, lnA]
  rw [hvk]
  have hsl : (vmap Sl.val vs).length = (sortI (E.vs.map (·.1))).length := by rw [sortI_len, List.length_map, ← hvl]; simp [vmap]
  rw [hsl]
  have hsub : ∀ k ∈ sortI (E.vs.map (·.1)), k ∈ vs.map (·.1) := by
    intro k hk2
    have := sortI_mem.1 hk2
    rwa [← hvk, vmap_keys] at this
  have hsn : (sortI (E.vs.map (·.1))).length ≤ 1000000 := by rw [sortI_len, List.length_map]; exact hl
  have hdump : E.dump = (sortI (E.vs.map (·.1))).map fun k => (k, (((vget E.vs k).getD []).getLast?.getD (0, [])).2) := by rw [Em.dump, if_neg hb]
  generalize sortI (E.vs.map (·.1)) = ks at hsub hsn hdump ⊢
  repeat' first | refine adv ?_ | refine Side.go ?_ | refine Giv.mk fun _ => ?_ | refine All.mk fun q => ?_ | refine Fork.mk ?_ ?_ | (refine Two.mk (fun h => ?_) (fun h => ?_) <;> try first | contradiction | (exfalso; omega))
  refine Sy_loop (ι := {st : Nat × Sl PutR // (st.1 ≤ ks.length ∧ st.2.xs.length = st.1) ∧ st.2.xs.map PutR.v = (ks.take st.1).map fun k => (k, (((vget E.vs k).getD []).getLast?.getD (0, [])).2)})
    (fun st => [(15, .int .i64 st.1.1), (14, .int .i64 ks.length), (13, .slice a ks.length c), (2, st.1.2.val), (0, .pointer (some ⟨m, 0, none⟩))])
    (fun st => ownS st.1.2 :: mapO rm (vmap Sl.val vs) :: ownS (⟨a, c, ks⟩ : Sl Int) :: cells true m 0 [.int .i64 E.blocks, .map (some rm), .int .i64 E.last] :: bigS (fun q : Int × Sl Ver => ownS q.2) vs :: F)
    (fun st => ks.length - st.1.1) ⟨(0, ⟨none, 0, []⟩), ⟨Nat.zero_le _, rfl⟩, rfl⟩ (evs rfl (evs rfl (evs rfl (evs rfl (evs rfl .nil))))) (fun w h => goes w (sat_true (own_nil (α := PutR)) h)) ?_
  rintro ⟨⟨j, t⟩, ⟨hj, htl⟩, ht⟩ env
  dsimp only [upds] at hj htl ht ⊢
  by_cases hj2 : j < ks.length
  · obtain ⟨x, hx, hxm⟩ := vget_mem (hsub ks[j] (List.getElem_mem hj2))
    have hxl := hve _ hxm
    dsimp only at hxl
    haveI := md_sl vs ks[j]
    rw [hx] at this
    dsimp only [Option.getD_some] at this
    have hix : ((x.xs.length : Int) - 1).toNat = x.xs.length - 1 := by omega
    have hgE : vget E.vs ks[j] = some (x.xs.map Ver.v) := by rw [← hr]; exact (vget_vv vs ks[j]).trans (by rw [hx]; rfl)
    have hlast : (((vget E.vs ks[j]).getD []).getLast?.getD (0, [])).2 = (x.xs[x.xs.length - 1]'(by omega)).d.xs := by
      rw [hgE, Option.getD_some, List.getLast?_eq_getElem?, List.length_map, List.getElem?_eq_getElem (by simp; omega), List.getElem_map]; rfl
    refine Sy_conv (L' := ownS x :: bigS (fun q : Int × Sl Ver => ownS q.2) (vdel vs ks[j]) :: ownS t :: mapO rm (vmap Sl.val vs) :: ownS (⟨a, c, ks⟩ : Sl Int) :: cells true m 0 [.int .i64 E.blocks, .map (some rm), .int .i64 E.last] :: F) (fun w h => by
      have h2 := take_own (α := Ver) vs ks[j] hn w h
      rw [hx] at h2
      exact h2) ?_
    refine Sy_conv (pull_own_ver x (j := x.xs.length - 1) (by omega)) ?_
    repeat' first | refine adv ?_ | refine Side.go ?_ | refine Giv.mk fun _ => ?_ | refine All.mk fun q => ?_ | refine Fork.mk ?_ ?_ | (refine Two.mk (fun h => ?_) (fun h => ?_) <;> try first | contradiction | (exfalso; omega))
    simp only [hix]
    repeat' first | refine adv ?_ | refine Side.go ?_ | refine Giv.mk fun _ => ?_ | refine All.mk fun q => ?_ | refine Fork.mk ?_ ?_ | (refine Two.mk (fun h => ?_) (fun h => ?_) <;> try first | contradiction | (exfalso; omega))
    refine CallG.use (clone_bytes (x.xs[x.xs.length - 1]'(by omega)).d) ?_
    rintro r M ⟨a2, c2, rfl, rfl⟩
    dsimp only [lcA, lnA]
    repeat' first | refine adv ?_ | refine Side.go ?_ | refine Giv.mk fun _ => ?_ | refine All.mk fun q => ?_ | refine Fork.mk ?_ ?_ | (refine Two.mk (fun h => ?_) (fun h => ?_) <;> try first | contradiction | (exfalso; omega))
    refine AppG.oneP t ⟨ks[j], ⟨a2, c2, (x.xs[x.xs.length - 1]'(by omega)).d.xs⟩⟩ (by omega) (fun a3 c3 => ?_)
    repeat' first | refine adv ?_ | refine Side.go ?_ | refine Giv.mk fun _ => ?_ | refine All.mk fun q => ?_ | refine Fork.mk ?_ ?_ | (refine Two.mk (fun h => ?_) (fun h => ?_) <;> try first | contradiction | (exfalso; omega))
    refine loopQ.next ⟨(j + 1, ⟨a3, c3, t.xs ++ [⟨ks[j], ⟨a2, c2, (x.xs[x.xs.length - 1]'(by omega)).d.xs⟩⟩]⟩), ⟨by dsimp only; omega, by simp; omega⟩, ?_⟩ (by simp only []; omega) (evs rfl (evs rfl (evs rfl (evs rfl (evs rfl .nil))))) (fun w h => ?_)
    · dsimp only
      rw [List.map_append, ht, List.take_succ_eq_append_getElem hj2, List.map_append, List.map_cons, List.map_nil, List.map_cons, List.map_nil, hlast]
    · have h2 : sat B (ownS x :: bigS (fun q : Int × Sl Ver => ownS q.2) (vdel vs ks[j]) :: ownS (⟨a3, c3, t.xs ++ [⟨ks[j], ⟨a2, c2, (x.xs[x.xs.length - 1]'(by omega)).d.xs⟩⟩]⟩ : Sl PutR) :: mapO rm (vmap Sl.val vs) :: ownS (⟨a, c, ks⟩ : Sl Int) :: cells true m 0 [.int .i64 E.blocks, .map (some rm), .int .i64 E.last] :: F) w := goes w h
      exact goes w (untake hn hx h2)
  · have hj3 : j = ks.length := by omega
    subst hj3
    rw [List.take_length] at ht
    repeat' first | refine adv ?_ | refine Side.go ?_ | refine Giv.mk fun _ => ?_ | refine All.mk fun q => ?_ | refine Fork.mk ?_ ?_ | (refine Two.mk (fun h => ?_) (fun h => ?_) <;> try first | contradiction | (exfalso; omega))
    refine endQ.oneW Tryz.results113 ⟨t, by rw [ht, hdump], rfl, rfl⟩ (fun w h => emO_close E (rm, vs) hr ?_)
    exact goes w h
end Go.SL
