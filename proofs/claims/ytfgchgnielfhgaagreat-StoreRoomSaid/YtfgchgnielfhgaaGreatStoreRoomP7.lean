/- Parts of the proof of StoreRoom: a logic of memory, contracts of functions, plain laws (Law5, Row). Conditions: those that each theorem names. -/
import Derived.Carry
import Derived.Test.YtfgchgnielfhgaaGreatStoreRoomP6
set_option linter.unusedSimpArgs false
set_option linter.unusedVariables false
namespace Go.SL
open Go.Proofs
set_option synthInstance.maxSize 4000
set_option synthInstance.maxHeartbeats 400000
set_option maxRecDepth 4000
set_option maxHeartbeats 2000000

theorem law_room (n0 s0 e0 : Int) : Spec Tryz.prog 6 #[.int .i64 n0, .int .i64 s0, .int .i64 e0] [] (fun v L => v = .bool true ∧ L = []) := by
  have geo : geoOk (8 : Nat) (96 : Nat) := ⟨by decide, by decide⟩
  have hcap : capOf 8 96 = 258 := by decide
  refine enter3 Tryz.func6 rfl (by decide) (by decide) ?_
  intro B F
  dsimp only [lcA, lnA]
  repeat' first | refine adv ?_ | refine Side.go ?_ | refine Giv.mk fun _ => ?_ | refine All.mk fun q => ?_ | refine Fork.mk ?_ ?_ | (refine Two.mk (fun h => ?_) (fun h => ?_) <;> try first | contradiction | (exfalso; omega))
  · refine CallG.use law_awake ?_
    rintro r M ⟨rfl, rfl⟩
    dsimp only [lcA, lnA]
    repeat' first | refine adv ?_ | refine Side.go ?_ | refine Giv.mk fun _ => ?_ | refine All.mk fun q => ?_ | refine Fork.mk ?_ ?_ | (refine Two.mk (fun h => ?_) (fun h => ?_) <;> try first | contradiction | (exfalso; omega))
    exact endQ.one Tryz.results6 ⟨rfl, rfl⟩
  · refine CallG.use law_awake ?_
    rintro r M ⟨rfl, rfl⟩
    dsimp only [lcA, lnA]
    repeat' first | refine adv ?_ | refine Side.go ?_ | refine Giv.mk fun _ => ?_ | refine All.mk fun q => ?_ | refine Fork.mk ?_ ?_ | (refine Two.mk (fun h => ?_) (fun h => ?_) <;> try first | contradiction | (exfalso; omega))
    exact endQ.one Tryz.results6 ⟨rfl, rfl⟩
  · refine CallG.use law_awake ?_
    rintro r M ⟨rfl, rfl⟩
    dsimp only [lcA, lnA]
    repeat' first | refine adv ?_ | refine Side.go ?_ | refine Giv.mk fun _ => ?_ | refine All.mk fun q => ?_ | refine Fork.mk ?_ ?_ | (refine Two.mk (fun h => ?_) (fun h => ?_) <;> try first | contradiction | (exfalso; omega))
    exact endQ.one Tryz.results6 ⟨rfl, rfl⟩
  · refine CallG.use law_awake ?_
    rintro r M ⟨rfl, rfl⟩
    dsimp only [lcA, lnA]
    repeat' first | refine adv ?_ | refine Side.go ?_ | refine Giv.mk fun _ => ?_ | refine All.mk fun q => ?_ | refine Fork.mk ?_ ?_ | (refine Two.mk (fun h => ?_) (fun h => ?_) <;> try first | contradiction | (exfalso; omega))
    exact endQ.one Tryz.results6 ⟨rfl, rfl⟩
  · refine CallG.use law_awake ?_
    rintro r M ⟨rfl, rfl⟩
    dsimp only [lcA, lnA]
    repeat' first | refine adv ?_ | refine Side.go ?_ | refine Giv.mk fun _ => ?_ | refine All.mk fun q => ?_ | refine Fork.mk ?_ ?_ | (refine Two.mk (fun h => ?_) (fun h => ?_) <;> try first | contradiction | (exfalso; omega))
    exact endQ.one Tryz.results6 ⟨rfl, rfl⟩
  · refine CallG.use law_awake ?_
    rintro r M ⟨rfl, rfl⟩
    dsimp only [lcA, lnA]
    repeat' first | refine adv ?_ | refine Side.go ?_ | refine Giv.mk fun _ => ?_ | refine All.mk fun q => ?_ | refine Fork.mk ?_ ?_ | (refine Two.mk (fun h => ?_) (fun h => ?_) <;> try first | contradiction | (exfalso; omega))
    exact endQ.one Tryz.results6 ⟨rfl, rfl⟩
  obtain ⟨n, rfl⟩ : ∃ n : Nat, n0 = n := ⟨n0.toNat, by omega⟩
  obtain ⟨size, rfl⟩ : ∃ n : Nat, s0 = n := ⟨s0.toNat, by omega⟩
  obtain ⟨step, rfl⟩ : ∃ n : Nat, e0 = n := ⟨e0.toNat, by omega⟩
  have hn : n ≤ 60 := by omega
  have hs1 : 1 ≤ size := by omega
  have hs2 : size ≤ 16 := by omega
  have he : step ≤ 300 := by omega
  refine CallG.use law_least ?_
  rintro r M ⟨rfl, rfl⟩
  dsimp only [lcA, lnA]
  repeat' first | refine adv ?_ | refine Side.go ?_ | refine Giv.mk fun _ => ?_ | refine All.mk fun q => ?_ | refine Fork.mk ?_ ?_ | (refine Two.mk (fun h => ?_) (fun h => ?_) <;> try first | contradiction | (exfalso; omega))
  obtain ⟨g, hg⟩ : ∃ g, g = q := ⟨q, rfl⟩
  subst hg
  refine CallG.use (dev_fresh 8 96 geo) ?_
  rintro r M ⟨d, rfl, rfl⟩
  dsimp only [lcA, lnA]
  repeat' first | refine adv ?_ | refine Side.go ?_ | refine Giv.mk fun _ => ?_ | refine All.mk fun q => ?_ | refine Fork.mk ?_ ?_ | (refine Two.mk (fun h => ?_) (fun h => ?_) <;> try first | contradiction | (exfalso; omega))
  obtain ⟨D0, la, hmo, hds, hla, ⟨hZ, hS⟩, -⟩ := mount_fresh geo
  rw [hcap] at hmo hds
  have hF0 := RI.first hla hds hZ hS
  refine CallG.use (st_mount d (Dv.fresh 8 96) (fresh_ok geo) (ds_count (fresh_ds geo))) ?_
  rw [hmo]
  rintro v M (⟨h, -⟩ | ⟨-, p, rfl, rfl⟩)
  · exact absurd rfl h
  dsimp only [List.cons_append, List.nil_append, Dv.fresh]
  generalize hT0 : (⟨⟨1, [], 0, false⟩, Mg.of 258 0 ⟨258, [], la⟩, 0, 0, false⟩ : SS) = T0 at *
  repeat' first | refine adv ?_ | refine Side.go ?_ | refine Giv.mk fun _ => ?_ | refine All.mk fun q => ?_ | refine Fork.mk ?_ ?_ | (refine Two.mk (fun h => ?_) (fun h => ?_) <;> try first | contradiction | (exfalso; omega))
  refine Sy_loop (ι := {st : Nat × Nat × Nat × Int × SS × Dv // st.1 ≤ n ∧ RI st.1 st.2.1 st.2.2.1 st.2.2.2.1 st.2.2.2.2.1 st.2.2.2.2.2})
    (fun st => [(13, .int .i64 st.1.1), (12, .int .i64 st.1.2.2.2.1), (0, .int .i64 n), (1, .int .i64 size), (2, .int .i64 step), (7, .pointer (some ⟨g, 0, none⟩)), (10, .pointer (some ⟨p, 0, none⟩))])
    (fun st => stO p d 8 96 st.1.2.2.2.2.1 :: devO d st.1.2.2.2.2.2 :: cells true g 0 [.int .i64 8, .int .i64 96] :: F)
    (fun st => n - st.1.1) ⟨(0, 0, 0, 0, T0, D0), Nat.zero_le _, hF0⟩ (evs rfl (evs rfl (evs rfl (evs rfl (evs rfl (evs rfl (evs rfl .nil))))))) (fun w h => goes w h) ?_
  rintro ⟨⟨i, R, C, x, T, D⟩, hi, hF⟩ env
  dsimp only [upds] at hi hF ⊢
  by_cases hi2 : i < n
  · repeat' first | refine adv ?_ | refine Side.go ?_ | refine Giv.mk fun _ => ?_ | refine All.mk fun q => ?_ | refine Fork.mk ?_ ?_ | (refine Two.mk (fun h => ?_) (fun h => ?_) <;> try first | contradiction | (exfalso; omega))
    refine Sy_loop (ι := {st : (Nat × Bool) × Nat × Nat × Int × SS × Dv // KI i st.1.1 st.1.2 st.2.1 st.2.2.1 st.2.2.2.1 st.2.2.2.2.1 st.2.2.2.2.2})
      (fun st => [(15, .int .i64 st.1.1.1), (14, .bool st.1.1.2), (12, .int .i64 st.1.2.2.2.1), (13, .int .i64 i), (0, .int .i64 n), (1, .int .i64 size), (2, .int .i64 step), (7, .pointer (some ⟨g, 0, none⟩)), (10, .pointer (some ⟨p, 0, none⟩))])
      (fun st => stO p d 8 96 st.1.2.2.2.2.1 :: devO d st.1.2.2.2.2.2 :: cells true g 0 [.int .i64 8, .int .i64 96] :: F)
      (fun st => 2 - st.1.1.1) ⟨((0, false), R, C, x, T, D), hF.start⟩ (evs rfl (evs rfl (evs rfl (evs rfl (evs rfl (evs rfl (evs rfl (evs rfl (evs rfl .nil))))))))) (fun w h => goes w h) ?_
    rintro ⟨⟨⟨k, dn⟩, R1, C1, x1, T1, D1⟩, hK⟩ env
    dsimp only [upds] at hK ⊢
    cases dn with
    | true =>
      repeat' first | refine adv ?_ | refine Side.go ?_ | refine Giv.mk fun _ => ?_ | refine All.mk fun q => ?_ | refine Fork.mk ?_ ?_ | (refine Two.mk (fun h => ?_) (fun h => ?_) <;> try first | contradiction | (exfalso; omega))
      all_goals
        exact loopQ.next ⟨(i + 1, R1, C1, x1, T1, D1), by dsimp only; omega, hK.stop⟩ (by dsimp only; omega) (evs rfl (evs rfl (evs rfl (evs rfl (evs rfl (evs rfl (evs rfl .nil))))))) (fun w h => goes w h)
    | false =>
    have hk1 := hK.k1 rfl
    have hQ := hK.qt
    have hrb := hK.rb
    have hcb := hK.cb
    have hx1 := hK.x
    have hlast := hK.la
    simp only [Bool.false_eq_true, if_false] at hlast
    obtain ⟨a1, a2⟩ := hQ.mi.begin (by rw [hQ.ts, hQ.km]; decide)
    rw [hQ.kl] at a1
    repeat' first | refine adv ?_ | refine Side.go ?_ | refine Giv.mk fun _ => ?_ | refine All.mk fun q => ?_ | refine Fork.mk ?_ ?_ | (refine Two.mk (fun h => ?_) (fun h => ?_) <;> try first | contradiction | (exfalso; omega))
    refine CallG.use (sto_begin p d 8 96 T1 hQ.ds.off (by rw [hQ.bl]; decide) (fun e he => by rw [hQ.ts] at he; cases he) (by rw [hQ.ts]; decide) (by rw [hQ.kl]; omega)) ?_
    rintro r M ⟨rfl, rfl⟩
    dsimp only [lcA, lnA]
    rw [a1]
    repeat' first | refine adv ?_ | refine Side.go ?_ | refine Giv.mk fun _ => ?_ | refine All.mk fun q => ?_ | refine Fork.mk ?_ ?_ | (refine Two.mk (fun h => ?_) (fun h => ?_) <;> try first | contradiction | (exfalso; omega))
    refine CallG.use (blocks8 p d D1 { T1 with M := T1.M.begin1 } hQ.ds.ok hQ.Z hQ.S) ?_
    rintro r M ⟨rfl, rfl⟩
    dsimp only [lcA, lnA]
    repeat' first | refine adv ?_ | refine Side.go ?_ | refine Giv.mk fun _ => ?_ | refine All.mk fun q => ?_ | refine Fork.mk ?_ ?_ | (refine Two.mk (fun h => ?_) (fun h => ?_) <;> try first | contradiction | (exfalso; omega))
    obtain ⟨rs, hrs⟩ : ∃ r, r = q := ⟨q, rfl⟩
    subst hrs
    refine Sy_loop (ι := {st : (Nat × Int) × List Bool × Sl PutR × List PV // ((st.1.1 ≤ size ∧ 0 ≤ st.1.2 ∧ st.1.2 < 258) ∧ Sn st.2.1 st.2.2.2 ∧ st.2.2.2.length = st.1.1) ∧ st.2.2.1.xs.map PutR.v = st.2.2.2})
      (fun st => [(21, .int .i64 st.1.1.1), (20, .int .i64 st.1.1.2), (19, st.1.2.2.1.val), (18, .slice (some ⟨rs, 0, none⟩) st.1.2.1.length 258), (16, .int .i64 ((R1 + 1 : Nat) : Int)), (15, .int .i64 k), (14, .bool false), (12, .int .i64 x1), (13, .int .i64 i), (0, .int .i64 n), (1, .int .i64 size), (2, .int .i64 step), (7, .pointer (some ⟨g, 0, none⟩)), (10, .pointer (some ⟨p, 0, none⟩))])
      (fun st => ownS (⟨some ⟨rs, 0, none⟩, 258, st.1.2.1⟩ : Sl Bool) :: ownS st.1.2.2.1 :: stO p d 8 96 { T1 with M := T1.M.begin1 } :: devO d D1 :: cells true g 0 [.int .i64 8, .int .i64 96] :: F)
      (fun st => size - st.1.1.1) ⟨((0, x1), List.replicate 258 false, ⟨none, 0, []⟩, []), ⟨⟨Nat.zero_le _, hx1⟩, Sn.first, rfl⟩, rfl⟩ (evs rfl (evs rfl (evs rfl (evs rfl (evs rfl (evs rfl (evs rfl (evs rfl (evs rfl (evs rfl (evs rfl (evs rfl (evs rfl (evs rfl .nil)))))))))))))) (fun w h => goes w (sat_true (own_nil (α := PutR)) h)) ?_
    rintro ⟨⟨⟨j, y⟩, b, u, ps⟩, ⟨⟨hj, hy⟩, hSn, hpl⟩, hu⟩ env
    dsimp only [upds] at hj hy hSn hpl hu ⊢
    have hul : u.xs.length = j := by rw [← hpl, ← hu, List.length_map]
    have hbl := hSn.len
    by_cases hj2 : j < size
    · obtain ⟨f, hf1, hf2⟩ := hSn.free (by omega) hy
      repeat' first | refine adv ?_ | refine Side.go ?_ | refine Giv.mk fun _ => ?_ | refine All.mk fun q => ?_ | refine Fork.mk ?_ ?_ | (refine Two.mk (fun h => ?_) (fun h => ?_) <;> try first | contradiction | (exfalso; omega))
      refine Sy_loop (ι := {st : Int × Nat // (0 ≤ st.1 ∧ st.1 < 258) ∧ b[((st.1 + st.2) % 258).toNat]?.getD false = false ∧ st.2 < 258})
        (fun st => [(20, .int .i64 st.1.1), (21, .int .i64 j), (19, u.val), (18, .slice (some ⟨rs, 0, none⟩) b.length 258), (16, .int .i64 ((R1 + 1 : Nat) : Int)), (15, .int .i64 k), (14, .bool false), (12, .int .i64 x1), (13, .int .i64 i), (0, .int .i64 n), (1, .int .i64 size), (2, .int .i64 step), (7, .pointer (some ⟨g, 0, none⟩)), (10, .pointer (some ⟨p, 0, none⟩))])
        (fun _ => ownS (⟨some ⟨rs, 0, none⟩, 258, b⟩ : Sl Bool) :: ownS u :: stO p d 8 96 { T1 with M := T1.M.begin1 } :: devO d D1 :: cells true g 0 [.int .i64 8, .int .i64 96] :: F)
        (fun st => st.1.2) ⟨(y, f), hy, hf2, hf1⟩ (evs rfl (evs rfl (evs rfl (evs rfl (evs rfl (evs rfl (evs rfl (evs rfl (evs rfl (evs rfl (evs rfl (evs rfl (evs rfl (evs rfl .nil)))))))))))))) (fun w h => goes w h) ?_
      rintro ⟨⟨z, e⟩, hz, he2, he3⟩ env
      dsimp only [upds] at hz he2 he3 ⊢
      have hzb : z.toNat < b.length := by omega
      repeat' first | refine adv ?_ | refine Side.go ?_ | refine Giv.mk fun _ => ?_ | refine All.mk fun q => ?_ | refine Fork.mk ?_ ?_ | (refine Two.mk (fun h => ?_) (fun h => ?_) <;> try first | contradiction | (exfalso; omega))
      · have hbz : b[z.toNat]?.getD false = true := by rw [List.getElem?_eq_getElem hzb]; exact h
        have he0 : e ≠ 0 := fun h0 => by
          rw [h0, show ((z + ((0 : Nat) : Int)) % 258).toNat = z.toNat from by omega, hbz] at he2; cases he2
        refine CallG.use (blocks8 p d D1 { T1 with M := T1.M.begin1 } hQ.ds.ok hQ.Z hQ.S) ?_
        rintro r M ⟨rfl, rfl⟩
        dsimp only [lcA, lnA]
        repeat' first | refine adv ?_ | refine Side.go ?_ | refine Giv.mk fun _ => ?_ | refine All.mk fun q => ?_ | refine Fork.mk ?_ ?_ | (refine Two.mk (fun h => ?_) (fun h => ?_) <;> try first | contradiction | (exfalso; omega))
        have ht : (z + 1).tmod ((258 : Nat) : Int) = (z + 1) % ((258 : Nat) : Int) := Int.tmod_eq_emod_of_nonneg (by omega)
        refine loopQ.next ⟨((z + 1).tmod ((258 : Nat) : Int), e - 1), by dsimp only; rw [ht]; omega, ?_, by dsimp only; omega⟩ (by dsimp only; omega) (evs rfl (evs rfl (evs rfl (evs rfl (evs rfl (evs rfl (evs rfl (evs rfl (evs rfl (evs rfl (evs rfl (evs rfl (evs rfl (evs rfl .nil)))))))))))))) (fun w h => goes w h)
        dsimp only
        rw [ht, show (((z + 1) % ((258 : Nat) : Int) + ((e - 1 : Nat) : Int)) % 258).toNat = ((z + e) % 258).toNat from by omega]
        exact he2
      · have hbz : b[z.toNat]?.getD false = false := by rw [List.getElem?_eq_getElem hzb]; exact Bool.eq_false_iff.2 h
        have hSn2 := hSn.add hz hbz (dataOf_len (i + j))
        repeat' first | refine adv ?_ | refine Side.go ?_ | refine Giv.mk fun _ => ?_ | refine All.mk fun q => ?_ | refine Fork.mk ?_ ?_ | (refine Two.mk (fun h => ?_) (fun h => ?_) <;> try first | contradiction | (exfalso; omega))
        rw [show (i : Int) + (j : Int) = ((i + j : Nat) : Int) from by omega]
        refine CallG.use (alike_data (i + j) (by omega)) ?_
        rintro r M ⟨a, c, rfl, rfl⟩
        dsimp only [lcA, lnA]
        repeat' first | refine adv ?_ | refine Side.go ?_ | refine Giv.mk fun _ => ?_ | refine All.mk fun q => ?_ | refine Fork.mk ?_ ?_ | (refine Two.mk (fun h => ?_) (fun h => ?_) <;> try first | contradiction | (exfalso; omega))
        refine AppG.oneP u ⟨z, ⟨a, c, dataOf (i + j)⟩⟩ (by omega) (fun a2 c2 => ?_)
        repeat' first | refine adv ?_ | refine Side.go ?_ | refine Giv.mk fun _ => ?_ | refine All.mk fun q => ?_ | refine Fork.mk ?_ ?_ | (refine Two.mk (fun h => ?_) (fun h => ?_) <;> try first | contradiction | (exfalso; omega))
        refine CallG.use (blocks8 p d D1 { T1 with M := T1.M.begin1 } hQ.ds.ok hQ.Z hQ.S) ?_
        rintro r M ⟨rfl, rfl⟩
        dsimp only [lcA, lnA]
        repeat' first | refine adv ?_ | refine Side.go ?_ | refine Giv.mk fun _ => ?_ | refine All.mk fun q => ?_ | refine Fork.mk ?_ ?_ | (refine Two.mk (fun h => ?_) (fun h => ?_) <;> try first | contradiction | (exfalso; omega))
        have ht : (z + step).tmod ((258 : Nat) : Int) = (z + step) % ((258 : Nat) : Int) := Int.tmod_eq_emod_of_nonneg (by omega)
        refine loopQ.next ⟨((j + 1, (z + step).tmod ((258 : Nat) : Int)), b.set z.toNat true, ⟨a2, c2, u.xs ++ [⟨z, ⟨a, c, dataOf (i + j)⟩⟩]⟩, ps ++ [(z, dataOf (i + j))]), ⟨⟨by dsimp only; omega, by dsimp only; rw [ht]; omega⟩, hSn2, by dsimp only; rw [List.length_append, hpl]; rfl⟩, ?_⟩ (by dsimp only; omega) (evs rfl (evs rfl (evs rfl (evs (by dsimp only; rw [List.length_set]) (evs rfl (evs rfl (evs rfl (evs rfl (evs rfl (evs rfl (evs rfl (evs rfl (evs rfl (evs rfl .nil)))))))))))))) (fun w h => goes w h)
        dsimp only
        rw [List.map_append, hu]
        rfl
    · have hjs : j = size := by omega
      subst hjs
      have hui : ∀ x ∈ u.xs, I64 x.lba := fun x hx => by
        have h1 : x.v ∈ ps := by rw [← hu]; exact List.mem_map.2 ⟨x, hx, rfl⟩
        have h2 := (hSn.good _ h1).1
        have h3 : x.v.1 = x.lba := rfl
        constructor <;> omega
      obtain ⟨M3, ⟨b1, b2, b3⟩, m1, m2, mg, hyes, hno⟩ := hQ.round (by omega) (ps := ps) (fun e => by rw [e] at hpl; simp at hpl; omega) (by omega) hSn.nod hSn.good
      have hyes2 := fun (_ : Unit) => hyes
      have hno2 := fun (_ : Unit) => hno
      clear hyes hno
      repeat' first | refine adv ?_ | refine Side.go ?_ | refine Giv.mk fun _ => ?_ | refine All.mk fun q => ?_ | refine Fork.mk ?_ ?_ | (refine Two.mk (fun h => ?_) (fun h => ?_) <;> try first | contradiction | (exfalso; omega))
      refine CallG.freeze u ?_
      refine CallG.use (sto_write p d 8 96 { T1 with M := T1.M.begin1 } hQ.ds.off ((R1 + 1 : Nat) : Int) u hui (fun e he => (m1.hall e he).1)) ?_
      rintro r M ⟨rfl, rfl⟩
      dsimp only [lcA, lnA]
      rw [hu, b2]
      repeat' first | refine adv ?_ | refine Side.go ?_ | refine Giv.mk fun _ => ?_ | refine All.mk fun q => ?_ | refine Fork.mk ?_ ?_ | (refine Two.mk (fun h => ?_) (fun h => ?_) <;> try first | contradiction | (exfalso; omega))
      dsimp only
      refine CallG.use (sto_commit p d 8 96 { T1 with M := T1.M.twoL ps } hQ.ds.off ((R1 + 1 : Nat) : Int) m2.qin (Nat.le_trans m2.ql (by show T1.M.K.last + 1 ≤ _; rw [hQ.kl]; omega)) (m2.hO _) (m2.eok.hk (by omega)) m2.hall (Int.le_trans m2.la.1 m2.la.2.1)) ?_
      rintro r M ⟨rfl, rfl⟩
      dsimp only [lcA, lnA]
      rw [b3]
      repeat' first | refine adv ?_ | refine Side.go ?_ | refine Giv.mk fun _ => ?_ | refine All.mk fun q => ?_ | refine Fork.mk ?_ ?_ | (refine Two.mk (fun h => ?_) (fun h => ?_) <;> try first | contradiction | (exfalso; omega))
      dsimp only
      rw [show stO p d 8 96 = stO p d D1.Z D1.S from by rw [hQ.Z, hQ.S]]
      refine CallG.use (sto_flush p d D1 { T1 with M := M3 } hQ.ds.ok hQ.ds.off (by have := hQ.pp; dsimp only; omega) (by have := hQ.num; dsimp only; omega) mg) ?_
      rintro r M ⟨rfl, rfl⟩
      dsimp only [lcA, lnA]
      have hla1 := hQ.mi.la
      by_cases hroom : T1.pos + (1 + ps.length) ≤ 192
      · obtain ⟨T', D', hfl, hq', hnow, hl', -⟩ := hyes2 () hroom
        rw [hfl, hQ.Z, hQ.S]
        repeat' first | refine adv ?_ | refine Side.go ?_ | refine Giv.mk fun _ => ?_ | refine All.mk fun q => ?_ | refine Fork.mk ?_ ?_ | (refine Two.mk (fun h => ?_) (fun h => ?_) <;> try first | contradiction | (exfalso; omega))
        exact loopQ.next ⟨((k + 1, true), R1 + 1, C1, y, T', D'), ⟨hq', hy, by dsimp only; rw [hl']; simp only [if_true]; omega, by dsimp only; omega, by dsimp only; omega, by dsimp only; omega, fun h => (by cases h), fun _ h => (by cases h)⟩⟩ (by dsimp only; omega) (evs rfl (evs rfl (evs rfl (evs rfl (evs rfl (evs rfl (evs rfl (evs rfl (evs rfl .nil))))))))) (fun w h => goes w h)
      · obtain ⟨T', hfl, hq', hE, hl', -⟩ := hno2 () (by omega)
        have hk0 : k = 0 := by
          by_cases hk : k = 1
          · have := hK.p0 hk rfl; omega
          · omega
        subst hk0
        rw [hfl, hQ.Z, hQ.S]
        repeat' first | refine adv ?_ | refine Side.go ?_ | refine Giv.mk fun _ => ?_ | refine All.mk fun q => ?_ | refine Fork.mk ?_ ?_ | (refine Two.mk (fun h => ?_) (fun h => ?_) <;> try first | contradiction | (exfalso; omega))
        refine Sy_loop (ι := {st : (Nat × Int) × SS × Dv // (st.1.1 ≤ 8 ∧ st.1.2 = 2 * st.1.1) ∧ Qt (R1 + 1) (C1 + st.1.1) st.2.1 st.2.2 ∧ (i : Int) ≤ st.2.1.M.last ∧ (0 < st.1.1 → st.2.1.pos = 0)})
          (fun st => [(23, .int .i64 st.1.1.2), (15, .int .i64 ((0 : Nat) : Int)), (14, .bool false), (12, .int .i64 x1), (13, .int .i64 i), (0, .int .i64 n), (1, .int .i64 j), (2, .int .i64 step), (7, .pointer (some ⟨g, 0, none⟩)), (10, .pointer (some ⟨p, 0, none⟩))])
          (fun st => stO p d 8 96 st.1.2.1 :: devO d st.1.2.2 :: cells true g 0 [.int .i64 8, .int .i64 96] :: F)
          (fun st => 8 - st.1.1.1) ⟨((0, 0), T', D1), ⟨Nat.zero_le _, rfl⟩, hq', by dsimp only; rw [hl']; omega, fun h => absurd h (Nat.lt_irrefl 0)⟩ (evs rfl (evs rfl (evs rfl (evs rfl (evs rfl (evs rfl (evs rfl (evs rfl (evs rfl (evs rfl .nil)))))))))) (fun w h => goes w h) ?_
        rintro ⟨⟨⟨e, z⟩, T2, D2⟩, ⟨he8, hz⟩, hQ2, hl2, hp2⟩ env
        dsimp only [upds] at he8 hz hQ2 hl2 hp2 ⊢
        repeat' first | refine adv ?_ | refine Side.go ?_ | refine Giv.mk fun _ => ?_ | refine All.mk fun q => ?_ | refine Fork.mk ?_ ?_ | (refine Two.mk (fun h => ?_) (fun h => ?_) <;> try first | contradiction | (exfalso; omega))
        refine CallG.use (ref_steps 8 96 geo) ?_
        rintro r M ⟨rfl, rfl⟩
        dsimp only [lcA, lnA]
        by_cases he9 : e < 8
        · obtain ⟨T3, D3, hck, hq3, hM3, h03⟩ := hQ2.check (by have := hQ2.cnt; omega)
          have hla2 := hQ2.mi.la
          have hc2 := hQ2.cnt
          have hQ4 := hq3.clean
          repeat' first | refine adv ?_ | refine Side.go ?_ | refine Giv.mk fun _ => ?_ | refine All.mk fun q => ?_ | refine Fork.mk ?_ ?_ | (refine Two.mk (fun h => ?_) (fun h => ?_) <;> try first | contradiction | (exfalso; omega))
          rw [show stO p d 8 96 = stO p d D2.Z D2.S from by rw [hQ2.Z, hQ2.S]]
          refine CallG.use (sto_check p d D2 T2 hQ2.ds.ok hQ2.ds.off hQ2.ds.inn (by omega) hQ2.mi.eok (by omega) (by rw [hQ2.bl]; decide) (by omega)) ?_
          rintro r M ⟨rfl, rfl⟩
          dsimp only [lcA, lnA]
          rw [hck, hQ2.Z, hQ2.S]
          repeat' first | refine adv ?_ | refine Side.go ?_ | refine Giv.mk fun _ => ?_ | refine All.mk fun q => ?_ | refine Fork.mk ?_ ?_ | (refine Two.mk (fun h => ?_) (fun h => ?_) <;> try first | contradiction | (exfalso; omega))
          dsimp only
          refine CallG.use (sto_clean p d 8 96 T3 hq3.ds.off (hq3.mi.eok.hk (by omega)) (Nat.le_trans hq3.mi.eok.len (by rw [hq3.bl]; decide))) ?_
          rintro r M ⟨⟨n2, rfl⟩, rfl⟩
          dsimp only [lcA, lnA]
          repeat' first | refine adv ?_ | refine Side.go ?_ | refine Giv.mk fun _ => ?_ | refine All.mk fun q => ?_ | refine Fork.mk ?_ ?_ | (refine Two.mk (fun h => ?_) (fun h => ?_) <;> try first | contradiction | (exfalso; omega))
          exact loopQ.next ⟨((e + 1, z + 2), { T3 with M := T3.M.prune }, D3), ⟨by dsimp only; omega, by dsimp only; omega⟩, hQ4, by show (i : Int) ≤ T3.M.last; rw [hM3]; exact hl2, fun _ => h03⟩ (by dsimp only; omega) (evs rfl (evs rfl (evs rfl (evs rfl (evs rfl (evs rfl (evs rfl (evs rfl (evs rfl (evs rfl .nil)))))))))) (fun w h => goes w h)
        · have he10 : e = 8 := by omega
          subst he10
          repeat' first | refine adv ?_ | refine Side.go ?_ | refine Giv.mk fun _ => ?_ | refine All.mk fun q => ?_ | refine Fork.mk ?_ ?_ | (refine Two.mk (fun h => ?_) (fun h => ?_) <;> try first | contradiction | (exfalso; omega))
          exact loopQ.next ⟨((0 + 1, false), R1 + 1, C1 + 8, x1, T2, D2), ⟨hQ2, hx1, by simpa using hl2, by dsimp only; omega, by dsimp only; omega, by dsimp only; omega, fun _ => by dsimp only; omega, fun _ _ => hp2 (by decide)⟩⟩ (by dsimp only; omega) (evs rfl (evs rfl (evs rfl (evs rfl (evs rfl (evs rfl (evs rfl (evs rfl (evs rfl .nil))))))))) (fun w h => goes w h)
  · have hin : i = n := by omega
    subst hin
    have hl := hF.la
    repeat' first | refine adv ?_ | refine Side.go ?_ | refine Giv.mk fun _ => ?_ | refine All.mk fun q => ?_ | refine Fork.mk ?_ ?_ | (refine Two.mk (fun h => ?_) (fun h => ?_) <;> try first | contradiction | (exfalso; omega))
    refine CallG.use (sto_last p d 8 96 T) ?_
    rintro r M ⟨rfl, rfl⟩
    dsimp only [lcA, lnA]
    repeat' first | refine adv ?_ | refine Side.go ?_ | refine Giv.mk fun _ => ?_ | refine All.mk fun q => ?_ | refine Fork.mk ?_ ?_ | (refine Two.mk (fun h => ?_) (fun h => ?_) <;> try first | contradiction | (exfalso; omega))
    refine CallG.use law_awake ?_
    rintro r M ⟨rfl, rfl⟩
    dsimp only [lcA, lnA]
    repeat' first | refine adv ?_ | refine Side.go ?_ | refine Giv.mk fun _ => ?_ | refine All.mk fun q => ?_ | refine Fork.mk ?_ ?_ | (refine Two.mk (fun h => ?_) (fun h => ?_) <;> try first | contradiction | (exfalso; omega))
    exact endQ.one Tryz.results6 ⟨rfl, rfl⟩
end Go.SL
namespace Go.SL

def heapAt (W : World) : Hp
  | .cell r o => match W.heap[r]? with
    | some (.cells c _ _) => (c[o]?).map fun v => (false, .cell v)
    | _ => none
  | .obj r => match W.heap[r]? with
    | some o => if notCells o = true then some (false, .obj o) else none
    | none => none
/-- All that was there, only read. -/
def heapO (W : World) : HProp := fun h => h = heapAt W
theorem heap_real (W : World) : realises (heapAt W) W := by
  intro k b x hk
  cases k with
  | cell r o =>
    unfold heapAt at hk
    dsimp only at hk
    split at hk
    · rename_i c t fr he
      obtain ⟨v, hv, e⟩ := Option.map_eq_some_iff.1 hk
      cases e
      refine ⟨?_, fun h => by cases h⟩
      unfold World.cell?
      dsimp only
      rw [he]
      simpa using hv
    · cases hk
  | obj r =>
    unfold heapAt at hk
    dsimp only at hk
    split at hk
    · rename_i o he
      split at hk
      · rename_i hn
        cases hk
        exact ⟨he, hn⟩
      · cases hk
    · cases hk
theorem Base.refl (W : World) : Base W W := ⟨rfl, rfl, Nat.le_refl _, fun _ _ => rfl, fun _ c _ _ h => ⟨c, h, rfl⟩⟩
theorem sat_heap (W : World) : sat W [heapO W] W :=
  ⟨Base.refl W, heapAt W, ⟨heapAt W, fun _ => none, fun k => .inr (.inl rfl), by funext k; unfold join; cases heapAt W k <;> rfl, rfl, trivial⟩, heap_real W⟩
/-- What was there is there. -/
theorem heap_kept {W w : World} {L : List HProp} (h : sat W (L ++ [heapO W]) w) : w.os = W.os ∧ w.output = W.output ∧ W.heap.size ≤ w.heap.size ∧ ∀ k, k < W.heap.size → w.heap[k]? = W.heap[k]? := by
  have hb := h.base
  have h2 : sat W (heapO W :: L) w := h.perm List.perm_append_comm
  obtain ⟨g, hg, hr⟩ := h2.headOf
  cases hg
  refine ⟨hb.os, hb.output, hb.size, fun k hk => ?_⟩
  have hW : W.heap[k]? = some W.heap[k] := by simp [hk]
  cases ho : W.heap[k] with
  | cells c t fr =>
    rw [ho] at hW
    obtain ⟨c', hc', hs⟩ := hb.cells k c t fr hW
    rw [hc', hW]
    have : c' = c := by
      apply Array.ext hs
      intro i h1 h2
      have hi := hr (.cell k i) false (.cell c[i]) (by unfold heapAt; dsimp only; rw [hW]; simp [h2])
      have hi := hi.1
      unfold World.cell? at hi
      dsimp only at hi
      rw [hc'] at hi
      simpa [h1] using hi
    rw [this]
  | _ =>
    rw [ho] at hW
    have hi := hr (.obj k) false (.obj W.heap[k]) (by unfold heapAt; dsimp only; rw [hW, ho]; rfl)
    rw [hi.1, hW, ho]
theorem Spec.calls {P : Program} {f : FuncId} {args : Array Value} {post : Value → List HProp → Prop} (h : Spec P f args [] post) (w : World) :
    Calls P f args w fun e w' => (∃ v L, e = .returned v ∧ post v L) ∧ w'.os = w.os ∧ w'.output = w.output ∧ w.heap.size ≤ w'.heap.size ∧ ∀ k, k < w.heap.size → w'.heap[k]? = w.heap[k]? := by
  refine (h w [heapO w] w (sat_heap w)).mono ?_
  rintro e w' ⟨v, L, rfl, hp, hs⟩
  exact ⟨⟨v, L, rfl, hp⟩, heap_kept hs⟩
theorem kept_frame {W w' : World} (ho : w'.os = W.os) (hp : w'.output = W.output) (hb : ∀ k, k < W.heap.size → w'.heap[k]? = W.heap[k]?) (may : MemPlace → Prop) : W.keptBut w' may := by
  refine ⟨ho, hp, fun i hi => ?_⟩
  rw [hb i hi]
  split <;> simp_all
end Go.SL
