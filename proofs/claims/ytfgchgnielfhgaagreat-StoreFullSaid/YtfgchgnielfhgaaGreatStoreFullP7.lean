/- Parts of the proof of StoreFull: a logic of memory, contracts of functions, plain laws (Law4, Row, Row2, Law4b). Conditions: those that each theorem names. -/
import Derived.Carry
import Derived.ChangeSlices
import Derived.WideKeyArgs
import Derived.Test.YtfgchgnielfhgaaGreatStoreFullP6
set_option linter.unusedSimpArgs false
set_option linter.unusedVariables false
namespace Go.SL
open Go.Proofs
set_option synthInstance.maxSize 4000
set_option synthInstance.maxHeartbeats 400000
set_option maxRecDepth 4000
set_option maxHeartbeats 2000000

theorem law_full_long (s0 t0 : Int) (pa : Option Addr) (pl pc : Nat) (hl : 30 < pl) : Spec Tryz.prog 7 #[.int .i64 s0, .int .i64 t0, .slice pa pl pc] [] (fun v L => v = .bool true ∧ L = []) := by
  refine enter3 Tryz.func7 rfl (by decide) (by decide) ?_
  intro B F
  dsimp only [lcA, lnA]
  repeat' first | refine adv ?_ | refine Side.go ?_ | refine Giv.mk fun _ => ?_ | refine All.mk fun q => ?_ | refine Fork.mk ?_ ?_ | (refine Two.mk (fun h => ?_) (fun h => ?_) <;> try first | contradiction | (exfalso; omega))
  all_goals
    refine CallG.use law_awake ?_
    rintro v M ⟨rfl, rfl⟩
    dsimp only [lcA, lnA]
    repeat' first | refine adv ?_ | refine Side.go ?_ | refine Giv.mk fun _ => ?_ | refine All.mk fun q => ?_ | refine Fork.mk ?_ ?_ | (refine Two.mk (fun h => ?_) (fun h => ?_) <;> try first | contradiction | (exfalso; omega))
    exact endQ.one Tryz.results7 ⟨rfl, rfl⟩
theorem law_full_short (s0 t0 : Int) (pa : Option Addr) (pl pc : Nat) (px : List Int) (hpl : pl ≤ 30) : Spec Tryz.prog 7 #[.int .i64 s0, .int .i64 t0, .slice pa pl pc] [liI (.slice pa pl pc) px] (fun v L => v = .bool true ∧ L = []) := by
  have geo : geoOk (8 : Nat) (96 : Nat) := ⟨by decide, by decide⟩
  have hcap : capOf 8 96 = 258 := by decide
  refine enter3 Tryz.func7 rfl (by decide) (by decide) ?_
  intro B F
  dsimp only [lcA, lnA]
  repeat' first | refine adv ?_ | refine Side.go ?_ | refine Giv.mk fun _ => ?_ | refine All.mk fun q => ?_ | refine Fork.mk ?_ ?_ | (refine Two.mk (fun h => ?_) (fun h => ?_) <;> try first | contradiction | (exfalso; omega))
  · refine CallG.use law_awake ?_
    rintro r M ⟨rfl, rfl⟩
    dsimp only [lcA, lnA]
    repeat' first | refine adv ?_ | refine Side.go ?_ | refine Giv.mk fun _ => ?_ | refine All.mk fun q => ?_ | refine Fork.mk ?_ ?_ | (refine Two.mk (fun h => ?_) (fun h => ?_) <;> try first | contradiction | (exfalso; omega))
    exact endQ.one Tryz.results7 ⟨rfl, rfl⟩
  · refine CallG.use law_awake ?_
    rintro r M ⟨rfl, rfl⟩
    dsimp only [lcA, lnA]
    repeat' first | refine adv ?_ | refine Side.go ?_ | refine Giv.mk fun _ => ?_ | refine All.mk fun q => ?_ | refine Fork.mk ?_ ?_ | (refine Two.mk (fun h => ?_) (fun h => ?_) <;> try first | contradiction | (exfalso; omega))
    exact endQ.one Tryz.results7 ⟨rfl, rfl⟩
  · refine CallG.use law_awake ?_
    rintro r M ⟨rfl, rfl⟩
    dsimp only [lcA, lnA]
    repeat' first | refine adv ?_ | refine Side.go ?_ | refine Giv.mk fun _ => ?_ | refine All.mk fun q => ?_ | refine Fork.mk ?_ ?_ | (refine Two.mk (fun h => ?_) (fun h => ?_) <;> try first | contradiction | (exfalso; omega))
    exact endQ.one Tryz.results7 ⟨rfl, rfl⟩
  · refine CallG.use law_awake ?_
    rintro r M ⟨rfl, rfl⟩
    dsimp only [lcA, lnA]
    repeat' first | refine adv ?_ | refine Side.go ?_ | refine Giv.mk fun _ => ?_ | refine All.mk fun q => ?_ | refine Fork.mk ?_ ?_ | (refine Two.mk (fun h => ?_) (fun h => ?_) <;> try first | contradiction | (exfalso; omega))
    exact endQ.one Tryz.results7 ⟨rfl, rfl⟩
  obtain ⟨size, rfl⟩ : ∃ n : Nat, s0 = n := ⟨s0.toNat, by omega⟩
  obtain ⟨turns, rfl⟩ : ∃ n : Nat, t0 = n := ⟨t0.toNat, by omega⟩
  have hs1 : 1 ≤ size := by omega
  have hs2 : size ≤ 16 := by omega
  have ht1 : 1 ≤ turns := by omega
  have ht2 : turns ≤ 2 := by omega
  refine CallG.use law_least ?_
  rintro r M ⟨rfl, rfl⟩
  dsimp only [lcA, lnA]
  repeat' first | refine adv ?_ | refine Side.go ?_ | refine Giv.mk fun _ => ?_ | refine All.mk fun q => ?_ | refine Fork.mk ?_ ?_ | (refine Two.mk (fun h => ?_) (fun h => ?_) <;> try first | contradiction | (exfalso; omega))
  refine CallG.use (dev_fresh 8 96 geo) ?_
  rintro r M ⟨d, rfl, rfl⟩
  dsimp only [lcA, lnA]
  repeat' first | refine adv ?_ | refine Side.go ?_ | refine Giv.mk fun _ => ?_ | refine All.mk fun q => ?_ | refine Fork.mk ?_ ?_ | (refine Two.mk (fun h => ?_) (fun h => ?_) <;> try first | contradiction | (exfalso; omega))
  obtain ⟨D0, la, hmo, hds, hla, ⟨hZ, hS⟩, -⟩ := mount_fresh geo
  rw [hcap] at hmo hds
  have hF0 := FI.first hla hds hZ hS
  refine CallG.use (st_mount d (Dv.fresh 8 96) (fresh_ok geo) (ds_count (fresh_ds geo))) ?_
  rw [hmo]
  rintro v M (⟨h, -⟩ | ⟨-, p, rfl, rfl⟩)
  · exact absurd rfl h
  dsimp only [List.cons_append, List.nil_append, Dv.fresh]
  generalize hT0 : (⟨⟨1, [], 0, false⟩, Mg.of 258 0 ⟨258, [], la⟩, 0, 0, false⟩ : SS) = T0 at *
  repeat' first | refine adv ?_ | refine Side.go ?_ | refine Giv.mk fun _ => ?_ | refine All.mk fun q => ?_ | refine Fork.mk ?_ ?_ | (refine Two.mk (fun h => ?_) (fun h => ?_) <;> try first | contradiction | (exfalso; omega))
  rw [show stO p d 8 96 = stO p d D0.Z D0.S from by rw [hZ, hS]]
  refine CallG.use (sto_blocks p d D0 T0 hds.ok) ?_
  rintro r M ⟨rfl, rfl⟩
  dsimp only [lcA, lnA]
  rw [hZ, hS, hcap]
  repeat' first | refine adv ?_ | refine Side.go ?_ | refine Giv.mk fun _ => ?_ | refine All.mk fun q => ?_ | refine Fork.mk ?_ ?_ | (refine Two.mk (fun h => ?_) (fun h => ?_) <;> try first | contradiction | (exfalso; omega))
  refine Sy_loop (ι := {st : Nat × Nat × SS × Dv // st.1 ≤ turns ∧ FI st.1 0 st.2.1 st.2.2.1 st.2.2.2})
    (fun st => [(13, .int .i64 st.1.1), (0, .int .i64 size), (1, .int .i64 turns), (2, .slice pa pl pc), (8, .pointer (some ⟨d, 0, none⟩)), (10, .pointer (some ⟨p, 0, none⟩)), (12, .int .i64 (258 : Nat))])
    (fun st => stO p d 8 96 st.1.2.2.1 :: devO d st.1.2.2.2 :: liI (.slice pa pl pc) px :: F)
    (fun st => turns - st.1.1) ⟨(0, 0, T0, D0), Nat.zero_le _, hF0⟩ (evs rfl (evs rfl (evs rfl (evs rfl (evs rfl (evs rfl (evs rfl .nil))))))) (fun w h => goes w h) ?_
  rintro ⟨⟨k, R, T, D⟩, hk, hF⟩ env
  dsimp only [upds] at hk hF ⊢
  by_cases hk2 : k < turns
  · repeat' first | refine adv ?_ | refine Side.go ?_ | refine Giv.mk fun _ => ?_ | refine All.mk fun q => ?_ | refine Fork.mk ?_ ?_ | (refine Two.mk (fun h => ?_) (fun h => ?_) <;> try first | contradiction | (exfalso; omega))
    refine Sy_loop (ι := {st : (Nat × Int) × Nat × SS × Dv // (st.1.2 = st.1.1 ∧ st.1.1 ≤ 273) ∧ FI k st.1.1 st.2.1 st.2.2.1 st.2.2.2})
      (fun st => [(14, .int .i64 st.1.1.2), (13, .int .i64 k), (0, .int .i64 size), (1, .int .i64 turns), (2, .slice pa pl pc), (8, .pointer (some ⟨d, 0, none⟩)), (10, .pointer (some ⟨p, 0, none⟩)), (12, .int .i64 (258 : Nat))])
      (fun st => stO p d 8 96 st.1.2.2.1 :: devO d st.1.2.2.2 :: liI (.slice pa pl pc) px :: F)
      (fun st => 2 * (274 - st.1.1.1) + if st.1.2.2.1.pos = 0 then 0 else 1) ⟨((0, 0), R, T, D), ⟨rfl, Nat.zero_le _⟩, hF⟩ (evs rfl (evs rfl (evs rfl (evs rfl (evs rfl (evs rfl (evs rfl (evs rfl .nil)))))))) (fun w h => goes w h) ?_
    rintro ⟨⟨⟨at_, z⟩, R1, T1, D1⟩, ⟨hz, hat⟩, hF1⟩ env
    dsimp only [upds] at hz hat hF1 ⊢
    have hrb := hF1.rb
    have hR1 : R1 ≤ 3000 := by split at hrb <;> omega
    by_cases hat2 : at_ < 258
    · obtain ⟨m, hm⟩ : ∃ m, m = min size (258 - at_) := ⟨_, rfl⟩
      have hm2 : at_ + m ≤ 258 ∧ m ≤ size ∧ (m = size ∨ at_ + m = 258) ∧ 1 ≤ m := by omega
      have hQ := hF1.qt
      obtain ⟨M3, ⟨b1, b2, b3⟩, m1, m2, mg, hyes, hno⟩ := hQ.round (by omega) (ps := psN at_ m k) (fun e => by have := psN_len at_ m k; rw [e] at this; simp at this; omega) (by rw [psN_len]; omega) (psN_nodup _ _ _) (fun q hq => by
        obtain ⟨h1, h2⟩ := psN_mem hq
        exact ⟨by omega, h2⟩)
      rw [psN_len] at hyes hno
      have hyes2 := fun (_ : Unit) => hyes
      have hno2 := fun (_ : Unit) => hno
      clear hyes hno
      repeat' first | refine adv ?_ | refine Side.go ?_ | refine Giv.mk fun _ => ?_ | refine All.mk fun q => ?_ | refine Fork.mk ?_ ?_ | (refine Two.mk (fun h => ?_) (fun h => ?_) <;> try first | contradiction | (exfalso; omega))
      refine CallG.use (sto_begin p d 8 96 T1 hQ.ds.off (by rw [hQ.bl]; decide) (fun e he => by rw [hQ.ts] at he; cases he) (by rw [hQ.ts]; decide) (by rw [hQ.kl]; omega)) ?_
      rintro r M ⟨rfl, rfl⟩
      dsimp only [lcA, lnA]
      rw [b1]
      repeat' first | refine adv ?_ | refine Side.go ?_ | refine Giv.mk fun _ => ?_ | refine All.mk fun q => ?_ | refine Fork.mk ?_ ?_ | (refine Two.mk (fun h => ?_) (fun h => ?_) <;> try first | contradiction | (exfalso; omega))
      refine Sy_loop (ι := {st : (Nat × Int) × Sl PutR // (st.1.2 = (at_ : Int) + st.1.1 ∧ st.1.1 ≤ m) ∧ st.2.xs.map PutR.v = psN at_ st.1.1 k})
        (fun st => [(18, .int .i64 st.1.1.2), (17, st.1.2.val), (15, .int .i64 ((R1 + 1 : Nat) : Int)), (16, .int .i64 0), (14, .int .i64 z), (13, .int .i64 k), (0, .int .i64 size), (1, .int .i64 turns), (2, .slice pa pl pc), (8, .pointer (some ⟨d, 0, none⟩)), (10, .pointer (some ⟨p, 0, none⟩)), (12, .int .i64 (258 : Nat))])
        (fun st => ownS st.1.2 :: stO p d 8 96 { T1 with M := T1.M.begin1 } :: devO d D1 :: liI (.slice pa pl pc) px :: F)
        (fun st => m - st.1.1.1) ⟨((0, z), ⟨none, 0, []⟩), ⟨by dsimp only; omega, Nat.zero_le _⟩, rfl⟩ (evs rfl (evs rfl (evs rfl (evs rfl (evs rfl (evs rfl (evs rfl (evs rfl (evs rfl (evs rfl (evs rfl (evs rfl .nil)))))))))))) (fun w h => goes w (sat_true (own_nil (α := PutR)) h)) ?_
      rintro ⟨⟨⟨j, y⟩, u⟩, ⟨hy, hj⟩, hu⟩ env
      dsimp only [upds] at hy hj hu ⊢
      have hul : u.xs.length = j := by have := congrArg List.length hu; rw [List.length_map, psN_len] at this; exact this
      by_cases hj2 : j < m
      · repeat' first | refine adv ?_ | refine Side.go ?_ | refine Giv.mk fun _ => ?_ | refine All.mk fun q => ?_ | refine Fork.mk ?_ ?_ | (refine Two.mk (fun h => ?_) (fun h => ?_) <;> try first | contradiction | (exfalso; omega))
        rw [show y + (k : Int) = ((at_ + j + k : Nat) : Int) from by omega]
        refine CallG.use (alike_data (at_ + j + k) (by omega)) ?_
        rintro r M ⟨a, c, rfl, rfl⟩
        dsimp only [lcA, lnA]
        repeat' first | refine adv ?_ | refine Side.go ?_ | refine Giv.mk fun _ => ?_ | refine All.mk fun q => ?_ | refine Fork.mk ?_ ?_ | (refine Two.mk (fun h => ?_) (fun h => ?_) <;> try first | contradiction | (exfalso; omega))
        refine AppG.oneP u ⟨y, ⟨a, c, dataOf (at_ + j + k)⟩⟩ (by omega) (fun a2 c2 => ?_)
        repeat' first | refine adv ?_ | refine Side.go ?_ | refine Giv.mk fun _ => ?_ | refine All.mk fun q => ?_ | refine Fork.mk ?_ ?_ | (refine Two.mk (fun h => ?_) (fun h => ?_) <;> try first | contradiction | (exfalso; omega))
        refine loopQ.next ⟨((j + 1, y + 1), ⟨a2, c2, u.xs ++ [⟨y, ⟨a, c, dataOf (at_ + j + k)⟩⟩]⟩), ⟨by dsimp only; omega, by dsimp only; omega⟩, ?_⟩ (by dsimp only; omega) (evs rfl (evs rfl (evs rfl (evs rfl (evs rfl (evs rfl (evs rfl (evs rfl (evs rfl (evs rfl (evs rfl (evs rfl .nil)))))))))))) (fun w h => goes w h)
        dsimp only
        rw [List.map_append, hu, psN_snoc, show ((at_ + j : Nat) : Int) = y from by omega]
        rfl
      · have hjm : j = m := by omega
        subst hjm
        have hui : ∀ x ∈ u.xs, I64 x.lba := fun x hx => by
          have h1 : x.v ∈ psN at_ j k := by rw [← hu]; exact List.mem_map.2 ⟨x, hx, rfl⟩
          have h2 := (psN_mem h1).1
          have h3 : x.v.1 = x.lba := rfl
          constructor <;> omega
        repeat' first | refine adv ?_ | refine Side.go ?_ | refine Giv.mk fun _ => ?_ | refine All.mk fun q => ?_ | refine Fork.mk ?_ ?_ | (refine Two.mk (fun h => ?_) (fun h => ?_) <;> try first | contradiction | (exfalso; omega))
        all_goals try (exfalso; omega)
        all_goals
          refine CallG.freeze u ?_
          refine CallG.use (sto_write p d 8 96 { T1 with M := T1.M.begin1 } hQ.ds.off ((R1 + 1 : Nat) : Int) u hui (fun e he => (m1.hall e he).1)) ?_
          rintro r M ⟨rfl, rfl⟩
          dsimp only [lcA, lnA]
          rw [hu, b2]
          repeat' first | refine adv ?_ | refine Side.go ?_ | refine Giv.mk fun _ => ?_ | refine All.mk fun q => ?_ | refine Fork.mk ?_ ?_ | (refine Two.mk (fun h => ?_) (fun h => ?_) <;> try first | contradiction | (exfalso; omega))
          dsimp only
          refine CallG.use (sto_commit p d 8 96 { T1 with M := T1.M.twoL (psN at_ j k) } hQ.ds.off ((R1 + 1 : Nat) : Int) m2.qin (Nat.le_trans m2.ql (by show T1.M.K.last + 1 ≤ _; rw [hQ.kl]; omega)) (m2.hO _) (m2.eok.hk (by omega)) m2.hall (Int.le_trans m2.la.1 m2.la.2.1)) ?_
          rintro r M ⟨rfl, rfl⟩
          dsimp only [lcA, lnA]
          rw [b3]
          repeat' first | refine adv ?_ | refine Side.go ?_ | refine Giv.mk fun _ => ?_ | refine All.mk fun q => ?_ | refine Fork.mk ?_ ?_ | (refine Two.mk (fun h => ?_) (fun h => ?_) <;> try first | contradiction | (exfalso; omega))
          dsimp only
          rw [show stO p d 8 96 = stO p d D1.Z D1.S from by rw [hQ.Z, hQ.S]]
          refine CallG.use (sto_flush p d D1 { T1 with M := M3 } hQ.ds.ok hQ.ds.off (by have := hQ.pp; dsimp only; omega) (by have := hQ.num; dsimp only; omega) mg) ?_
          rintro r M ⟨rfl, rfl⟩
          dsimp only [lcA, lnA]
          by_cases hroom : T1.pos + (1 + j) ≤ 192
          · obtain ⟨T', D', hfl, hq', hnow, -, -⟩ := hyes2 () hroom
            rw [hfl, hQ.Z, hQ.S]
            repeat' first | refine adv ?_ | refine Side.go ?_ | refine Giv.mk fun _ => ?_ | refine All.mk fun q => ?_ | refine Fork.mk ?_ ?_ | (refine Two.mk (fun h => ?_) (fun h => ?_) <;> try first | contradiction | (exfalso; omega))
            dsimp only
            refine CallG.use (sto_clean p d 8 96 T' hq'.ds.off (hq'.mi.eok.hk (by omega)) (Nat.le_trans hq'.mi.eok.len (by rw [hq'.bl]; decide))) ?_
            rintro r M ⟨⟨n2, rfl⟩, rfl⟩
            dsimp only [lcA, lnA]
            repeat' first | refine adv ?_ | refine Side.go ?_ | refine Giv.mk fun _ => ?_ | refine All.mk fun q => ?_ | refine Fork.mk ?_ ?_ | (refine Two.mk (fun h => ?_) (fun h => ?_) <;> try first | contradiction | (exfalso; omega))
            refine loopQ.next ⟨((at_ + size, z + size), R1 + 1, { T' with M := T'.M.prune }, D'), ⟨by dsimp only; omega, by dsimp only; omega⟩, hF1.yes hat2 hs1 hq' (by rw [← hm]; exact hnow)⟩ ?_ (evs rfl (evs rfl (evs rfl (evs rfl (evs rfl (evs rfl (evs rfl (evs rfl .nil)))))))) (fun w h => goes w h)
            dsimp only
            split <;> split <;> omega
          · obtain ⟨T', hfl, hq', hE, -, -⟩ := hno2 () (by omega)
            obtain ⟨T2, D2, hck, hq2, hM2, h02⟩ := hq'.check (by omega)
            have hla' := hq'.mi.la
            rw [hfl]
            repeat' first | refine adv ?_ | refine Side.go ?_ | refine Giv.mk fun _ => ?_ | refine All.mk fun q => ?_ | refine Fork.mk ?_ ?_ | (refine Two.mk (fun h => ?_) (fun h => ?_) <;> try first | contradiction | (exfalso; omega))
            dsimp only
            refine CallG.use (sto_check p d D1 T' hq'.ds.ok hq'.ds.off hq'.ds.inn (by have := hq'.cnt; omega) hq'.mi.eok (by omega) (by rw [hq'.bl]; decide) (by omega)) ?_
            rintro r M ⟨rfl, rfl⟩
            dsimp only [lcA, lnA]
            rw [hck, hQ.Z, hQ.S]
            repeat' first | refine adv ?_ | refine Side.go ?_ | refine Giv.mk fun _ => ?_ | refine All.mk fun q => ?_ | refine Fork.mk ?_ ?_ | (refine Two.mk (fun h => ?_) (fun h => ?_) <;> try first | contradiction | (exfalso; omega))
            have hp0 : T1.pos ≠ 0 := by omega
            refine loopQ.next ⟨((at_, z - size + size), R1 + 1, T2, D2), ⟨by dsimp only; omega, hat⟩, hF1.no hp0 hq2 (by rw [hM2, hE]) h02⟩ ?_ (evs rfl (evs rfl (evs rfl (evs rfl (evs rfl (evs rfl (evs rfl (evs rfl .nil)))))))) (fun w h => goes w h)
            dsimp only
            rw [if_pos h02, if_neg hp0]
            omega
    · repeat' first | refine adv ?_ | refine Side.go ?_ | refine Giv.mk fun _ => ?_ | refine All.mk fun q => ?_ | refine Fork.mk ?_ ?_ | (refine Two.mk (fun h => ?_) (fun h => ?_) <;> try first | contradiction | (exfalso; omega))
      exact loopQ.next ⟨(k + 1, R1, T1, D1), by dsimp only; omega, hF1.next (by omega) hat⟩ (by dsimp only; omega) (evs rfl (evs rfl (evs rfl (evs rfl (evs rfl (evs rfl (evs rfl .nil))))))) (fun w h => goes w h)
  · have hkt : k = turns := by omega
    subst hkt
    obtain ⟨k', hk'⟩ : ∃ k', k = k' + 1 := ⟨k - 1, by omega⟩
    subst hk'
    have hQ := hF.qt
    have hR1 : R ≤ 3000 := by have := hF.rb; split at this <;> omega
    have hH := hF.holds
    obtain ⟨b1, b2⟩ := hQ.mi.begin (by rw [hQ.ts, hQ.km]; decide)
    have b3 : vget T.M.begin1.all ((R + 1 : Nat) : Int) = some (Tr.new 258 T.M.last) := by rw [begin1_get hQ.mi, hQ.kl, if_pos rfl, hQ.bl]
    rw [hQ.kl] at b1
    repeat' first | refine adv ?_ | refine Side.go ?_ | refine Giv.mk fun _ => ?_ | refine All.mk fun q => ?_ | refine Fork.mk ?_ ?_ | (refine Two.mk (fun h => ?_) (fun h => ?_) <;> try first | contradiction | (exfalso; omega))
    refine CallG.use (sto_begin p d 8 96 T hQ.ds.off (by rw [hQ.bl]; decide) (fun e he => by rw [hQ.ts] at he; cases he) (by rw [hQ.ts]; decide) (by rw [hQ.kl]; omega)) ?_
    rintro r M ⟨rfl, rfl⟩
    dsimp only [lcA, lnA]
    rw [b1]
    repeat' first | refine adv ?_ | refine Side.go ?_ | refine Giv.mk fun _ => ?_ | refine All.mk fun q => ?_ | refine Fork.mk ?_ ?_ | (refine Two.mk (fun h => ?_) (fun h => ?_) <;> try first | contradiction | (exfalso; omega))
    refine CallG.use (alike_data 1 (by decide)) ?_
    rintro r M ⟨a, c, rfl, rfl⟩
    dsimp only [lcA, lnA]
    repeat' first | refine adv ?_ | refine Side.go ?_ | refine Giv.mk fun _ => ?_ | refine All.mk fun q => ?_ | refine Fork.mk ?_ ?_ | (refine Two.mk (fun h => ?_) (fun h => ?_) <;> try first | contradiction | (exfalso; omega))
    refine CallG_conv (L' := stO p d 8 96 { T with M := T.M.begin1 } :: roS (⟨some ⟨q, 0, none⟩, 1, [⟨((258 : Nat) : Int), ⟨a, c, dataOf 1⟩⟩]⟩ : Sl PutR) :: devO d D :: liI (.slice pa pl pc) px :: F) (fun B w' h => ?_) ?_
    · have h2 : sat B (cells true q 0 [.int .i64 ((258 : Nat) : Int), .slice a (dataOf 1).length c] :: roS (⟨a, c, dataOf 1⟩ : Sl UInt8) :: stO p d 8 96 { T with M := T.M.begin1 } :: devO d D :: liI (.slice pa pl pc) px :: F) w' := goes w' h
      exact goes w' (own_lit1 (⟨((258 : Nat) : Int), ⟨a, c, dataOf 1⟩⟩ : PutR) h2)
    refine CallG.use (sto_write p d 8 96 { T with M := T.M.begin1 } hQ.ds.off ((R + 1 : Nat) : Int) (⟨some ⟨q, 0, none⟩, 1, [⟨((258 : Nat) : Int), ⟨a, c, dataOf 1⟩⟩]⟩ : Sl PutR) (fun x hx => by rw [List.mem_singleton.1 hx]; dsimp only; constructor <;> omega) (fun e he => (b2.hall e he).1)) ?_
    rintro r M ⟨rfl, rfl⟩
    dsimp only [lcA, lnA]
    have hps : ([⟨((258 : Nat) : Int), ⟨a, c, dataOf 1⟩⟩] : List PutR).map PutR.v = [(((258 : Nat) : Int), dataOf 1)] := rfl
    rw [hps]
    have hw1 := write_range (d := dataOf 1) b3
    obtain ⟨hw2, hw3⟩ := write_rest T.M.begin1 ((R + 1 : Nat) : Int) [(((258 : Nat) : Int), dataOf 1)]
    generalize T.M.begin1.write ((R + 1 : Nat) : Int) [(((258 : Nat) : Int), dataOf 1)] = W1 at hw1 hw2 hw3 ⊢
    obtain ⟨w1, M1⟩ := W1
    dsimp only at hw1 hw2 hw3 ⊢
    subst hw1
    have hcp : capOf D.Z D.S = 258 := by rw [hQ.Z, hQ.S]; exact hcap
    have hE1 : M1.E = T.M.E := hw2
    have hl1 : M1.last = T.M.last := hw3
    have hmla := hQ.mi.la
    have hds1 : Ds ({ T with M := M1 } : SS) D := hQ.ds.same M1 hl1 hE1
    obtain ⟨D2, hck, ⟨hZ2, hS2, -⟩, hds2⟩ := check_ds hds1 (c := 300 + 16 * R) (by rw [hE1]; exact hQ.mi.eok) (by rw [hE1, hQ.bl]; exact hcp.symm) (by rw [hl1]; omega) (by have := hQ.cnt; dsimp only; omega)
    have hds3 := hds2.crash px px
    obtain ⟨D6, E6, hm6, hds6, hE6, hb6, hdump, -, -, -, -, -⟩ := mount_ds hds3 (c := 300 + 16 * R) (by dsimp only; rw [hE1]; exact hQ.mi.eok) (by dsimp only; rw [hE1, hQ.bl, show (D2.crash px px).Z = D.Z from hZ2, show (D2.crash px px).S = D.S from hS2]; exact hcp.symm) (by dsimp only; rw [hl1]; omega) (by dsimp only; rw [hl1, hE1]; exact hQ.mi.pos)
    have hcp2 : capOf (D2.crash px px).Z (D2.crash px px).S = 258 := by rw [show (D2.crash px px).Z = D.Z from hZ2, show (D2.crash px px).S = D.S from hS2]; exact hcp
    rw [hcp2] at hm6 hE6 hb6 hds6
    obtain ⟨T6, hm7, hE7⟩ : ∃ T6 : SS, mountOf (D2.crash px px) = ⟨0, D6, T6⟩ ∧ T6.M.E = E6 := ⟨_, hm6, rfl⟩
    have hd6 : E6.dump = (List.range 258).map fun (j : Nat) => ((j : Int), dataOf (j + k')) := by
      rw [hdump]
      dsimp only
      rw [hE1]
      exact hH.dump hQ.mi.eok
    repeat' first | refine adv ?_ | refine Side.go ?_ | refine Giv.mk fun _ => ?_ | refine All.mk fun q => ?_ | refine Fork.mk ?_ ?_ | (refine Two.mk (fun h => ?_) (fun h => ?_) <;> try first | contradiction | (exfalso; omega))
    rw [show stO p d 8 96 = stO p d D.Z D.S from by rw [hQ.Z, hQ.S]]
    refine CallG.use (sto_check p d D { T with M := M1 } hds1.ok hds1.off hds1.inn (by have := hQ.cnt; dsimp only; omega) (c := 300 + 16 * R) (by dsimp only; rw [hE1]; exact hQ.mi.eok) (by omega) (by dsimp only; rw [hE1, hQ.bl]; decide) (by dsimp only; rw [hl1]; omega)) ?_
    rintro r M ⟨rfl, rfl⟩
    dsimp only [lcA, lnA]
    rw [hck]
    repeat' first | refine adv ?_ | refine Side.go ?_ | refine Giv.mk fun _ => ?_ | refine All.mk fun q => ?_ | refine Fork.mk ?_ ?_ | (refine Two.mk (fun h => ?_) (fun h => ?_) <;> try first | contradiction | (exfalso; omega))
    refine CallG.use (dev_crash d D2 hds2.ok (.slice pa pl pc) (.slice pa pl pc) px px) ?_
    rintro r M ⟨d2, rfl, rfl⟩
    dsimp only [lcA, lnA]
    repeat' first | refine adv ?_ | refine Side.go ?_ | refine Giv.mk fun _ => ?_ | refine All.mk fun q => ?_ | refine Fork.mk ?_ ?_ | (refine Two.mk (fun h => ?_) (fun h => ?_) <;> try first | contradiction | (exfalso; omega))
    refine CallG.use (st_mount d2 (D2.crash px px) hds3.ok (ds_count hds3)) ?_
    rw [hm7]
    rintro v M (⟨h, -⟩ | ⟨-, p2, rfl, rfl⟩)
    · exact absurd rfl h
    dsimp only [lcA, lnA]
    repeat' first | refine adv ?_ | refine Side.go ?_ | refine Giv.mk fun _ => ?_ | refine All.mk fun q => ?_ | refine Fork.mk ?_ ?_ | (refine Two.mk (fun h => ?_) (fun h => ?_) <;> try first | contradiction | (exfalso; omega))
    refine CallG.use (sto_dump p2 d2 (D2.crash px px).Z (D2.crash px px).S T6 (by rw [hE7]; exact hE6.hk (by decide)) (by rw [hE7]; exact Nat.le_trans hE6.len (by rw [hb6]; decide))) ?_
    rintro v M ⟨u, hu, rfl, rfl⟩
    dsimp only [lcA, lnA]
    rw [hE7, hd6] at hu
    have hul : u.xs.length = 258 := by
      have := congrArg List.length hu
      simpa using this
    clear hd6 hdump hm6 hm7 hds6 hck hds2
    repeat' first | refine adv ?_ | refine Side.go ?_ | refine Giv.mk fun _ => ?_ | refine All.mk fun q => ?_ | refine Fork.mk ?_ ?_ | (refine Two.mk (fun h => ?_) (fun h => ?_) <;> try first | contradiction | (exfalso; omega))
    refine Sy_conv (freezeS u) ?_
    refine Sy_loop (ι := {j : Nat // j ≤ 258}) (fun j => [(25, .int .i64 j.1), (24, u.val), (12, .int .i64 (258 : Nat)), (1, .int .i64 ((k' + 1 : Nat) : Int))]) (fun _ => roS u :: F) (fun j => 258 - j.1) ⟨0, Nat.zero_le _⟩ (evs rfl (evs rfl (evs rfl (evs rfl .nil)))) (fun w h => goes w h) ?_
    rintro ⟨j, hj⟩ env
    dsimp only [upds] at hj ⊢
    by_cases hj2 : j < 258
    · have hju : j < u.xs.length := by omega
      have hux : u.xs[j].v = ((j : Int), dataOf (j + k')) := by
        have h1 : (u.xs.map PutR.v)[j]? = some ((j : Int), dataOf (j + k')) := by rw [hu]; simp [hj2]
        rw [List.getElem?_map, List.getElem?_eq_getElem hju] at h1
        exact Option.some.inj h1
      have hl5 : u.xs[j].lba = j := congrArg Prod.fst hux
      have hd5 : u.xs[j].d.xs = dataOf (j + k') := congrArg Prod.snd hux
      repeat' first | refine adv ?_ | refine Side.go ?_ | refine Giv.mk fun _ => ?_ | refine All.mk fun q => ?_ | refine Fork.mk ?_ ?_ | (refine Two.mk (fun h => ?_) (fun h => ?_) <;> try first | contradiction | (exfalso; omega))
      all_goals try (exfalso; omega)
      rw [show (j : Int) + ((k' + 1 : Nat) : Int) - 1 = ((j + k' : Nat) : Int) from by omega]
      refine CallG.use (alike_data (j + k') (by omega)) ?_
      rintro r M ⟨a2, c2, rfl, rfl⟩
      dsimp only [lcA, lnA]
      repeat' first | refine adv ?_ | refine Side.go ?_ | refine Giv.mk fun _ => ?_ | refine All.mk fun q => ?_ | refine Fork.mk ?_ ?_ | (refine Two.mk (fun h => ?_) (fun h => ?_) <;> try first | contradiction | (exfalso; omega))
      refine CallG.pull (fun B => pull_put u hju) ?_
      refine CallG.use (alike_bytes u.xs[j].d (⟨a2, c2, dataOf (j + k')⟩ : Sl UInt8)) ?_
      rintro r M ⟨rfl, rfl⟩
      dsimp only [lcA, lnA]
      rw [show decide (u.xs[j].d.xs = dataOf (j + k')) = true from decide_eq_true hd5]
      repeat' first | refine adv ?_ | refine Side.go ?_ | refine Giv.mk fun _ => ?_ | refine All.mk fun q => ?_ | refine Fork.mk ?_ ?_ | (refine Two.mk (fun h => ?_) (fun h => ?_) <;> try first | contradiction | (exfalso; omega))
      exact loopQ.next ⟨j + 1, by omega⟩ (by dsimp only; omega) (evs rfl (evs rfl (evs rfl (evs rfl .nil)))) (fun w h => goes w h)
    · repeat' first | refine adv ?_ | refine Side.go ?_ | refine Giv.mk fun _ => ?_ | refine All.mk fun q => ?_ | refine Fork.mk ?_ ?_ | (refine Two.mk (fun h => ?_) (fun h => ?_) <;> try first | contradiction | (exfalso; omega))
      refine CallG.use law_awake ?_
      rintro r M ⟨rfl, rfl⟩
      dsimp only [lcA, lnA]
      repeat' first | refine adv ?_ | refine Side.go ?_ | refine Giv.mk fun _ => ?_ | refine All.mk fun q => ?_ | refine Fork.mk ?_ ?_ | (refine Two.mk (fun h => ?_) (fun h => ?_) <;> try first | contradiction | (exfalso; omega))
      exact endQ.one Tryz.results7 ⟨rfl, rfl⟩
end Go.SL
namespace Go.SL

def heapAt (W : World) : Hp
  | .cell r o => match W.heap[r]? with
    | some (.cells c _ _) => (c[o]?).map fun v => (false, .cell v)
    | _ => none
  | .obj r => match W.heap[r]? with
    | some o => if notCells o = true then some (false, .obj o) else none
    | none => none
/-- All that was there, only read. -/
def heapO (W : World) : HProp := fun h => h = heapAt W
theorem heap_real (W : World) : realises (heapAt W) W := by
  intro k b x hk
  cases k with
  | cell r o =>
    unfold heapAt at hk
    dsimp only at hk
    split at hk
    · rename_i c t fr he
      obtain ⟨v, hv, e⟩ := Option.map_eq_some_iff.1 hk
      cases e
      refine ⟨?_, fun h => by cases h⟩
      unfold World.cell?
      dsimp only
      rw [he]
      simpa using hv
    · cases hk
  | obj r =>
    unfold heapAt at hk
    dsimp only at hk
    split at hk
    · rename_i o he
      split at hk
      · rename_i hn
        cases hk
        exact ⟨he, hn⟩
      · cases hk
    · cases hk
theorem Base.refl (W : World) : Base W W := ⟨rfl, rfl, Nat.le_refl _, fun _ _ => rfl, fun _ c _ _ h => ⟨c, h, rfl⟩⟩
theorem sat_heap (W : World) : sat W [heapO W] W :=
  ⟨Base.refl W, heapAt W, ⟨heapAt W, fun _ => none, fun k => .inr (.inl rfl), by funext k; unfold join; cases heapAt W k <;> rfl, rfl, trivial⟩, heap_real W⟩
/-- What was there is there. -/
theorem heap_kept {W w : World} {L : List HProp} (h : sat W (L ++ [heapO W]) w) : w.os = W.os ∧ w.output = W.output ∧ W.heap.size ≤ w.heap.size ∧ ∀ k, k < W.heap.size → w.heap[k]? = W.heap[k]? := by
  have hb := h.base
  have h2 : sat W (heapO W :: L) w := h.perm List.perm_append_comm
  obtain ⟨g, hg, hr⟩ := h2.headOf
  cases hg
  refine ⟨hb.os, hb.output, hb.size, fun k hk => ?_⟩
  have hW : W.heap[k]? = some W.heap[k] := by simp [hk]
  cases ho : W.heap[k] with
  | cells c t fr =>
    rw [ho] at hW
    obtain ⟨c', hc', hs⟩ := hb.cells k c t fr hW
    rw [hc', hW]
    have : c' = c := by
      apply Array.ext hs
      intro i h1 h2
      have hi := hr (.cell k i) false (.cell c[i]) (by unfold heapAt; dsimp only; rw [hW]; simp [h2])
      have hi := hi.1
      unfold World.cell? at hi
      dsimp only at hi
      rw [hc'] at hi
      simpa [h1] using hi
    rw [this]
  | _ =>
    rw [ho] at hW
    have hi := hr (.obj k) false (.obj W.heap[k]) (by unfold heapAt; dsimp only; rw [hW, ho]; rfl)
    rw [hi.1, hW, ho]
theorem Spec.calls {P : Program} {f : FuncId} {args : Array Value} {post : Value → List HProp → Prop} (h : Spec P f args [] post) (w : World) :
    Calls P f args w fun e w' => (∃ v L, e = .returned v ∧ post v L) ∧ w'.os = w.os ∧ w'.output = w.output ∧ w.heap.size ≤ w'.heap.size ∧ ∀ k, k < w.heap.size → w'.heap[k]? = w.heap[k]? := by
  refine (h w [heapO w] w (sat_heap w)).mono ?_
  rintro e w' ⟨v, L, rfl, hp, hs⟩
  exact ⟨⟨v, L, rfl, hp⟩, heap_kept hs⟩
theorem kept_frame {W w' : World} (ho : w'.os = W.os) (hp : w'.output = W.output) (hb : ∀ k, k < W.heap.size → w'.heap[k]? = W.heap[k]?) (may : MemPlace → Prop) : W.keptBut w' may := by
  refine ⟨ho, hp, fun i hi => ?_⟩
  rw [hb i hi]
  split <;> simp_all
end Go.SL
namespace Go.SL
open Go.ChangeShapes

theorem heapAt_ro (W : World) : ∀ k x, heapAt W k = some x → x.1 = false := by
  intro k x hk
  cases k with
  | cell r o =>
    unfold heapAt at hk
    dsimp only at hk
    split at hk
    · obtain ⟨v, hv, e⟩ := Option.map_eq_some_iff.1 hk
      rw [← e]
    · cases hk
  | obj r =>
    unfold heapAt at hk
    dsimp only at hk
    split at hk
    · split at hk
      · cases hk; rfl
      · cases hk
    · cases hk
theorem star_same {g : Hp} (hg : ∀ k x, g k = some x → x.1 = false) : ∀ (pre rest : List HProp), (∀ A ∈ pre, A g) → star rest g → star (pre ++ rest) g
  | [], _, _, h => h
  | A :: pre, rest, hp, h => by
    refine ⟨g, g, fun k => ?_, ?_, hp A (List.mem_cons_self ..), star_same hg pre rest (fun B hB => hp B (List.mem_cons_of_mem _ hB)) h⟩
    · cases hk : g k with
      | none => exact .inl rfl
      | some x => exact .inr (.inr ⟨rfl, x.2, by rw [← hg k x hk]⟩)
    · funext k; unfold join; cases g k <;> rfl
theorem Spec.callsL {P : Program} {f : FuncId} {args : Array Value} {pre : List HProp} {post : Value → List HProp → Prop} (h : Spec P f args pre post) (w : World) (hp : ∀ A ∈ pre, A (heapAt w)) :
    Calls P f args w fun e w' => (∃ v L, e = .returned v ∧ post v L) ∧ w'.os = w.os ∧ w'.output = w.output ∧ w.heap.size ≤ w'.heap.size ∧ ∀ k, k < w.heap.size → w'.heap[k]? = w.heap[k]? := by
  refine (h w [heapO w] w ⟨Base.refl w, heapAt w, star_same (heapAt_ro w) pre [heapO w] hp ⟨heapAt w, fun _ => none, fun k => .inr (.inl rfl), by funext k; unfold join; cases heapAt w k <;> rfl, rfl, trivial⟩, heap_real w⟩).mono ?_
  rintro e w' ⟨v, L, rfl, hp, hs⟩
  exact ⟨⟨v, L, rfl, hp⟩, heap_kept hs⟩
theorem cell_some {W : World} {x : Addr} {v : Value} (h : W.cell? x = some v) : x.spot = none ∧ heapAt W (.cell x.block x.off) = some (false, .cell v) := by
  unfold World.cell? at h
  split at h
  · rename_i cc tt ff hh
    split at h
    · cases h
    · rename_i hs
      refine ⟨by simpa using hs, ?_⟩
      unfold heapAt
      dsimp only
      rw [hh]
      dsimp only
      rw [h]; rfl
  · cases h
theorem flat_int : ∀ xs : List Int, flat xs = xs.map fun n => Value.int .i64 n
  | [] => rfl
  | x :: xs => by
    have := flat_int xs
    unfold flat at this ⊢
    rw [List.flatMap_cons, this, List.map_cons]; rfl
/-- A slice of whole numbers that came in, as the walks ask for it. -/
theorem li_of {H : Type} {enc : TypeId × Value → H} {P : Program} {W : World} {t e : TypeId} (ht : P.underlying t = some (.slice e)) (he : P.underlying e = some (.int .i64)) (hc : P.cellsOf e = 1) {a : Option Addr} {l c : Nat} {d : DataW H} {p : List MemPlace}
    (h : DataW.Trod enc P W 0 (fun _ => true) true t (.slice a l c) d p) (hl : l ≤ 140737488355328) : ∃ xs : List Int, xs.length = l ∧ liI (.slice a l c) xs (heapAt W) := by
  obtain ⟨fuel, hf⟩ := h
  by_cases h0 : l = 0
  · subst h0
    exact ⟨[], rfl, .inr ⟨rfl, a, c, rfl⟩⟩
  rcases open_ints ht he hc hf with ⟨hcs, hx⟩ | ⟨a', len', cap', zs, hcs, _, hll, hm, hz, hx, hcell, hwz⟩
  · simp [Value.cells] at hcs
    exact absurd hcs.2.1 h0
  · simp [Value.cells] at hcs
    obtain ⟨rfl, rfl, rfl⟩ := hcs
    simp only [if_true] at hz
    have hlen : (zs.take l).length = l := by rw [List.length_take]; omega
    have hspot : a'.spot = none := by
      have := (cell_some (hcell 0 (by omega))).1
      simpa [Addr.add] using this
    have hadd : ∀ i, a'.add i = ⟨a'.block, a'.off + i, none⟩ := fun i => by
      obtain ⟨b, o, sp⟩ := a'
      cases hspot
      unfold Addr.add
      split
      · rename_i h1; subst h1; rfl
      · rfl
    refine ⟨zs.take l, hlen, .inl ⟨⟨some a', c, zs.take l⟩, by simp [Sl.val, hlen], rfl, ⟨fun x hx => by cases hx; exact hspot, by show (zs.take l).length ≤ c; omega, fun h => (by cases h), by show (zs.take l).length ≤ _; omega⟩, ?_, fun _ _ => trivial⟩⟩
    intro i v hv
    rw [flat_int, List.getElem?_map] at hv
    obtain ⟨n, hn, rfl⟩ := Option.map_eq_some_iff.1 hv
    rw [List.getElem?_take] at hn
    split at hn
    · rename_i hi
      have h2 : zs.getD i 0 = n := by rw [List.getD_eq_getElem?_getD, hn]; rfl
      have h1 := hcell i (by omega)
      rw [h2, hadd] at h1
      exact (cell_some h1).2
    · cases hn
theorem same_of {W W' : World} (hb : ∀ k, k < W.heap.size → W'.heap[k]? = W.heap[k]?) : ∀ x : MemPlace, x.block < W.heap.size → W.sameAt W' x := by
  intro x hx
  cases x with
  | cell b off =>
    show W'.cell? _ = W.cell? _
    unfold World.cell?
    dsimp only
    rw [hb b hx]
  | map b => exact hb b hx
end Go.SL
namespace Go.SL
open Go.Proofs

theorem law_full (s0 t0 : Int) (pa : Option Addr) (pl pc : Nat) (W : World) (h1 : pl ≤ 140737488355328 → ∃ xs : List Int, xs.length = pl ∧ liI (.slice pa pl pc) xs (heapAt W)) :
    Calls Tryz.prog 7 #[.int .i64 s0, .int .i64 t0, .slice pa pl pc] W fun e w' => (∃ v L, e = .returned v ∧ (v = .bool true ∧ L = ([] : List HProp))) ∧ w'.os = W.os ∧ w'.output = W.output ∧ W.heap.size ≤ w'.heap.size ∧ ∀ k, k < W.heap.size → w'.heap[k]? = W.heap[k]? := by
  by_cases hl : 30 < pl
  · exact Spec.calls (law_full_long s0 t0 pa pl pc hl) W
  · obtain ⟨px, _, hpx⟩ := h1 (by omega)
    refine Spec.callsL (law_full_short s0 t0 pa pl pc px (by omega)) W (fun A hA => ?_)
    rw [List.mem_singleton.1 hA]; exact hpx
end Go.SL
