/-
  No cell of these rows narrows 'for every input' (looked for: loops, veiled, ifaces, maps, wideKeys, modest, calm, conditions, laid).
  DERIVED. THE GIVEN ROWS OF THIS SEAT. 6 by the template 'for every input the law returns true; each argument reads behind the call as it read before'; 0 by the template 'total and deterministic' (their statements: YtfgchgnielfhgaaGreatTotals.lean).
  GIVEN WITH THE SEED: the statements are not yours to turn. If you find one false, say at which input.
  Laid BY PROGRAM, IN A SANDBOX (cutbox-rows.mjs): the forced cells as the released guide's own fill.sh prints them over the translation 21e00038aadd2c86… (all of the seat's roots in one cut). By AI agents, Wed Nov 11 2026. No macro, syntax, notation, axiom, sorry.
-/
import Derived.Test.YtfgchgnielfhgaaGreatChecked
import GoSem.Claim
import GoSem.ClaimJoined
import GoSem.ClaimMapViews
import Derived.JoinedTies
import Derived.KernelRfl
namespace Go.Proofs.YtfgchgnielfhgaaGreat
/- THE CELL 'sum', in the pinned program and in every row, IS THE sha256 OF THE DUMP (.gsa) THAT YtfgchgnielfhgaaGreatProg.lean LOADS. Nothing in Lean hashes anything: it is a label: what it is worth is what the hold of that sum in a sandbox is worth. -/
noncomputable def Tryz.pinned : Pinned := { name := "ytfgchgnielfhgaagreat", sum := "21e00038aadd2c86d1ae60b9323e69f813d05c0276bf40dc733c2558be5ef79a", checked := Tryz.checked }
namespace Rows
def none {H : Type} : Left H := { results := [], args := [] }

/-- 'scarplaw24.StoreMounts': WHATEVER THE INPUT: true; the input reads as it did. -/
def storeMountsSpec : ChangeSpec := { name := "storeMounts", fn := fun _ => fun
  | [d1, d2, d3, d4, d5, d6] => { results := [.lit (.bool true)], args := [d1, d2, d3, d4, d5, d6] }
  | _ => none }
def storeMountsRow : OpenClaim := { program := "ytfgchgnielfhgaagreat", sum := "21e00038aadd2c86d1ae60b9323e69f813d05c0276bf40dc733c2558be5ef79a", func := "scarp/scarplaw24.StoreMounts", spec := "storeMounts", unfollowed := true, recurses := true, apart := false }
def StoreMountsSaid : Prop := storeMountsRow.holds Tryz.pinned (OpenSpec.ofChange storeMountsSpec)

/-- ITS FALSE NEIGHBOUR: 'it returns false'. Refute it at one input. -/
def storeMountsWrong : ChangeSpec := { name := "storeMounts", fn := fun _ => fun
  | [d1, d2, d3, d4, d5, d6] => { results := [.lit (.bool false)], args := [d1, d2, d3, d4, d5, d6] }
  | _ => none }
def StoreMountsWrongFalsely : Prop := storeMountsRow.holds Tryz.pinned (OpenSpec.ofChange storeMountsWrong)

/-- 'scarplaw24.StoreAgain': WHATEVER THE INPUT: true; the input reads as it did. -/
def storeAgainSpec : ChangeSpec := { name := "storeAgain", fn := fun _ => fun
  | [d1, d2, d3] => { results := [.lit (.bool true)], args := [d1, d2, d3] }
  | _ => none }
def storeAgainRow : OpenClaim := { program := "ytfgchgnielfhgaagreat", sum := "21e00038aadd2c86d1ae60b9323e69f813d05c0276bf40dc733c2558be5ef79a", func := "scarp/scarplaw24.StoreAgain", spec := "storeAgain", unfollowed := true, recurses := true, apart := false }
def StoreAgainSaid : Prop := storeAgainRow.holds Tryz.pinned (OpenSpec.ofChange storeAgainSpec)

/-- ITS FALSE NEIGHBOUR: 'it returns false'. Refute it at one input. -/
def storeAgainWrong : ChangeSpec := { name := "storeAgain", fn := fun _ => fun
  | [d1, d2, d3] => { results := [.lit (.bool false)], args := [d1, d2, d3] }
  | _ => none }
def StoreAgainWrongFalsely : Prop := storeAgainRow.holds Tryz.pinned (OpenSpec.ofChange storeAgainWrong)

/-- 'scarplaw24.StoreWaits': WHATEVER THE INPUT: true; the input reads as it did. -/
def storeWaitsSpec : ChangeSpec := { name := "storeWaits", fn := fun _ => fun
  | [d1, d2, d3] => { results := [.lit (.bool true)], args := [d1, d2, d3] }
  | _ => none }
def storeWaitsRow : OpenClaim := { program := "ytfgchgnielfhgaagreat", sum := "21e00038aadd2c86d1ae60b9323e69f813d05c0276bf40dc733c2558be5ef79a", func := "scarp/scarplaw24.StoreWaits", spec := "storeWaits", unfollowed := true, recurses := true, apart := false }
def StoreWaitsSaid : Prop := storeWaitsRow.holds Tryz.pinned (OpenSpec.ofChange storeWaitsSpec)

/-- ITS FALSE NEIGHBOUR: 'it returns false'. Refute it at one input. -/
def storeWaitsWrong : ChangeSpec := { name := "storeWaits", fn := fun _ => fun
  | [d1, d2, d3] => { results := [.lit (.bool false)], args := [d1, d2, d3] }
  | _ => none }
def StoreWaitsWrongFalsely : Prop := storeWaitsRow.holds Tryz.pinned (OpenSpec.ofChange storeWaitsWrong)

/-- 'scarplaw24.StoreRoom': WHATEVER THE INPUT: true; the input reads as it did. -/
def storeRoomSpec : ChangeSpec := { name := "storeRoom", fn := fun _ => fun
  | [d1, d2, d3] => { results := [.lit (.bool true)], args := [d1, d2, d3] }
  | _ => none }
def storeRoomRow : OpenClaim := { program := "ytfgchgnielfhgaagreat", sum := "21e00038aadd2c86d1ae60b9323e69f813d05c0276bf40dc733c2558be5ef79a", func := "scarp/scarplaw24.StoreRoom", spec := "storeRoom", unfollowed := true, recurses := true, apart := false }
def StoreRoomSaid : Prop := storeRoomRow.holds Tryz.pinned (OpenSpec.ofChange storeRoomSpec)

/-- ITS FALSE NEIGHBOUR: 'it returns false'. Refute it at one input. -/
def storeRoomWrong : ChangeSpec := { name := "storeRoom", fn := fun _ => fun
  | [d1, d2, d3] => { results := [.lit (.bool false)], args := [d1, d2, d3] }
  | _ => none }
def StoreRoomWrongFalsely : Prop := storeRoomRow.holds Tryz.pinned (OpenSpec.ofChange storeRoomWrong)

/-- 'scarplaw24.StoreFull': WHATEVER THE INPUT: true; the input reads as it did. -/
def storeFullSpec : ChangeSpec := { name := "storeFull", fn := fun _ => fun
  | [d1, d2, d3] => { results := [.lit (.bool true)], args := [d1, d2, d3] }
  | _ => none }
def storeFullRow : OpenClaim := { program := "ytfgchgnielfhgaagreat", sum := "21e00038aadd2c86d1ae60b9323e69f813d05c0276bf40dc733c2558be5ef79a", func := "scarp/scarplaw24.StoreFull", spec := "storeFull", unfollowed := true, recurses := true, apart := false }
def StoreFullSaid : Prop := storeFullRow.holds Tryz.pinned (OpenSpec.ofChange storeFullSpec)

/-- ITS FALSE NEIGHBOUR: 'it returns false'. Refute it at one input. -/
def storeFullWrong : ChangeSpec := { name := "storeFull", fn := fun _ => fun
  | [d1, d2, d3] => { results := [.lit (.bool false)], args := [d1, d2, d3] }
  | _ => none }
def StoreFullWrongFalsely : Prop := storeFullRow.holds Tryz.pinned (OpenSpec.ofChange storeFullWrong)

/-- 'scarplaw24.StoreNothing': WHATEVER THE INPUT: true; the input reads as it did. -/
def storeNothingSpec : ChangeSpec := { name := "storeNothing", fn := fun _ => fun
  | [d] => { results := [.lit (.bool true)], args := [d] }
  | _ => none }
def storeNothingRow : OpenClaim := { program := "ytfgchgnielfhgaagreat", sum := "21e00038aadd2c86d1ae60b9323e69f813d05c0276bf40dc733c2558be5ef79a", func := "scarp/scarplaw24.StoreNothing", spec := "storeNothing", unfollowed := true, recurses := true, apart := false }
def StoreNothingSaid : Prop := storeNothingRow.holds Tryz.pinned (OpenSpec.ofChange storeNothingSpec)

/-- ITS FALSE NEIGHBOUR: 'it returns false'. Refute it at one input. -/
def storeNothingWrong : ChangeSpec := { name := "storeNothing", fn := fun _ => fun
  | [d] => { results := [.lit (.bool false)], args := [d] }
  | _ => none }
def StoreNothingWrongFalsely : Prop := storeNothingRow.holds Tryz.pinned (OpenSpec.ofChange storeNothingWrong)

/- THE SECOND FORM. 'bulk': how many values and letters a reading holds, each counted each time it is reached (what is shared counts as often as it is met; a slice's spare places count too). A statement '..UptoSaid' is the law's where the arguments, and the package variables that the reading takes, are together of bulk at most 1048576: NARROWER than '..Said'. Prove '..Said' where nothing that the law and all that it calls make is longer than what came in: it says more and counts as full. Else prove '..UptoSaid'. A law counts once. -/
mutual
def uptoBulk {H : Type} : DataW H → Nat
  | .lit (.string bytes) => bytes.length + 1
  | .lit _ => 1
  | .nil => 1
  | .ptr d => uptoBulk d + 1
  | .slice elems spare => uptoBulkAll elems + uptoBulkAll spare + 1
  | .agg parts => uptoBulkAll parts + 1
  | .iface _ d => uptoBulk d + 1
  | .map entries => uptoBulkEntries entries + 1
  | .held _ => 1
def uptoBulkAll {H : Type} : List (DataW H) → Nat
  | [] => 0
  | d :: r => uptoBulk d + uptoBulkAll r
def uptoBulkEntries {H : Type} : List (Lit × DataW H) → Nat
  | [] => 0
  | x :: r => uptoBulkEntry x + uptoBulkEntries r
def uptoBulkEntry {H : Type} : Lit × DataW H → Nat
  | (.string bytes, d) => bytes.length + uptoBulk d + 1
  | (_, d) => uptoBulk d + 1
 end
def uptoSmall : (H : Type) → List (DataW H) → Bool := fun _ ds => decide (uptoBulkAll ds ≤ 1048576)
def OpenSpec.upto (s : _root_.Go.ChangeSpec) : _root_.Go.OpenSpec := { _root_.Go.OpenSpec.ofChange s with cond := some uptoSmall }

/-- 'scarplaw24.StoreMounts', WHERE WHAT IT READS IS OF BULK AT MOST 1048576: true; the input reads as it did. -/
def storeMountsUptoRow : OpenClaim := { program := "ytfgchgnielfhgaagreat", sum := "21e00038aadd2c86d1ae60b9323e69f813d05c0276bf40dc733c2558be5ef79a", func := "scarp/scarplaw24.StoreMounts", spec := "storeMounts", unfollowed := true, recurses := true, apart := false, narrowed := true }
def StoreMountsUptoSaid : Prop := storeMountsUptoRow.holds Tryz.pinned (OpenSpec.upto storeMountsSpec)

/-- 'scarplaw24.StoreAgain', WHERE WHAT IT READS IS OF BULK AT MOST 1048576: true; the input reads as it did. -/
def storeAgainUptoRow : OpenClaim := { program := "ytfgchgnielfhgaagreat", sum := "21e00038aadd2c86d1ae60b9323e69f813d05c0276bf40dc733c2558be5ef79a", func := "scarp/scarplaw24.StoreAgain", spec := "storeAgain", unfollowed := true, recurses := true, apart := false, narrowed := true }
def StoreAgainUptoSaid : Prop := storeAgainUptoRow.holds Tryz.pinned (OpenSpec.upto storeAgainSpec)

/-- 'scarplaw24.StoreWaits', WHERE WHAT IT READS IS OF BULK AT MOST 1048576: true; the input reads as it did. -/
def storeWaitsUptoRow : OpenClaim := { program := "ytfgchgnielfhgaagreat", sum := "21e00038aadd2c86d1ae60b9323e69f813d05c0276bf40dc733c2558be5ef79a", func := "scarp/scarplaw24.StoreWaits", spec := "storeWaits", unfollowed := true, recurses := true, apart := false, narrowed := true }
def StoreWaitsUptoSaid : Prop := storeWaitsUptoRow.holds Tryz.pinned (OpenSpec.upto storeWaitsSpec)

/-- 'scarplaw24.StoreRoom', WHERE WHAT IT READS IS OF BULK AT MOST 1048576: true; the input reads as it did. -/
def storeRoomUptoRow : OpenClaim := { program := "ytfgchgnielfhgaagreat", sum := "21e00038aadd2c86d1ae60b9323e69f813d05c0276bf40dc733c2558be5ef79a", func := "scarp/scarplaw24.StoreRoom", spec := "storeRoom", unfollowed := true, recurses := true, apart := false, narrowed := true }
def StoreRoomUptoSaid : Prop := storeRoomUptoRow.holds Tryz.pinned (OpenSpec.upto storeRoomSpec)

/-- 'scarplaw24.StoreFull', WHERE WHAT IT READS IS OF BULK AT MOST 1048576: true; the input reads as it did. -/
def storeFullUptoRow : OpenClaim := { program := "ytfgchgnielfhgaagreat", sum := "21e00038aadd2c86d1ae60b9323e69f813d05c0276bf40dc733c2558be5ef79a", func := "scarp/scarplaw24.StoreFull", spec := "storeFull", unfollowed := true, recurses := true, apart := false, narrowed := true }
def StoreFullUptoSaid : Prop := storeFullUptoRow.holds Tryz.pinned (OpenSpec.upto storeFullSpec)

/-- 'scarplaw24.StoreNothing', WHERE WHAT IT READS IS OF BULK AT MOST 1048576: true; the input reads as it did. -/
def storeNothingUptoRow : OpenClaim := { program := "ytfgchgnielfhgaagreat", sum := "21e00038aadd2c86d1ae60b9323e69f813d05c0276bf40dc733c2558be5ef79a", func := "scarp/scarplaw24.StoreNothing", spec := "storeNothing", unfollowed := true, recurses := true, apart := false, narrowed := true }
def StoreNothingUptoSaid : Prop := storeNothingUptoRow.holds Tryz.pinned (OpenSpec.upto storeNothingSpec)

end Rows
end Go.Proofs.YtfgchgnielfhgaaGreat
