/-
  No cell of these rows narrows 'for every input' (looked for: loops, veiled, ifaces, maps, wideKeys, modest, calm, conditions, laid).
  DERIVED. THE GIVEN ROWS OF THIS SEAT. 11 by the template 'for every input the law returns true; each argument reads behind the call as it read before'; 0 by the template 'total and deterministic' (their statements: YtelejhggpkfdoaaTotals.lean).
  GIVEN WITH THE SEED: the statements are not yours to turn. If you find one false, say at which input.
  Laid BY PROGRAM, IN A SANDBOX (cutbox-rows.mjs): the forced cells as the released guide's own fill.sh prints them over the translation 98e66fc565fe6736… (all of the seat's roots in one cut). By AI agents, Wed Nov 11 2026. No macro, syntax, notation, axiom, sorry.
-/
import Derived.Test.YtelejhggpkfdoaaChecked
import GoSem.Claim
import GoSem.ClaimJoined
import GoSem.ClaimMapViews
import Derived.JoinedTies
import Derived.KernelRfl
namespace Go.Proofs.Ytelejhggpkfdoaa
/- THE CELL 'sum', in the pinned program and in every row, IS THE sha256 OF THE DUMP (.gsa) THAT YtelejhggpkfdoaaProg.lean LOADS. Nothing in Lean hashes anything: it is a label: what it is worth is what the hold of that sum in a sandbox is worth. -/
noncomputable def Try.pinned : Pinned := { name := "ytelejhggpkfdoaa", sum := "98e66fc565fe67366001968a8a7e7a06bf7a5b8841d6a8758bf1b45d1e7d169d", checked := Try.checked }
namespace Rows
def none {H : Type} : Left H := { results := [], args := [] }

/-- 'laws.FnExactConicOf': WHATEVER THE INPUT: true; the input reads as it did. -/
def fnExactConicOfSpec : ChangeSpec := { name := "fnExactConicOf", fn := fun _ => fun
  | [d1, d2] => { results := [.lit (.bool true)], args := [d1, d2] }
  | _ => none }
def fnExactConicOfRow : OpenClaim := { program := "ytelejhggpkfdoaa", sum := "98e66fc565fe67366001968a8a7e7a06bf7a5b8841d6a8758bf1b45d1e7d169d", func := "loop.example/g01370/laws.FnExactConicOf", spec := "fnExactConicOf", unfollowed := true, recurses := true, apart := false }
def FnExactConicOfSaid : Prop := fnExactConicOfRow.holds Try.pinned (OpenSpec.ofChange fnExactConicOfSpec)

/-- ITS FALSE NEIGHBOUR: 'it returns false'. Refute it at one input. -/
def fnExactConicOfWrong : ChangeSpec := { name := "fnExactConicOf", fn := fun _ => fun
  | [d1, d2] => { results := [.lit (.bool false)], args := [d1, d2] }
  | _ => none }
def FnExactConicOfWrongFalsely : Prop := fnExactConicOfRow.holds Try.pinned (OpenSpec.ofChange fnExactConicOfWrong)

/-- 'laws.FnExactConicThrough': WHATEVER THE INPUT: true; the input reads as it did. -/
def fnExactConicThroughSpec : ChangeSpec := { name := "fnExactConicThrough", fn := fun _ => fun
  | [d1, d2] => { results := [.lit (.bool true)], args := [d1, d2] }
  | _ => none }
def fnExactConicThroughRow : OpenClaim := { program := "ytelejhggpkfdoaa", sum := "98e66fc565fe67366001968a8a7e7a06bf7a5b8841d6a8758bf1b45d1e7d169d", func := "loop.example/g01370/laws.FnExactConicThrough", spec := "fnExactConicThrough", unfollowed := true, recurses := true, apart := false }
def FnExactConicThroughSaid : Prop := fnExactConicThroughRow.holds Try.pinned (OpenSpec.ofChange fnExactConicThroughSpec)

/-- ITS FALSE NEIGHBOUR: 'it returns false'. Refute it at one input. -/
def fnExactConicThroughWrong : ChangeSpec := { name := "fnExactConicThrough", fn := fun _ => fun
  | [d1, d2] => { results := [.lit (.bool false)], args := [d1, d2] }
  | _ => none }
def FnExactConicThroughWrongFalsely : Prop := fnExactConicThroughRow.holds Try.pinned (OpenSpec.ofChange fnExactConicThroughWrong)

/-- 'laws.FnSpreadOrders': WHATEVER THE INPUT: true; the input reads as it did. -/
def fnSpreadOrdersSpec : ChangeSpec := { name := "fnSpreadOrders", fn := fun _ => fun
  | [d] => { results := [.lit (.bool true)], args := [d] }
  | _ => none }
def fnSpreadOrdersRow : OpenClaim := { program := "ytelejhggpkfdoaa", sum := "98e66fc565fe67366001968a8a7e7a06bf7a5b8841d6a8758bf1b45d1e7d169d", func := "loop.example/g01370/laws.FnSpreadOrders", spec := "fnSpreadOrders", unfollowed := true, recurses := true, apart := false }
def FnSpreadOrdersSaid : Prop := fnSpreadOrdersRow.holds Try.pinned (OpenSpec.ofChange fnSpreadOrdersSpec)

/-- ITS FALSE NEIGHBOUR: 'it returns false'. Refute it at one input. -/
def fnSpreadOrdersWrong : ChangeSpec := { name := "fnSpreadOrders", fn := fun _ => fun
  | [d] => { results := [.lit (.bool false)], args := [d] }
  | _ => none }
def FnSpreadOrdersWrongFalsely : Prop := fnSpreadOrdersRow.holds Try.pinned (OpenSpec.ofChange fnSpreadOrdersWrong)

/-- 'laws.FnPlaces': WHATEVER THE INPUT: true; the input reads as it did. -/
def fnPlacesSpec : ChangeSpec := { name := "fnPlaces", fn := fun _ => fun
  | [d] => { results := [.lit (.bool true)], args := [d] }
  | _ => none }
def fnPlacesRow : OpenClaim := { program := "ytelejhggpkfdoaa", sum := "98e66fc565fe67366001968a8a7e7a06bf7a5b8841d6a8758bf1b45d1e7d169d", func := "loop.example/g01370/laws.FnPlaces", spec := "fnPlaces", unfollowed := true, recurses := true, apart := false }
def FnPlacesSaid : Prop := fnPlacesRow.holds Try.pinned (OpenSpec.ofChange fnPlacesSpec)

/-- ITS FALSE NEIGHBOUR: 'it returns false'. Refute it at one input. -/
def fnPlacesWrong : ChangeSpec := { name := "fnPlaces", fn := fun _ => fun
  | [d] => { results := [.lit (.bool false)], args := [d] }
  | _ => none }
def FnPlacesWrongFalsely : Prop := fnPlacesRow.holds Try.pinned (OpenSpec.ofChange fnPlacesWrong)

/-- 'laws.FnHyperbolic': WHATEVER THE INPUT: true; the input reads as it did. -/
def fnHyperbolicSpec : ChangeSpec := { name := "fnHyperbolic", fn := fun _ => fun
  | [d] => { results := [.lit (.bool true)], args := [d] }
  | _ => none }
def fnHyperbolicRow : OpenClaim := { program := "ytelejhggpkfdoaa", sum := "98e66fc565fe67366001968a8a7e7a06bf7a5b8841d6a8758bf1b45d1e7d169d", func := "loop.example/g01370/laws.FnHyperbolic", spec := "fnHyperbolic", unfollowed := true, recurses := true, apart := false }
def FnHyperbolicSaid : Prop := fnHyperbolicRow.holds Try.pinned (OpenSpec.ofChange fnHyperbolicSpec)

/-- ITS FALSE NEIGHBOUR: 'it returns false'. Refute it at one input. -/
def fnHyperbolicWrong : ChangeSpec := { name := "fnHyperbolic", fn := fun _ => fun
  | [d] => { results := [.lit (.bool false)], args := [d] }
  | _ => none }
def FnHyperbolicWrongFalsely : Prop := fnHyperbolicRow.holds Try.pinned (OpenSpec.ofChange fnHyperbolicWrong)

/-- 'laws.FnBisectors': WHATEVER THE INPUT: true; the input reads as it did. -/
def fnBisectorsSpec : ChangeSpec := { name := "fnBisectors", fn := fun _ => fun
  | [d] => { results := [.lit (.bool true)], args := [d] }
  | _ => none }
def fnBisectorsRow : OpenClaim := { program := "ytelejhggpkfdoaa", sum := "98e66fc565fe67366001968a8a7e7a06bf7a5b8841d6a8758bf1b45d1e7d169d", func := "loop.example/g01370/laws.FnBisectors", spec := "fnBisectors", unfollowed := true, recurses := true, apart := false }
def FnBisectorsSaid : Prop := fnBisectorsRow.holds Try.pinned (OpenSpec.ofChange fnBisectorsSpec)

/-- ITS FALSE NEIGHBOUR: 'it returns false'. Refute it at one input. -/
def fnBisectorsWrong : ChangeSpec := { name := "fnBisectors", fn := fun _ => fun
  | [d] => { results := [.lit (.bool false)], args := [d] }
  | _ => none }
def FnBisectorsWrongFalsely : Prop := fnBisectorsRow.holds Try.pinned (OpenSpec.ofChange fnBisectorsWrong)

/-- 'laws.FnEulerLines': WHATEVER THE INPUT: true; the input reads as it did. -/
def fnEulerLinesSpec : ChangeSpec := { name := "fnEulerLines", fn := fun _ => fun
  | [d] => { results := [.lit (.bool true)], args := [d] }
  | _ => none }
def fnEulerLinesRow : OpenClaim := { program := "ytelejhggpkfdoaa", sum := "98e66fc565fe67366001968a8a7e7a06bf7a5b8841d6a8758bf1b45d1e7d169d", func := "loop.example/g01370/laws.FnEulerLines", spec := "fnEulerLines", unfollowed := true, recurses := true, apart := false }
def FnEulerLinesSaid : Prop := fnEulerLinesRow.holds Try.pinned (OpenSpec.ofChange fnEulerLinesSpec)

/-- ITS FALSE NEIGHBOUR: 'it returns false'. Refute it at one input. -/
def fnEulerLinesWrong : ChangeSpec := { name := "fnEulerLines", fn := fun _ => fun
  | [d] => { results := [.lit (.bool false)], args := [d] }
  | _ => none }
def FnEulerLinesWrongFalsely : Prop := fnEulerLinesRow.holds Try.pinned (OpenSpec.ofChange fnEulerLinesWrong)

/-- 'laws.FnColours': WHATEVER THE INPUT: true; the input reads as it did. -/
def fnColoursSpec : ChangeSpec := { name := "fnColours", fn := fun _ => fun
  | [d] => { results := [.lit (.bool true)], args := [d] }
  | _ => none }
def fnColoursRow : OpenClaim := { program := "ytelejhggpkfdoaa", sum := "98e66fc565fe67366001968a8a7e7a06bf7a5b8841d6a8758bf1b45d1e7d169d", func := "loop.example/g01370/laws.FnColours", spec := "fnColours", unfollowed := true, recurses := true, apart := false }
def FnColoursSaid : Prop := fnColoursRow.holds Try.pinned (OpenSpec.ofChange fnColoursSpec)

/-- ITS FALSE NEIGHBOUR: 'it returns false'. Refute it at one input. -/
def fnColoursWrong : ChangeSpec := { name := "fnColours", fn := fun _ => fun
  | [d] => { results := [.lit (.bool false)], args := [d] }
  | _ => none }
def FnColoursWrongFalsely : Prop := fnColoursRow.holds Try.pinned (OpenSpec.ofChange fnColoursWrong)

/-- 'laws.FnConics': WHATEVER THE INPUT: true; the input reads as it did. -/
def fnConicsSpec : ChangeSpec := { name := "fnConics", fn := fun _ => fun
  | [d] => { results := [.lit (.bool true)], args := [d] }
  | _ => none }
def fnConicsRow : OpenClaim := { program := "ytelejhggpkfdoaa", sum := "98e66fc565fe67366001968a8a7e7a06bf7a5b8841d6a8758bf1b45d1e7d169d", func := "loop.example/g01370/laws.FnConics", spec := "fnConics", unfollowed := true, recurses := true, apart := false }
def FnConicsSaid : Prop := fnConicsRow.holds Try.pinned (OpenSpec.ofChange fnConicsSpec)

/-- ITS FALSE NEIGHBOUR: 'it returns false'. Refute it at one input. -/
def fnConicsWrong : ChangeSpec := { name := "fnConics", fn := fun _ => fun
  | [d] => { results := [.lit (.bool false)], args := [d] }
  | _ => none }
def FnConicsWrongFalsely : Prop := fnConicsRow.holds Try.pinned (OpenSpec.ofChange fnConicsWrong)

/-- 'laws.FnShades': WHATEVER THE INPUT: true; the input reads as it did. -/
def fnShadesSpec : ChangeSpec := { name := "fnShades", fn := fun _ => fun
  | [d] => { results := [.lit (.bool true)], args := [d] }
  | _ => none }
def fnShadesRow : OpenClaim := { program := "ytelejhggpkfdoaa", sum := "98e66fc565fe67366001968a8a7e7a06bf7a5b8841d6a8758bf1b45d1e7d169d", func := "loop.example/g01370/laws.FnShades", spec := "fnShades", unfollowed := true, recurses := true, apart := false }
def FnShadesSaid : Prop := fnShadesRow.holds Try.pinned (OpenSpec.ofChange fnShadesSpec)

/-- ITS FALSE NEIGHBOUR: 'it returns false'. Refute it at one input. -/
def fnShadesWrong : ChangeSpec := { name := "fnShades", fn := fun _ => fun
  | [d] => { results := [.lit (.bool false)], args := [d] }
  | _ => none }
def FnShadesWrongFalsely : Prop := fnShadesRow.holds Try.pinned (OpenSpec.ofChange fnShadesWrong)

/-- 'laws.FnConicsMade': WHATEVER THE INPUT: true; the input reads as it did. -/
def fnConicsMadeSpec : ChangeSpec := { name := "fnConicsMade", fn := fun _ => fun
  | [d] => { results := [.lit (.bool true)], args := [d] }
  | _ => none }
def fnConicsMadeRow : OpenClaim := { program := "ytelejhggpkfdoaa", sum := "98e66fc565fe67366001968a8a7e7a06bf7a5b8841d6a8758bf1b45d1e7d169d", func := "loop.example/g01370/laws.FnConicsMade", spec := "fnConicsMade", unfollowed := true, recurses := true, apart := false }
def FnConicsMadeSaid : Prop := fnConicsMadeRow.holds Try.pinned (OpenSpec.ofChange fnConicsMadeSpec)

/-- ITS FALSE NEIGHBOUR: 'it returns false'. Refute it at one input. -/
def fnConicsMadeWrong : ChangeSpec := { name := "fnConicsMade", fn := fun _ => fun
  | [d] => { results := [.lit (.bool false)], args := [d] }
  | _ => none }
def FnConicsMadeWrongFalsely : Prop := fnConicsMadeRow.holds Try.pinned (OpenSpec.ofChange fnConicsMadeWrong)

/- THE SECOND FORM. 'bulk': how many values and letters a reading holds, each counted each time it is reached (what is shared counts as often as it is met; a slice's spare places count too). A statement '..UptoSaid' is the law's where the arguments, and the package variables that the reading takes, are together of bulk at most 1048576: NARROWER than '..Said'. Prove '..Said' where nothing that the law and all that it calls make is longer than what came in: it says more and counts as full. Else prove '..UptoSaid'. A law counts once. -/
mutual
def uptoBulk {H : Type} : DataW H → Nat
  | .lit (.string bytes) => bytes.length + 1
  | .lit _ => 1
  | .nil => 1
  | .ptr d => uptoBulk d + 1
  | .slice elems spare => uptoBulkAll elems + uptoBulkAll spare + 1
  | .agg parts => uptoBulkAll parts + 1
  | .iface _ d => uptoBulk d + 1
  | .map entries => uptoBulkEntries entries + 1
  | .held _ => 1
def uptoBulkAll {H : Type} : List (DataW H) → Nat
  | [] => 0
  | d :: r => uptoBulk d + uptoBulkAll r
def uptoBulkEntries {H : Type} : List (Lit × DataW H) → Nat
  | [] => 0
  | x :: r => uptoBulkEntry x + uptoBulkEntries r
def uptoBulkEntry {H : Type} : Lit × DataW H → Nat
  | (.string bytes, d) => bytes.length + uptoBulk d + 1
  | (_, d) => uptoBulk d + 1
 end
def uptoSmall : (H : Type) → List (DataW H) → Bool := fun _ ds => decide (uptoBulkAll ds ≤ 1048576)
def OpenSpec.upto (s : _root_.Go.ChangeSpec) : _root_.Go.OpenSpec := { _root_.Go.OpenSpec.ofChange s with cond := some uptoSmall }

/-- 'laws.FnExactConicOf', WHERE WHAT IT READS IS OF BULK AT MOST 1048576: true; the input reads as it did. -/
def fnExactConicOfUptoRow : OpenClaim := { program := "ytelejhggpkfdoaa", sum := "98e66fc565fe67366001968a8a7e7a06bf7a5b8841d6a8758bf1b45d1e7d169d", func := "loop.example/g01370/laws.FnExactConicOf", spec := "fnExactConicOf", unfollowed := true, recurses := true, apart := false, narrowed := true }
def FnExactConicOfUptoSaid : Prop := fnExactConicOfUptoRow.holds Try.pinned (OpenSpec.upto fnExactConicOfSpec)

/-- 'laws.FnExactConicThrough', WHERE WHAT IT READS IS OF BULK AT MOST 1048576: true; the input reads as it did. -/
def fnExactConicThroughUptoRow : OpenClaim := { program := "ytelejhggpkfdoaa", sum := "98e66fc565fe67366001968a8a7e7a06bf7a5b8841d6a8758bf1b45d1e7d169d", func := "loop.example/g01370/laws.FnExactConicThrough", spec := "fnExactConicThrough", unfollowed := true, recurses := true, apart := false, narrowed := true }
def FnExactConicThroughUptoSaid : Prop := fnExactConicThroughUptoRow.holds Try.pinned (OpenSpec.upto fnExactConicThroughSpec)

/-- 'laws.FnSpreadOrders', WHERE WHAT IT READS IS OF BULK AT MOST 1048576: true; the input reads as it did. -/
def fnSpreadOrdersUptoRow : OpenClaim := { program := "ytelejhggpkfdoaa", sum := "98e66fc565fe67366001968a8a7e7a06bf7a5b8841d6a8758bf1b45d1e7d169d", func := "loop.example/g01370/laws.FnSpreadOrders", spec := "fnSpreadOrders", unfollowed := true, recurses := true, apart := false, narrowed := true }
def FnSpreadOrdersUptoSaid : Prop := fnSpreadOrdersUptoRow.holds Try.pinned (OpenSpec.upto fnSpreadOrdersSpec)

/-- 'laws.FnPlaces', WHERE WHAT IT READS IS OF BULK AT MOST 1048576: true; the input reads as it did. -/
def fnPlacesUptoRow : OpenClaim := { program := "ytelejhggpkfdoaa", sum := "98e66fc565fe67366001968a8a7e7a06bf7a5b8841d6a8758bf1b45d1e7d169d", func := "loop.example/g01370/laws.FnPlaces", spec := "fnPlaces", unfollowed := true, recurses := true, apart := false, narrowed := true }
def FnPlacesUptoSaid : Prop := fnPlacesUptoRow.holds Try.pinned (OpenSpec.upto fnPlacesSpec)

/-- 'laws.FnHyperbolic', WHERE WHAT IT READS IS OF BULK AT MOST 1048576: true; the input reads as it did. -/
def fnHyperbolicUptoRow : OpenClaim := { program := "ytelejhggpkfdoaa", sum := "98e66fc565fe67366001968a8a7e7a06bf7a5b8841d6a8758bf1b45d1e7d169d", func := "loop.example/g01370/laws.FnHyperbolic", spec := "fnHyperbolic", unfollowed := true, recurses := true, apart := false, narrowed := true }
def FnHyperbolicUptoSaid : Prop := fnHyperbolicUptoRow.holds Try.pinned (OpenSpec.upto fnHyperbolicSpec)

/-- 'laws.FnBisectors', WHERE WHAT IT READS IS OF BULK AT MOST 1048576: true; the input reads as it did. -/
def fnBisectorsUptoRow : OpenClaim := { program := "ytelejhggpkfdoaa", sum := "98e66fc565fe67366001968a8a7e7a06bf7a5b8841d6a8758bf1b45d1e7d169d", func := "loop.example/g01370/laws.FnBisectors", spec := "fnBisectors", unfollowed := true, recurses := true, apart := false, narrowed := true }
def FnBisectorsUptoSaid : Prop := fnBisectorsUptoRow.holds Try.pinned (OpenSpec.upto fnBisectorsSpec)

/-- 'laws.FnEulerLines', WHERE WHAT IT READS IS OF BULK AT MOST 1048576: true; the input reads as it did. -/
def fnEulerLinesUptoRow : OpenClaim := { program := "ytelejhggpkfdoaa", sum := "98e66fc565fe67366001968a8a7e7a06bf7a5b8841d6a8758bf1b45d1e7d169d", func := "loop.example/g01370/laws.FnEulerLines", spec := "fnEulerLines", unfollowed := true, recurses := true, apart := false, narrowed := true }
def FnEulerLinesUptoSaid : Prop := fnEulerLinesUptoRow.holds Try.pinned (OpenSpec.upto fnEulerLinesSpec)

/-- 'laws.FnColours', WHERE WHAT IT READS IS OF BULK AT MOST 1048576: true; the input reads as it did. -/
def fnColoursUptoRow : OpenClaim := { program := "ytelejhggpkfdoaa", sum := "98e66fc565fe67366001968a8a7e7a06bf7a5b8841d6a8758bf1b45d1e7d169d", func := "loop.example/g01370/laws.FnColours", spec := "fnColours", unfollowed := true, recurses := true, apart := false, narrowed := true }
def FnColoursUptoSaid : Prop := fnColoursUptoRow.holds Try.pinned (OpenSpec.upto fnColoursSpec)

/-- 'laws.FnConics', WHERE WHAT IT READS IS OF BULK AT MOST 1048576: true; the input reads as it did. -/
def fnConicsUptoRow : OpenClaim := { program := "ytelejhggpkfdoaa", sum := "98e66fc565fe67366001968a8a7e7a06bf7a5b8841d6a8758bf1b45d1e7d169d", func := "loop.example/g01370/laws.FnConics", spec := "fnConics", unfollowed := true, recurses := true, apart := false, narrowed := true }
def FnConicsUptoSaid : Prop := fnConicsUptoRow.holds Try.pinned (OpenSpec.upto fnConicsSpec)

/-- 'laws.FnShades', WHERE WHAT IT READS IS OF BULK AT MOST 1048576: true; the input reads as it did. -/
def fnShadesUptoRow : OpenClaim := { program := "ytelejhggpkfdoaa", sum := "98e66fc565fe67366001968a8a7e7a06bf7a5b8841d6a8758bf1b45d1e7d169d", func := "loop.example/g01370/laws.FnShades", spec := "fnShades", unfollowed := true, recurses := true, apart := false, narrowed := true }
def FnShadesUptoSaid : Prop := fnShadesUptoRow.holds Try.pinned (OpenSpec.upto fnShadesSpec)

/-- 'laws.FnConicsMade', WHERE WHAT IT READS IS OF BULK AT MOST 1048576: true; the input reads as it did. -/
def fnConicsMadeUptoRow : OpenClaim := { program := "ytelejhggpkfdoaa", sum := "98e66fc565fe67366001968a8a7e7a06bf7a5b8841d6a8758bf1b45d1e7d169d", func := "loop.example/g01370/laws.FnConicsMade", spec := "fnConicsMade", unfollowed := true, recurses := true, apart := false, narrowed := true }
def FnConicsMadeUptoSaid : Prop := fnConicsMadeUptoRow.holds Try.pinned (OpenSpec.upto fnConicsMadeSpec)

end Rows
end Go.Proofs.Ytelejhggpkfdoaa
