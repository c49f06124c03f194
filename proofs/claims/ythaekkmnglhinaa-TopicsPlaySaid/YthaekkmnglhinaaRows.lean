/-
  No cell of these rows narrows 'for every input' (looked for: loops, veiled, ifaces, maps, wideKeys, modest, calm, conditions, laid).
  DERIVED. THE GIVEN ROWS OF THIS SEAT. 6 by the template 'for every input the law returns true; each argument reads behind the call as it read before'; 0 by the template 'total and deterministic' (their statements: YthaekkmnglhinaaTotals.lean).
  GIVEN WITH THE SEED: the statements are not yours to turn. If you find one false, say at which input.
  Laid BY PROGRAM, IN A SANDBOX (cutbox-rows.mjs): the forced cells as the released guide's own fill.sh prints them over the translation fa6fc2bf3744cfe0… (all of the seat's roots in one cut). By AI agents, Wed Nov 11 2026. No macro, syntax, notation, axiom, sorry.
-/
import Derived.Test.YthaekkmnglhinaaChecked
import GoSem.Claim
import GoSem.ClaimJoined
import GoSem.ClaimMapViews
import Derived.JoinedTies
import Derived.KernelRfl
namespace Go.Proofs.Ythaekkmnglhinaa
/- THE CELL 'sum', in the pinned program and in every row, IS THE sha256 OF THE DUMP (.gsa) THAT YthaekkmnglhinaaProg.lean LOADS. Nothing in Lean hashes anything: it is a label: what it is worth is what the hold of that sum in a sandbox is worth. -/
noncomputable def Try.pinned : Pinned := { name := "ythaekkmnglhinaa", sum := "fa6fc2bf3744cfe0c168132f7bd286f7a64ccc19299b0e34c9f2c50a50546f14", checked := Try.checked }
namespace Rows
def none {H : Type} : Left H := { results := [], args := [] }

/-- 'crierlaw22.TopicsBehind': WHATEVER THE INPUT: true; the input reads as it did. -/
def topicsBehindSpec : ChangeSpec := { name := "topicsBehind", fn := fun _ => fun
  | [d1, d2] => { results := [.lit (.bool true)], args := [d1, d2] }
  | _ => none }
def topicsBehindRow : OpenClaim := { program := "ythaekkmnglhinaa", sum := "fa6fc2bf3744cfe0c168132f7bd286f7a64ccc19299b0e34c9f2c50a50546f14", func := "crier/crierlaw22.TopicsBehind", spec := "topicsBehind", unfollowed := true, recurses := true, apart := false }
def TopicsBehindSaid : Prop := topicsBehindRow.holds Try.pinned (OpenSpec.ofChange topicsBehindSpec)

/-- ITS FALSE NEIGHBOUR: 'it returns false'. Refute it at one input. -/
def topicsBehindWrong : ChangeSpec := { name := "topicsBehind", fn := fun _ => fun
  | [d1, d2] => { results := [.lit (.bool false)], args := [d1, d2] }
  | _ => none }
def TopicsBehindWrongFalsely : Prop := topicsBehindRow.holds Try.pinned (OpenSpec.ofChange topicsBehindWrong)

/-- 'crierlaw22.TopicsPlay': WHATEVER THE INPUT: true; the input reads as it did. -/
def topicsPlaySpec : ChangeSpec := { name := "topicsPlay", fn := fun _ => fun
  | [d] => { results := [.lit (.bool true)], args := [d] }
  | _ => none }
def topicsPlayRow : OpenClaim := { program := "ythaekkmnglhinaa", sum := "fa6fc2bf3744cfe0c168132f7bd286f7a64ccc19299b0e34c9f2c50a50546f14", func := "crier/crierlaw22.TopicsPlay", spec := "topicsPlay", unfollowed := true, recurses := true, apart := false }
def TopicsPlaySaid : Prop := topicsPlayRow.holds Try.pinned (OpenSpec.ofChange topicsPlaySpec)

/-- ITS FALSE NEIGHBOUR: 'it returns false'. Refute it at one input. -/
def topicsPlayWrong : ChangeSpec := { name := "topicsPlay", fn := fun _ => fun
  | [d] => { results := [.lit (.bool false)], args := [d] }
  | _ => none }
def TopicsPlayWrongFalsely : Prop := topicsPlayRow.holds Try.pinned (OpenSpec.ofChange topicsPlayWrong)

/-- 'crierlaw22.TopicsNobody': WHATEVER THE INPUT: true; the input reads as it did. -/
def topicsNobodySpec : ChangeSpec := { name := "topicsNobody", fn := fun _ => fun
  | [d1, d2] => { results := [.lit (.bool true)], args := [d1, d2] }
  | _ => none }
def topicsNobodyRow : OpenClaim := { program := "ythaekkmnglhinaa", sum := "fa6fc2bf3744cfe0c168132f7bd286f7a64ccc19299b0e34c9f2c50a50546f14", func := "crier/crierlaw22.TopicsNobody", spec := "topicsNobody", unfollowed := true, recurses := true, apart := false }
def TopicsNobodySaid : Prop := topicsNobodyRow.holds Try.pinned (OpenSpec.ofChange topicsNobodySpec)

/-- ITS FALSE NEIGHBOUR: 'it returns false'. Refute it at one input. -/
def topicsNobodyWrong : ChangeSpec := { name := "topicsNobody", fn := fun _ => fun
  | [d1, d2] => { results := [.lit (.bool false)], args := [d1, d2] }
  | _ => none }
def TopicsNobodyWrongFalsely : Prop := topicsNobodyRow.holds Try.pinned (OpenSpec.ofChange topicsNobodyWrong)

/-- 'crierlaw22.TopicsPairs': WHATEVER THE INPUT: true; the input reads as it did. -/
def topicsPairsSpec : ChangeSpec := { name := "topicsPairs", fn := fun _ => fun
  | [d] => { results := [.lit (.bool true)], args := [d] }
  | _ => none }
def topicsPairsRow : OpenClaim := { program := "ythaekkmnglhinaa", sum := "fa6fc2bf3744cfe0c168132f7bd286f7a64ccc19299b0e34c9f2c50a50546f14", func := "crier/crierlaw22.TopicsPairs", spec := "topicsPairs", unfollowed := true, recurses := true, apart := false }
def TopicsPairsSaid : Prop := topicsPairsRow.holds Try.pinned (OpenSpec.ofChange topicsPairsSpec)

/-- ITS FALSE NEIGHBOUR: 'it returns false'. Refute it at one input. -/
def topicsPairsWrong : ChangeSpec := { name := "topicsPairs", fn := fun _ => fun
  | [d] => { results := [.lit (.bool false)], args := [d] }
  | _ => none }
def TopicsPairsWrongFalsely : Prop := topicsPairsRow.holds Try.pinned (OpenSpec.ofChange topicsPairsWrong)

/-- 'crierlaw22.TopicsStill': WHATEVER THE INPUT: true; the input reads as it did. -/
def topicsStillSpec : ChangeSpec := { name := "topicsStill", fn := fun _ => fun
  | [d1, d2, d3, d4] => { results := [.lit (.bool true)], args := [d1, d2, d3, d4] }
  | _ => none }
def topicsStillRow : OpenClaim := { program := "ythaekkmnglhinaa", sum := "fa6fc2bf3744cfe0c168132f7bd286f7a64ccc19299b0e34c9f2c50a50546f14", func := "crier/crierlaw22.TopicsStill", spec := "topicsStill", unfollowed := true, recurses := true, apart := false }
def TopicsStillSaid : Prop := topicsStillRow.holds Try.pinned (OpenSpec.ofChange topicsStillSpec)

/-- ITS FALSE NEIGHBOUR: 'it returns false'. Refute it at one input. -/
def topicsStillWrong : ChangeSpec := { name := "topicsStill", fn := fun _ => fun
  | [d1, d2, d3, d4] => { results := [.lit (.bool false)], args := [d1, d2, d3, d4] }
  | _ => none }
def TopicsStillWrongFalsely : Prop := topicsStillRow.holds Try.pinned (OpenSpec.ofChange topicsStillWrong)

/-- 'crierlaw22.TopicsKnown': WHATEVER THE INPUT: true; the input reads as it did. -/
def topicsKnownSpec : ChangeSpec := { name := "topicsKnown", fn := fun _ => fun
  | [] => { results := [.lit (.bool true)], args := [] }
  | _ => none }
def topicsKnownRow : OpenClaim := { program := "ythaekkmnglhinaa", sum := "fa6fc2bf3744cfe0c168132f7bd286f7a64ccc19299b0e34c9f2c50a50546f14", func := "crier/crierlaw22.TopicsKnown", spec := "topicsKnown", unfollowed := true, recurses := true, apart := false }
def TopicsKnownSaid : Prop := topicsKnownRow.holds Try.pinned (OpenSpec.ofChange topicsKnownSpec)

/-- ITS FALSE NEIGHBOUR: 'it returns false'. Refute it at one input. -/
def topicsKnownWrong : ChangeSpec := { name := "topicsKnown", fn := fun _ => fun
  | [] => { results := [.lit (.bool false)], args := [] }
  | _ => none }
def TopicsKnownWrongFalsely : Prop := topicsKnownRow.holds Try.pinned (OpenSpec.ofChange topicsKnownWrong)

/- THE SECOND FORM. 'bulk': how many values and letters a reading holds, each counted each time it is reached (what is shared counts as often as it is met; a slice's spare places count too). A statement '..UptoSaid' is the law's where the arguments, and the package variables that the reading takes, are together of bulk at most 1048576: NARROWER than '..Said'. Prove '..Said' where nothing that the law and all that it calls make is longer than what came in: it says more and counts as full. Else prove '..UptoSaid'. A law counts once. -/
mutual
def uptoBulk {H : Type} : DataW H → Nat
  | .lit (.string bytes) => bytes.length + 1
  | .lit _ => 1
  | .nil => 1
  | .ptr d => uptoBulk d + 1
  | .slice elems spare => uptoBulkAll elems + uptoBulkAll spare + 1
  | .agg parts => uptoBulkAll parts + 1
  | .iface _ d => uptoBulk d + 1
  | .map entries => uptoBulkEntries entries + 1
  | .held _ => 1
def uptoBulkAll {H : Type} : List (DataW H) → Nat
  | [] => 0
  | d :: r => uptoBulk d + uptoBulkAll r
def uptoBulkEntries {H : Type} : List (Lit × DataW H) → Nat
  | [] => 0
  | x :: r => uptoBulkEntry x + uptoBulkEntries r
def uptoBulkEntry {H : Type} : Lit × DataW H → Nat
  | (.string bytes, d) => bytes.length + uptoBulk d + 1
  | (_, d) => uptoBulk d + 1
 end
def uptoSmall : (H : Type) → List (DataW H) → Bool := fun _ ds => decide (uptoBulkAll ds ≤ 1048576)
def OpenSpec.upto (s : _root_.Go.ChangeSpec) : _root_.Go.OpenSpec := { _root_.Go.OpenSpec.ofChange s with cond := some uptoSmall }

/-- 'crierlaw22.TopicsBehind', WHERE WHAT IT READS IS OF BULK AT MOST 1048576: true; the input reads as it did. -/
def topicsBehindUptoRow : OpenClaim := { program := "ythaekkmnglhinaa", sum := "fa6fc2bf3744cfe0c168132f7bd286f7a64ccc19299b0e34c9f2c50a50546f14", func := "crier/crierlaw22.TopicsBehind", spec := "topicsBehind", unfollowed := true, recurses := true, apart := false, narrowed := true }
def TopicsBehindUptoSaid : Prop := topicsBehindUptoRow.holds Try.pinned (OpenSpec.upto topicsBehindSpec)

/-- 'crierlaw22.TopicsPlay', WHERE WHAT IT READS IS OF BULK AT MOST 1048576: true; the input reads as it did. -/
def topicsPlayUptoRow : OpenClaim := { program := "ythaekkmnglhinaa", sum := "fa6fc2bf3744cfe0c168132f7bd286f7a64ccc19299b0e34c9f2c50a50546f14", func := "crier/crierlaw22.TopicsPlay", spec := "topicsPlay", unfollowed := true, recurses := true, apart := false, narrowed := true }
def TopicsPlayUptoSaid : Prop := topicsPlayUptoRow.holds Try.pinned (OpenSpec.upto topicsPlaySpec)

/-- 'crierlaw22.TopicsNobody', WHERE WHAT IT READS IS OF BULK AT MOST 1048576: true; the input reads as it did. -/
def topicsNobodyUptoRow : OpenClaim := { program := "ythaekkmnglhinaa", sum := "fa6fc2bf3744cfe0c168132f7bd286f7a64ccc19299b0e34c9f2c50a50546f14", func := "crier/crierlaw22.TopicsNobody", spec := "topicsNobody", unfollowed := true, recurses := true, apart := false, narrowed := true }
def TopicsNobodyUptoSaid : Prop := topicsNobodyUptoRow.holds Try.pinned (OpenSpec.upto topicsNobodySpec)

/-- 'crierlaw22.TopicsPairs', WHERE WHAT IT READS IS OF BULK AT MOST 1048576: true; the input reads as it did. -/
def topicsPairsUptoRow : OpenClaim := { program := "ythaekkmnglhinaa", sum := "fa6fc2bf3744cfe0c168132f7bd286f7a64ccc19299b0e34c9f2c50a50546f14", func := "crier/crierlaw22.TopicsPairs", spec := "topicsPairs", unfollowed := true, recurses := true, apart := false, narrowed := true }
def TopicsPairsUptoSaid : Prop := topicsPairsUptoRow.holds Try.pinned (OpenSpec.upto topicsPairsSpec)

/-- 'crierlaw22.TopicsStill', WHERE WHAT IT READS IS OF BULK AT MOST 1048576: true; the input reads as it did. -/
def topicsStillUptoRow : OpenClaim := { program := "ythaekkmnglhinaa", sum := "fa6fc2bf3744cfe0c168132f7bd286f7a64ccc19299b0e34c9f2c50a50546f14", func := "crier/crierlaw22.TopicsStill", spec := "topicsStill", unfollowed := true, recurses := true, apart := false, narrowed := true }
def TopicsStillUptoSaid : Prop := topicsStillUptoRow.holds Try.pinned (OpenSpec.upto topicsStillSpec)

/-- 'crierlaw22.TopicsKnown', WHERE WHAT IT READS IS OF BULK AT MOST 1048576: true; the input reads as it did. -/
def topicsKnownUptoRow : OpenClaim := { program := "ythaekkmnglhinaa", sum := "fa6fc2bf3744cfe0c168132f7bd286f7a64ccc19299b0e34c9f2c50a50546f14", func := "crier/crierlaw22.TopicsKnown", spec := "topicsKnown", unfollowed := true, recurses := true, apart := false, narrowed := true }
def TopicsKnownUptoSaid : Prop := topicsKnownUptoRow.holds Try.pinned (OpenSpec.upto topicsKnownSpec)

end Rows
end Go.Proofs.Ythaekkmnglhinaa
