/-
  No cell of these rows narrows 'for every input' (looked for: loops, veiled, ifaces, maps, wideKeys, modest, calm, conditions, laid).
  DERIVED. THE GIVEN ROWS OF THIS SEAT. 5 by the template 'for every input the law returns true; each argument reads behind the call as it read before'; 0 by the template 'total and deterministic' (their statements: YtedkkcbdhbbegaaTotals.lean).
  GIVEN WITH THE SEED: the statements are not yours to turn. If you find one false, say at which input.
  Laid BY PROGRAM, IN A SANDBOX (cutbox-rows.mjs): the forced cells as the released guide's own fill.sh prints them over the translation 76762b2db39feef6… (all of the seat's roots in one cut). By AI agents, Wed Nov 11 2026. No macro, syntax, notation, axiom, sorry.
-/
import Derived.Test.YtedkkcbdhbbegaaChecked
import GoSem.Claim
import GoSem.ClaimJoined
import GoSem.ClaimMapViews
import Derived.JoinedTies
import Derived.KernelRfl
namespace Go.Proofs.Ytedkkcbdhbbegaa
/- THE CELL 'sum', in the pinned program and in every row, IS THE sha256 OF THE DUMP (.gsa) THAT YtedkkcbdhbbegaaProg.lean LOADS. Nothing in Lean hashes anything: it is a label: what it is worth is what the hold of that sum in a sandbox is worth. -/
noncomputable def Try.pinned : Pinned := { name := "ytedkkcbdhbbegaa", sum := "76762b2db39feef64c40894e470c018e00dfb54d22190fbe61e848dfd27264ef", checked := Try.checked }
namespace Rows
def none {H : Type} : Left H := { results := [], args := [] }

/-- 'crierlaw26.TimersPlay': WHATEVER THE INPUT: true; the input reads as it did. -/
def timersPlaySpec : ChangeSpec := { name := "timersPlay", fn := fun _ => fun
  | [d] => { results := [.lit (.bool true)], args := [d] }
  | _ => none }
def timersPlayRow : OpenClaim := { program := "ytedkkcbdhbbegaa", sum := "76762b2db39feef64c40894e470c018e00dfb54d22190fbe61e848dfd27264ef", func := "crier/crierlaw26.TimersPlay", spec := "timersPlay", inPlace := ["slices.overlaps[crier/timers.timer[int]]"], unfollowed := true, recurses := true, apart := false }
def TimersPlaySaid : Prop := timersPlayRow.holds Try.pinned (OpenSpec.ofChange timersPlaySpec)

/-- ITS FALSE NEIGHBOUR: 'it returns false'. Refute it at one input. -/
def timersPlayWrong : ChangeSpec := { name := "timersPlay", fn := fun _ => fun
  | [d] => { results := [.lit (.bool false)], args := [d] }
  | _ => none }
def TimersPlayWrongFalsely : Prop := timersPlayRow.holds Try.pinned (OpenSpec.ofChange timersPlayWrong)

/-- 'crierlaw26.TimersNobody': WHATEVER THE INPUT: true; the input reads as it did. -/
def timersNobodySpec : ChangeSpec := { name := "timersNobody", fn := fun _ => fun
  | [d1, d2] => { results := [.lit (.bool true)], args := [d1, d2] }
  | _ => none }
def timersNobodyRow : OpenClaim := { program := "ytedkkcbdhbbegaa", sum := "76762b2db39feef64c40894e470c018e00dfb54d22190fbe61e848dfd27264ef", func := "crier/crierlaw26.TimersNobody", spec := "timersNobody", inPlace := ["slices.overlaps[crier/timers.timer[int]]"], unfollowed := true, recurses := true, apart := false }
def TimersNobodySaid : Prop := timersNobodyRow.holds Try.pinned (OpenSpec.ofChange timersNobodySpec)

/-- ITS FALSE NEIGHBOUR: 'it returns false'. Refute it at one input. -/
def timersNobodyWrong : ChangeSpec := { name := "timersNobody", fn := fun _ => fun
  | [d1, d2] => { results := [.lit (.bool false)], args := [d1, d2] }
  | _ => none }
def TimersNobodyWrongFalsely : Prop := timersNobodyRow.holds Try.pinned (OpenSpec.ofChange timersNobodyWrong)

/-- 'crierlaw26.TimersDue': WHATEVER THE INPUT: true; the input reads as it did. -/
def timersDueSpec : ChangeSpec := { name := "timersDue", fn := fun _ => fun
  | [d] => { results := [.lit (.bool true)], args := [d] }
  | _ => none }
def timersDueRow : OpenClaim := { program := "ytedkkcbdhbbegaa", sum := "76762b2db39feef64c40894e470c018e00dfb54d22190fbe61e848dfd27264ef", func := "crier/crierlaw26.TimersDue", spec := "timersDue", inPlace := ["slices.overlaps[crier/timers.timer[int]]"], unfollowed := true, recurses := true, apart := false }
def TimersDueSaid : Prop := timersDueRow.holds Try.pinned (OpenSpec.ofChange timersDueSpec)

/-- ITS FALSE NEIGHBOUR: 'it returns false'. Refute it at one input. -/
def timersDueWrong : ChangeSpec := { name := "timersDue", fn := fun _ => fun
  | [d] => { results := [.lit (.bool false)], args := [d] }
  | _ => none }
def TimersDueWrongFalsely : Prop := timersDueRow.holds Try.pinned (OpenSpec.ofChange timersDueWrong)

/-- 'crierlaw26.TimersWords': WHATEVER THE INPUT: true; the input reads as it did. -/
def timersWordsSpec : ChangeSpec := { name := "timersWords", fn := fun _ => fun
  | [d1, d2] => { results := [.lit (.bool true)], args := [d1, d2] }
  | _ => none }
def timersWordsRow : OpenClaim := { program := "ytedkkcbdhbbegaa", sum := "76762b2db39feef64c40894e470c018e00dfb54d22190fbe61e848dfd27264ef", func := "crier/crierlaw26.TimersWords", spec := "timersWords", inPlace := ["slices.overlaps[crier/timers.timer[int]]", "slices.overlaps[crier/timers.timer[string]]"], unfollowed := true, recurses := true, apart := false }
def TimersWordsSaid : Prop := timersWordsRow.holds Try.pinned (OpenSpec.ofChange timersWordsSpec)

/-- ITS FALSE NEIGHBOUR: 'it returns false'. Refute it at one input. -/
def timersWordsWrong : ChangeSpec := { name := "timersWords", fn := fun _ => fun
  | [d1, d2] => { results := [.lit (.bool false)], args := [d1, d2] }
  | _ => none }
def TimersWordsWrongFalsely : Prop := timersWordsRow.holds Try.pinned (OpenSpec.ofChange timersWordsWrong)

/-- 'crierlaw26.TimersKnown': WHATEVER THE INPUT: true; the input reads as it did. -/
def timersKnownSpec : ChangeSpec := { name := "timersKnown", fn := fun _ => fun
  | [] => { results := [.lit (.bool true)], args := [] }
  | _ => none }
def timersKnownRow : OpenClaim := { program := "ytedkkcbdhbbegaa", sum := "76762b2db39feef64c40894e470c018e00dfb54d22190fbe61e848dfd27264ef", func := "crier/crierlaw26.TimersKnown", spec := "timersKnown", inPlace := ["slices.overlaps[crier/timers.timer[int]]"], unfollowed := true, recurses := true, apart := false }
def TimersKnownSaid : Prop := timersKnownRow.holds Try.pinned (OpenSpec.ofChange timersKnownSpec)

/-- ITS FALSE NEIGHBOUR: 'it returns false'. Refute it at one input. -/
def timersKnownWrong : ChangeSpec := { name := "timersKnown", fn := fun _ => fun
  | [] => { results := [.lit (.bool false)], args := [] }
  | _ => none }
def TimersKnownWrongFalsely : Prop := timersKnownRow.holds Try.pinned (OpenSpec.ofChange timersKnownWrong)

/- THE SECOND FORM. 'bulk': how many values and letters a reading holds, each counted each time it is reached (what is shared counts as often as it is met; a slice's spare places count too). A statement '..UptoSaid' is the law's where the arguments, and the package variables that the reading takes, are together of bulk at most 1048576: NARROWER than '..Said'. Prove '..Said' where nothing that the law and all that it calls make is longer than what came in: it says more and counts as full. Else prove '..UptoSaid'. A law counts once. -/
mutual
def uptoBulk {H : Type} : DataW H → Nat
  | .lit (.string bytes) => bytes.length + 1
  | .lit _ => 1
  | .nil => 1
  | .ptr d => uptoBulk d + 1
  | .slice elems spare => uptoBulkAll elems + uptoBulkAll spare + 1
  | .agg parts => uptoBulkAll parts + 1
  | .iface _ d => uptoBulk d + 1
  | .map entries => uptoBulkEntries entries + 1
  | .held _ => 1
def uptoBulkAll {H : Type} : List (DataW H) → Nat
  | [] => 0
  | d :: r => uptoBulk d + uptoBulkAll r
def uptoBulkEntries {H : Type} : List (Lit × DataW H) → Nat
  | [] => 0
  | x :: r => uptoBulkEntry x + uptoBulkEntries r
def uptoBulkEntry {H : Type} : Lit × DataW H → Nat
  | (.string bytes, d) => bytes.length + uptoBulk d + 1
  | (_, d) => uptoBulk d + 1
 end
def uptoSmall : (H : Type) → List (DataW H) → Bool := fun _ ds => decide (uptoBulkAll ds ≤ 1048576)
def OpenSpec.upto (s : _root_.Go.ChangeSpec) : _root_.Go.OpenSpec := { _root_.Go.OpenSpec.ofChange s with cond := some uptoSmall }

/-- 'crierlaw26.TimersPlay', WHERE WHAT IT READS IS OF BULK AT MOST 1048576: true; the input reads as it did. -/
def timersPlayUptoRow : OpenClaim := { program := "ytedkkcbdhbbegaa", sum := "76762b2db39feef64c40894e470c018e00dfb54d22190fbe61e848dfd27264ef", func := "crier/crierlaw26.TimersPlay", spec := "timersPlay", inPlace := ["slices.overlaps[crier/timers.timer[int]]"], unfollowed := true, recurses := true, apart := false, narrowed := true }
def TimersPlayUptoSaid : Prop := timersPlayUptoRow.holds Try.pinned (OpenSpec.upto timersPlaySpec)

/-- 'crierlaw26.TimersNobody', WHERE WHAT IT READS IS OF BULK AT MOST 1048576: true; the input reads as it did. -/
def timersNobodyUptoRow : OpenClaim := { program := "ytedkkcbdhbbegaa", sum := "76762b2db39feef64c40894e470c018e00dfb54d22190fbe61e848dfd27264ef", func := "crier/crierlaw26.TimersNobody", spec := "timersNobody", inPlace := ["slices.overlaps[crier/timers.timer[int]]"], unfollowed := true, recurses := true, apart := false, narrowed := true }
def TimersNobodyUptoSaid : Prop := timersNobodyUptoRow.holds Try.pinned (OpenSpec.upto timersNobodySpec)

/-- 'crierlaw26.TimersDue', WHERE WHAT IT READS IS OF BULK AT MOST 1048576: true; the input reads as it did. -/
def timersDueUptoRow : OpenClaim := { program := "ytedkkcbdhbbegaa", sum := "76762b2db39feef64c40894e470c018e00dfb54d22190fbe61e848dfd27264ef", func := "crier/crierlaw26.TimersDue", spec := "timersDue", inPlace := ["slices.overlaps[crier/timers.timer[int]]"], unfollowed := true, recurses := true, apart := false, narrowed := true }
def TimersDueUptoSaid : Prop := timersDueUptoRow.holds Try.pinned (OpenSpec.upto timersDueSpec)

/-- 'crierlaw26.TimersWords', WHERE WHAT IT READS IS OF BULK AT MOST 1048576: true; the input reads as it did. -/
def timersWordsUptoRow : OpenClaim := { program := "ytedkkcbdhbbegaa", sum := "76762b2db39feef64c40894e470c018e00dfb54d22190fbe61e848dfd27264ef", func := "crier/crierlaw26.TimersWords", spec := "timersWords", inPlace := ["slices.overlaps[crier/timers.timer[int]]", "slices.overlaps[crier/timers.timer[string]]"], unfollowed := true, recurses := true, apart := false, narrowed := true }
def TimersWordsUptoSaid : Prop := timersWordsUptoRow.holds Try.pinned (OpenSpec.upto timersWordsSpec)

/-- 'crierlaw26.TimersKnown', WHERE WHAT IT READS IS OF BULK AT MOST 1048576: true; the input reads as it did. -/
def timersKnownUptoRow : OpenClaim := { program := "ytedkkcbdhbbegaa", sum := "76762b2db39feef64c40894e470c018e00dfb54d22190fbe61e848dfd27264ef", func := "crier/crierlaw26.TimersKnown", spec := "timersKnown", inPlace := ["slices.overlaps[crier/timers.timer[int]]"], unfollowed := true, recurses := true, apart := false, narrowed := true }
def TimersKnownUptoSaid : Prop := timersKnownUptoRow.holds Try.pinned (OpenSpec.upto timersKnownSpec)

end Rows
end Go.Proofs.Ytedkkcbdhbbegaa
