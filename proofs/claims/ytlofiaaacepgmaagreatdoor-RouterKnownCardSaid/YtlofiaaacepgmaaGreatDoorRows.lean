/-
  NARROWER THAN 'FOR EVERY INPUT', by the rows' own cells (each row's printed sentence says how): RouterNobody: laid · RouterOrder: laid · RouterAllows: laid · RouterKnown: laid.
  DERIVED. THE GIVEN ROWS OF THIS SEAT. 4 by the template 'for every input the law returns true; each argument reads behind the call as it read before'; 0 by the template 'total and deterministic' (their statements: YtlofiaaacepgmaaGreatDoorTotals.lean).
  GIVEN WITH THE SEED: the statements are not yours to turn. If you find one false, say at which input.
  Laid BY PROGRAM, IN A SANDBOX (cutbox-rows.mjs): the forced cells as the released guide's own fill.sh prints them over the translation 2a10d9ca9eb59528… (all of the seat's roots in one cut). By AI agents, Wed Nov 11 2026. No macro, syntax, notation, axiom, sorry.
-/
import Derived.Test.YtlofiaaacepgmaaGreatDoorChecked
import GoSem.PinnedTables
import GoSem.Claim
import GoSem.ClaimJoined
import GoSem.ClaimMapViews
import Derived.JoinedTies
import Derived.KernelRfl
namespace Go.Proofs.YtlofiaaacepgmaaGreatDoor
/- THE CELL 'sum', in the pinned program and in every row, IS THE sha256 OF THE DUMP (.gsa) THAT YtlofiaaacepgmaaGreatDoorProg.lean LOADS. Nothing in Lean hashes anything: it is a label: what it is worth is what the hold of that sum in a sandbox is worth. -/
noncomputable def Tryz.pinned : Pinned := { name := "ytlofiaaacepgmaagreatdoor", sum := "2a10d9ca9eb595284f6f4a3cc0ee85552e4fedc3b4c4cbda2b3450b29886c390", checked := Tryz.checked }
namespace Rows
def none {H : Type} : Left H := { results := [], args := [] }

/- WHAT THE LISTED PACKAGE-LEVEL VARIABLES READ AS WHEN THE CALL BEGINS. Each datum BY PROGRAM (the guide's laid-datum.mjs) off the statement by which the dump's own 'gosem.cut.vars' lays the variable. In a bare row this is a premise. The card (YtlofiaaacepgmaaGreatDoorCards.lean) ties it to the program's text. -/
def laid_unicode_utf8_acceptRanges {H : Type} : DataW H := .agg [.agg [.lit (.int .u8 128), .lit (.int .u8 191)], .agg [.lit (.int .u8 160), .lit (.int .u8 191)], .agg [.lit (.int .u8 128), .lit (.int .u8 159)], .agg [.lit (.int .u8 144), .lit (.int .u8 191)], .agg [.lit (.int .u8 128), .lit (.int .u8 143)], .agg [.lit (.int .u8 0), .lit (.int .u8 0)], .agg [.lit (.int .u8 0), .lit (.int .u8 0)], .agg [.lit (.int .u8 0), .lit (.int .u8 0)], .agg [.lit (.int .u8 0), .lit (.int .u8 0)], .agg [.lit (.int .u8 0), .lit (.int .u8 0)], .agg [.lit (.int .u8 0), .lit (.int .u8 0)], .agg [.lit (.int .u8 0), .lit (.int .u8 0)], .agg [.lit (.int .u8 0), .lit (.int .u8 0)], .agg [.lit (.int .u8 0), .lit (.int .u8 0)], .agg [.lit (.int .u8 0), .lit (.int .u8 0)], .agg [.lit (.int .u8 0), .lit (.int .u8 0)]]
/-- One of Go's own tables, pinned by name: the form's constant. -/
def laid_unicode_utf8_first : DataW Unit := Go.Pinned.utf8First

/-- 'crierlaw14.RouterNobody': WHATEVER THE INPUT: true; the input reads as it did. -/
def routerNobodySpec : ChangeSpec := { name := "routerNobody", fn := fun _ => fun
  | [d] => { results := [.lit (.bool true)], args := [d] }
  | _ => none }
def routerNobodyRow : OpenClaim := { program := "ytlofiaaacepgmaagreatdoor", sum := "2a10d9ca9eb595284f6f4a3cc0ee85552e4fedc3b4c4cbda2b3450b29886c390", func := "crier/crierlaw14.RouterNobody", spec := "routerNobody", inPlace := ["internal/bytealg.IndexByteString", "internal/bytealg.CountString", "internal/bytealg.IndexString", "internal/abi.NoEscape", "internal/bytealg.MakeNoZero"], unfollowed := true, recurses := true, named := ["unicode/utf8.first", "unicode/utf8.acceptRanges", "internal/bytealg.MaxLen"], apart := false, laid := [("unicode/utf8.acceptRanges", laid_unicode_utf8_acceptRanges), ("unicode/utf8.first", laid_unicode_utf8_first)] }
def RouterNobodySaid : Prop := routerNobodyRow.holds Tryz.pinned (OpenSpec.ofChange routerNobodySpec)

/-- ITS FALSE NEIGHBOUR: 'it returns false'. Refute it at one input. -/
def routerNobodyWrong : ChangeSpec := { name := "routerNobody", fn := fun _ => fun
  | [d] => { results := [.lit (.bool false)], args := [d] }
  | _ => none }
def RouterNobodyWrongFalsely : Prop := routerNobodyRow.holds Tryz.pinned (OpenSpec.ofChange routerNobodyWrong)

/-- 'crierlaw14.RouterOrder': WHATEVER THE INPUT: true; the input reads as it did. -/
def routerOrderSpec : ChangeSpec := { name := "routerOrder", fn := fun _ => fun
  | [d1, d2, d3] => { results := [.lit (.bool true)], args := [d1, d2, d3] }
  | _ => none }
def routerOrderRow : OpenClaim := { program := "ytlofiaaacepgmaagreatdoor", sum := "2a10d9ca9eb595284f6f4a3cc0ee85552e4fedc3b4c4cbda2b3450b29886c390", func := "crier/crierlaw14.RouterOrder", spec := "routerOrder", inPlace := ["internal/bytealg.IndexByteString", "internal/bytealg.CountString", "internal/bytealg.IndexString", "internal/abi.NoEscape", "internal/bytealg.MakeNoZero"], unfollowed := true, recurses := true, named := ["unicode/utf8.first", "unicode/utf8.acceptRanges", "internal/bytealg.MaxLen"], apart := false, laid := [("unicode/utf8.acceptRanges", laid_unicode_utf8_acceptRanges), ("unicode/utf8.first", laid_unicode_utf8_first)] }
def RouterOrderSaid : Prop := routerOrderRow.holds Tryz.pinned (OpenSpec.ofChange routerOrderSpec)

/-- ITS FALSE NEIGHBOUR: 'it returns false'. Refute it at one input. -/
def routerOrderWrong : ChangeSpec := { name := "routerOrder", fn := fun _ => fun
  | [d1, d2, d3] => { results := [.lit (.bool false)], args := [d1, d2, d3] }
  | _ => none }
def RouterOrderWrongFalsely : Prop := routerOrderRow.holds Tryz.pinned (OpenSpec.ofChange routerOrderWrong)

/-- 'crierlaw14.RouterAllows': WHATEVER THE INPUT: true; the input reads as it did. -/
def routerAllowsSpec : ChangeSpec := { name := "routerAllows", fn := fun _ => fun
  | [d1, d2] => { results := [.lit (.bool true)], args := [d1, d2] }
  | _ => none }
def routerAllowsRow : OpenClaim := { program := "ytlofiaaacepgmaagreatdoor", sum := "2a10d9ca9eb595284f6f4a3cc0ee85552e4fedc3b4c4cbda2b3450b29886c390", func := "crier/crierlaw14.RouterAllows", spec := "routerAllows", inPlace := ["internal/bytealg.IndexByteString", "internal/bytealg.CountString", "internal/bytealg.IndexString", "internal/abi.NoEscape", "internal/bytealg.MakeNoZero"], unfollowed := true, recurses := true, named := ["unicode/utf8.first", "unicode/utf8.acceptRanges", "internal/bytealg.MaxLen"], apart := false, laid := [("unicode/utf8.acceptRanges", laid_unicode_utf8_acceptRanges), ("unicode/utf8.first", laid_unicode_utf8_first)] }
def RouterAllowsSaid : Prop := routerAllowsRow.holds Tryz.pinned (OpenSpec.ofChange routerAllowsSpec)

/-- ITS FALSE NEIGHBOUR: 'it returns false'. Refute it at one input. -/
def routerAllowsWrong : ChangeSpec := { name := "routerAllows", fn := fun _ => fun
  | [d1, d2] => { results := [.lit (.bool false)], args := [d1, d2] }
  | _ => none }
def RouterAllowsWrongFalsely : Prop := routerAllowsRow.holds Tryz.pinned (OpenSpec.ofChange routerAllowsWrong)

/-- 'crierlaw14.RouterKnown': WHATEVER THE INPUT: true; the input reads as it did. -/
def routerKnownSpec : ChangeSpec := { name := "routerKnown", fn := fun _ => fun
  | [] => { results := [.lit (.bool true)], args := [] }
  | _ => none }
def routerKnownRow : OpenClaim := { program := "ytlofiaaacepgmaagreatdoor", sum := "2a10d9ca9eb595284f6f4a3cc0ee85552e4fedc3b4c4cbda2b3450b29886c390", func := "crier/crierlaw14.RouterKnown", spec := "routerKnown", inPlace := ["internal/bytealg.IndexByteString", "internal/bytealg.CountString", "internal/bytealg.IndexString", "internal/abi.NoEscape", "internal/bytealg.MakeNoZero"], unfollowed := true, recurses := true, named := ["unicode/utf8.first", "unicode/utf8.acceptRanges", "internal/bytealg.MaxLen"], apart := false, laid := [("unicode/utf8.acceptRanges", laid_unicode_utf8_acceptRanges), ("unicode/utf8.first", laid_unicode_utf8_first)] }
def RouterKnownSaid : Prop := routerKnownRow.holds Tryz.pinned (OpenSpec.ofChange routerKnownSpec)

/-- ITS FALSE NEIGHBOUR: 'it returns false'. Refute it at one input. -/
def routerKnownWrong : ChangeSpec := { name := "routerKnown", fn := fun _ => fun
  | [] => { results := [.lit (.bool false)], args := [] }
  | _ => none }
def RouterKnownWrongFalsely : Prop := routerKnownRow.holds Tryz.pinned (OpenSpec.ofChange routerKnownWrong)

/- THE SECOND FORM. 'bulk': how many values and letters a reading holds, each counted each time it is reached (what is shared counts as often as it is met; a slice's spare places count too). A statement '..UptoSaid' is the law's where the arguments, and the package variables that the reading takes, are together of bulk at most 1048576: NARROWER than '..Said'. Prove '..Said' where nothing that the law and all that it calls make is longer than what came in: it says more and counts as full. Else prove '..UptoSaid'. A law counts once. -/
mutual
def uptoBulk {H : Type} : DataW H → Nat
  | .lit (.string bytes) => bytes.length + 1
  | .lit _ => 1
  | .nil => 1
  | .ptr d => uptoBulk d + 1
  | .slice elems spare => uptoBulkAll elems + uptoBulkAll spare + 1
  | .agg parts => uptoBulkAll parts + 1
  | .iface _ d => uptoBulk d + 1
  | .map entries => uptoBulkEntries entries + 1
  | .held _ => 1
def uptoBulkAll {H : Type} : List (DataW H) → Nat
  | [] => 0
  | d :: r => uptoBulk d + uptoBulkAll r
def uptoBulkEntries {H : Type} : List (Lit × DataW H) → Nat
  | [] => 0
  | x :: r => uptoBulkEntry x + uptoBulkEntries r
def uptoBulkEntry {H : Type} : Lit × DataW H → Nat
  | (.string bytes, d) => bytes.length + uptoBulk d + 1
  | (_, d) => uptoBulk d + 1
 end
def uptoSmall : (H : Type) → List (DataW H) → Bool := fun _ ds => decide (uptoBulkAll ds ≤ 1048576)
def OpenSpec.upto (s : _root_.Go.ChangeSpec) : _root_.Go.OpenSpec := { _root_.Go.OpenSpec.ofChange s with cond := some uptoSmall }

/-- 'crierlaw14.RouterNobody', WHERE WHAT IT READS IS OF BULK AT MOST 1048576: true; the input reads as it did. -/
def routerNobodyUptoRow : OpenClaim := { program := "ytlofiaaacepgmaagreatdoor", sum := "2a10d9ca9eb595284f6f4a3cc0ee85552e4fedc3b4c4cbda2b3450b29886c390", func := "crier/crierlaw14.RouterNobody", spec := "routerNobody", inPlace := ["internal/bytealg.IndexByteString", "internal/bytealg.CountString", "internal/bytealg.IndexString", "internal/abi.NoEscape", "internal/bytealg.MakeNoZero"], unfollowed := true, recurses := true, named := ["unicode/utf8.first", "unicode/utf8.acceptRanges", "internal/bytealg.MaxLen"], apart := false, laid := [("unicode/utf8.acceptRanges", laid_unicode_utf8_acceptRanges), ("unicode/utf8.first", laid_unicode_utf8_first)], narrowed := true }
def RouterNobodyUptoSaid : Prop := routerNobodyUptoRow.holds Tryz.pinned (OpenSpec.upto routerNobodySpec)

/-- 'crierlaw14.RouterOrder', WHERE WHAT IT READS IS OF BULK AT MOST 1048576: true; the input reads as it did. -/
def routerOrderUptoRow : OpenClaim := { program := "ytlofiaaacepgmaagreatdoor", sum := "2a10d9ca9eb595284f6f4a3cc0ee85552e4fedc3b4c4cbda2b3450b29886c390", func := "crier/crierlaw14.RouterOrder", spec := "routerOrder", inPlace := ["internal/bytealg.IndexByteString", "internal/bytealg.CountString", "internal/bytealg.IndexString", "internal/abi.NoEscape", "internal/bytealg.MakeNoZero"], unfollowed := true, recurses := true, named := ["unicode/utf8.first", "unicode/utf8.acceptRanges", "internal/bytealg.MaxLen"], apart := false, laid := [("unicode/utf8.acceptRanges", laid_unicode_utf8_acceptRanges), ("unicode/utf8.first", laid_unicode_utf8_first)], narrowed := true }
def RouterOrderUptoSaid : Prop := routerOrderUptoRow.holds Tryz.pinned (OpenSpec.upto routerOrderSpec)

/-- 'crierlaw14.RouterAllows', WHERE WHAT IT READS IS OF BULK AT MOST 1048576: true; the input reads as it did. -/
def routerAllowsUptoRow : OpenClaim := { program := "ytlofiaaacepgmaagreatdoor", sum := "2a10d9ca9eb595284f6f4a3cc0ee85552e4fedc3b4c4cbda2b3450b29886c390", func := "crier/crierlaw14.RouterAllows", spec := "routerAllows", inPlace := ["internal/bytealg.IndexByteString", "internal/bytealg.CountString", "internal/bytealg.IndexString", "internal/abi.NoEscape", "internal/bytealg.MakeNoZero"], unfollowed := true, recurses := true, named := ["unicode/utf8.first", "unicode/utf8.acceptRanges", "internal/bytealg.MaxLen"], apart := false, laid := [("unicode/utf8.acceptRanges", laid_unicode_utf8_acceptRanges), ("unicode/utf8.first", laid_unicode_utf8_first)], narrowed := true }
def RouterAllowsUptoSaid : Prop := routerAllowsUptoRow.holds Tryz.pinned (OpenSpec.upto routerAllowsSpec)

/-- 'crierlaw14.RouterKnown', WHERE WHAT IT READS IS OF BULK AT MOST 1048576: true; the input reads as it did. -/
def routerKnownUptoRow : OpenClaim := { program := "ytlofiaaacepgmaagreatdoor", sum := "2a10d9ca9eb595284f6f4a3cc0ee85552e4fedc3b4c4cbda2b3450b29886c390", func := "crier/crierlaw14.RouterKnown", spec := "routerKnown", inPlace := ["internal/bytealg.IndexByteString", "internal/bytealg.CountString", "internal/bytealg.IndexString", "internal/abi.NoEscape", "internal/bytealg.MakeNoZero"], unfollowed := true, recurses := true, named := ["unicode/utf8.first", "unicode/utf8.acceptRanges", "internal/bytealg.MaxLen"], apart := false, laid := [("unicode/utf8.acceptRanges", laid_unicode_utf8_acceptRanges), ("unicode/utf8.first", laid_unicode_utf8_first)], narrowed := true }
def RouterKnownUptoSaid : Prop := routerKnownUptoRow.holds Tryz.pinned (OpenSpec.upto routerKnownSpec)

end Rows
end Go.Proofs.YtlofiaaacepgmaaGreatDoor
