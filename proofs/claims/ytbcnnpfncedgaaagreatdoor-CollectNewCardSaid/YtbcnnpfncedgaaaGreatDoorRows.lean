/-
  NARROWER THAN 'FOR EVERY INPUT', by the rows' own cells (each row's printed sentence says how): TlabSteps: laid · TlabFull: laid · TlabApart: laid · TlabColours: laid · CollectRests: laid · TlabRetires: laid · CollectNew: laid.
  DERIVED. THE GIVEN ROWS OF THIS SEAT. 7 by the template 'for every input the law returns true; each argument reads behind the call as it read before'; 0 by the template 'total and deterministic' (their statements: YtbcnnpfncedgaaaGreatDoorTotals.lean).
  GIVEN WITH THE SEED: the statements are not yours to turn. If you find one false, say at which input.
  Laid BY PROGRAM, IN A SANDBOX (cutbox-rows.mjs): the forced cells as the released guide's own fill.sh prints them over the translation 0627fe565a810395… (all of the seat's roots in one cut). By AI agents, Wed Nov 11 2026. No macro, syntax, notation, axiom, sorry.
-/
import Derived.Test.YtbcnnpfncedgaaaGreatDoorChecked
import GoSem.Claim
import GoSem.ClaimJoined
import GoSem.ClaimMapViews
import Derived.JoinedTies
import Derived.KernelRfl
namespace Go.Proofs.YtbcnnpfncedgaaaGreatDoor
/- THE CELL 'sum', in the pinned program and in every row, IS THE sha256 OF THE DUMP (.gsa) THAT YtbcnnpfncedgaaaGreatDoorProg.lean LOADS. Nothing in Lean hashes anything: it is a label: what it is worth is what the hold of that sum in a sandbox is worth. -/
noncomputable def Tryz.pinned : Pinned := { name := "ytbcnnpfncedgaaagreatdoor", sum := "0627fe565a8103950f9124c3e6c374d7f407aaba5650a28a39c38ae3931ad19b", checked := Tryz.checked }
namespace Rows
def none {H : Type} : Left H := { results := [], args := [] }

/- WHAT THE LISTED PACKAGE-LEVEL VARIABLES READ AS WHEN THE CALL BEGINS. Each datum BY PROGRAM (the guide's laid-datum.mjs) off the statement by which the dump's own 'gosem.cut.vars' lays the variable. In a bare row this is a premise. The card (YtbcnnpfncedgaaaGreatDoorCards.lean) ties it to the program's text. -/
def laid_math_bits_deBruijn64tab {H : Type} : DataW H := .agg [.lit (.int .u8 0), .lit (.int .u8 1), .lit (.int .u8 56), .lit (.int .u8 2), .lit (.int .u8 57), .lit (.int .u8 49), .lit (.int .u8 28), .lit (.int .u8 3), .lit (.int .u8 61), .lit (.int .u8 58), .lit (.int .u8 42), .lit (.int .u8 50), .lit (.int .u8 38), .lit (.int .u8 29), .lit (.int .u8 17), .lit (.int .u8 4), .lit (.int .u8 62), .lit (.int .u8 47), .lit (.int .u8 59), .lit (.int .u8 36), .lit (.int .u8 45), .lit (.int .u8 43), .lit (.int .u8 51), .lit (.int .u8 22), .lit (.int .u8 53), .lit (.int .u8 39), .lit (.int .u8 33), .lit (.int .u8 30), .lit (.int .u8 24), .lit (.int .u8 18), .lit (.int .u8 12), .lit (.int .u8 5), .lit (.int .u8 63), .lit (.int .u8 55), .lit (.int .u8 48), .lit (.int .u8 27), .lit (.int .u8 60), .lit (.int .u8 41), .lit (.int .u8 37), .lit (.int .u8 16), .lit (.int .u8 46), .lit (.int .u8 35), .lit (.int .u8 44), .lit (.int .u8 21), .lit (.int .u8 52), .lit (.int .u8 32), .lit (.int .u8 23), .lit (.int .u8 11), .lit (.int .u8 54), .lit (.int .u8 26), .lit (.int .u8 40), .lit (.int .u8 15), .lit (.int .u8 34), .lit (.int .u8 20), .lit (.int .u8 31), .lit (.int .u8 10), .lit (.int .u8 25), .lit (.int .u8 14), .lit (.int .u8 19), .lit (.int .u8 9), .lit (.int .u8 13), .lit (.int .u8 8), .lit (.int .u8 7), .lit (.int .u8 6)]
def laid_windrow_sizes_sizeOf {H : Type} : DataW H := .agg [.lit (.int .i64 2), .lit (.int .i64 3), .lit (.int .i64 4), .lit (.int .i64 6), .lit (.int .i64 8), .lit (.int .i64 12), .lit (.int .i64 16), .lit (.int .i64 32)]

/-- 'windrowlaw12.TlabSteps': WHATEVER THE INPUT: true; the input reads as it did. -/
def tlabStepsSpec : ChangeSpec := { name := "tlabSteps", fn := fun _ => fun
  | [d1, d2] => { results := [.lit (.bool true)], args := [d1, d2] }
  | _ => none }
def tlabStepsRow : OpenClaim := { program := "ytbcnnpfncedgaaagreatdoor", sum := "0627fe565a8103950f9124c3e6c374d7f407aaba5650a28a39c38ae3931ad19b", func := "windrow/windrowlaw12.TlabSteps", spec := "tlabSteps", unfollowed := true, recurses := true, named := ["windrow/sizes.sizeOf", "math/bits.deBruijn64tab"], apart := false, laid := [("math/bits.deBruijn64tab", laid_math_bits_deBruijn64tab), ("windrow/sizes.sizeOf", laid_windrow_sizes_sizeOf)] }
def TlabStepsSaid : Prop := tlabStepsRow.holds Tryz.pinned (OpenSpec.ofChange tlabStepsSpec)

/-- ITS FALSE NEIGHBOUR: 'it returns false'. Refute it at one input. -/
def tlabStepsWrong : ChangeSpec := { name := "tlabSteps", fn := fun _ => fun
  | [d1, d2] => { results := [.lit (.bool false)], args := [d1, d2] }
  | _ => none }
def TlabStepsWrongFalsely : Prop := tlabStepsRow.holds Tryz.pinned (OpenSpec.ofChange tlabStepsWrong)

/-- 'windrowlaw12.TlabFull': WHATEVER THE INPUT: true; the input reads as it did. -/
def tlabFullSpec : ChangeSpec := { name := "tlabFull", fn := fun _ => fun
  | [d1, d2] => { results := [.lit (.bool true)], args := [d1, d2] }
  | _ => none }
def tlabFullRow : OpenClaim := { program := "ytbcnnpfncedgaaagreatdoor", sum := "0627fe565a8103950f9124c3e6c374d7f407aaba5650a28a39c38ae3931ad19b", func := "windrow/windrowlaw12.TlabFull", spec := "tlabFull", unfollowed := true, recurses := true, named := ["windrow/sizes.sizeOf", "math/bits.deBruijn64tab"], apart := false, laid := [("math/bits.deBruijn64tab", laid_math_bits_deBruijn64tab), ("windrow/sizes.sizeOf", laid_windrow_sizes_sizeOf)] }
def TlabFullSaid : Prop := tlabFullRow.holds Tryz.pinned (OpenSpec.ofChange tlabFullSpec)

/-- ITS FALSE NEIGHBOUR: 'it returns false'. Refute it at one input. -/
def tlabFullWrong : ChangeSpec := { name := "tlabFull", fn := fun _ => fun
  | [d1, d2] => { results := [.lit (.bool false)], args := [d1, d2] }
  | _ => none }
def TlabFullWrongFalsely : Prop := tlabFullRow.holds Tryz.pinned (OpenSpec.ofChange tlabFullWrong)

/-- 'windrowlaw12.TlabApart': WHATEVER THE INPUT: true; the input reads as it did. -/
def tlabApartSpec : ChangeSpec := { name := "tlabApart", fn := fun _ => fun
  | [d1, d2] => { results := [.lit (.bool true)], args := [d1, d2] }
  | _ => none }
def tlabApartRow : OpenClaim := { program := "ytbcnnpfncedgaaagreatdoor", sum := "0627fe565a8103950f9124c3e6c374d7f407aaba5650a28a39c38ae3931ad19b", func := "windrow/windrowlaw12.TlabApart", spec := "tlabApart", unfollowed := true, recurses := true, named := ["windrow/sizes.sizeOf", "math/bits.deBruijn64tab"], apart := false, laid := [("math/bits.deBruijn64tab", laid_math_bits_deBruijn64tab), ("windrow/sizes.sizeOf", laid_windrow_sizes_sizeOf)] }
def TlabApartSaid : Prop := tlabApartRow.holds Tryz.pinned (OpenSpec.ofChange tlabApartSpec)

/-- ITS FALSE NEIGHBOUR: 'it returns false'. Refute it at one input. -/
def tlabApartWrong : ChangeSpec := { name := "tlabApart", fn := fun _ => fun
  | [d1, d2] => { results := [.lit (.bool false)], args := [d1, d2] }
  | _ => none }
def TlabApartWrongFalsely : Prop := tlabApartRow.holds Tryz.pinned (OpenSpec.ofChange tlabApartWrong)

/-- 'windrowlaw12.TlabColours': WHATEVER THE INPUT: true; the input reads as it did. -/
def tlabColoursSpec : ChangeSpec := { name := "tlabColours", fn := fun _ => fun
  | [d1, d2, d3] => { results := [.lit (.bool true)], args := [d1, d2, d3] }
  | _ => none }
def tlabColoursRow : OpenClaim := { program := "ytbcnnpfncedgaaagreatdoor", sum := "0627fe565a8103950f9124c3e6c374d7f407aaba5650a28a39c38ae3931ad19b", func := "windrow/windrowlaw12.TlabColours", spec := "tlabColours", unfollowed := true, recurses := true, named := ["windrow/sizes.sizeOf", "math/bits.deBruijn64tab"], apart := false, laid := [("math/bits.deBruijn64tab", laid_math_bits_deBruijn64tab), ("windrow/sizes.sizeOf", laid_windrow_sizes_sizeOf)] }
def TlabColoursSaid : Prop := tlabColoursRow.holds Tryz.pinned (OpenSpec.ofChange tlabColoursSpec)

/-- ITS FALSE NEIGHBOUR: 'it returns false'. Refute it at one input. -/
def tlabColoursWrong : ChangeSpec := { name := "tlabColours", fn := fun _ => fun
  | [d1, d2, d3] => { results := [.lit (.bool false)], args := [d1, d2, d3] }
  | _ => none }
def TlabColoursWrongFalsely : Prop := tlabColoursRow.holds Tryz.pinned (OpenSpec.ofChange tlabColoursWrong)

/-- 'windrowlaw20.CollectRests': WHATEVER THE INPUT: true; the input reads as it did. -/
def collectRestsSpec : ChangeSpec := { name := "collectRests", fn := fun _ => fun
  | [d1, d2, d3] => { results := [.lit (.bool true)], args := [d1, d2, d3] }
  | _ => none }
def collectRestsRow : OpenClaim := { program := "ytbcnnpfncedgaaagreatdoor", sum := "0627fe565a8103950f9124c3e6c374d7f407aaba5650a28a39c38ae3931ad19b", func := "windrow/windrowlaw20.CollectRests", spec := "collectRests", unfollowed := true, recurses := true, named := ["math/bits.deBruijn64tab"], apart := false, laid := [("math/bits.deBruijn64tab", laid_math_bits_deBruijn64tab)] }
def CollectRestsSaid : Prop := collectRestsRow.holds Tryz.pinned (OpenSpec.ofChange collectRestsSpec)

/-- ITS FALSE NEIGHBOUR: 'it returns false'. Refute it at one input. -/
def collectRestsWrong : ChangeSpec := { name := "collectRests", fn := fun _ => fun
  | [d1, d2, d3] => { results := [.lit (.bool false)], args := [d1, d2, d3] }
  | _ => none }
def CollectRestsWrongFalsely : Prop := collectRestsRow.holds Tryz.pinned (OpenSpec.ofChange collectRestsWrong)

/-- 'windrowlaw12.TlabRetires': WHATEVER THE INPUT: true; the input reads as it did. -/
def tlabRetiresSpec : ChangeSpec := { name := "tlabRetires", fn := fun _ => fun
  | [d1, d2] => { results := [.lit (.bool true)], args := [d1, d2] }
  | _ => none }
def tlabRetiresRow : OpenClaim := { program := "ytbcnnpfncedgaaagreatdoor", sum := "0627fe565a8103950f9124c3e6c374d7f407aaba5650a28a39c38ae3931ad19b", func := "windrow/windrowlaw12.TlabRetires", spec := "tlabRetires", unfollowed := true, recurses := true, named := ["windrow/sizes.sizeOf", "math/bits.deBruijn64tab"], apart := false, laid := [("math/bits.deBruijn64tab", laid_math_bits_deBruijn64tab), ("windrow/sizes.sizeOf", laid_windrow_sizes_sizeOf)] }
def TlabRetiresSaid : Prop := tlabRetiresRow.holds Tryz.pinned (OpenSpec.ofChange tlabRetiresSpec)

/-- ITS FALSE NEIGHBOUR: 'it returns false'. Refute it at one input. -/
def tlabRetiresWrong : ChangeSpec := { name := "tlabRetires", fn := fun _ => fun
  | [d1, d2] => { results := [.lit (.bool false)], args := [d1, d2] }
  | _ => none }
def TlabRetiresWrongFalsely : Prop := tlabRetiresRow.holds Tryz.pinned (OpenSpec.ofChange tlabRetiresWrong)

/-- 'windrowlaw20.CollectNew': WHATEVER THE INPUT: true; the input reads as it did. -/
def collectNewSpec : ChangeSpec := { name := "collectNew", fn := fun _ => fun
  | [d1, d2] => { results := [.lit (.bool true)], args := [d1, d2] }
  | _ => none }
def collectNewRow : OpenClaim := { program := "ytbcnnpfncedgaaagreatdoor", sum := "0627fe565a8103950f9124c3e6c374d7f407aaba5650a28a39c38ae3931ad19b", func := "windrow/windrowlaw20.CollectNew", spec := "collectNew", unfollowed := true, recurses := true, named := ["math/bits.deBruijn64tab"], apart := false, laid := [("math/bits.deBruijn64tab", laid_math_bits_deBruijn64tab)] }
def CollectNewSaid : Prop := collectNewRow.holds Tryz.pinned (OpenSpec.ofChange collectNewSpec)

/-- ITS FALSE NEIGHBOUR: 'it returns false'. Refute it at one input. -/
def collectNewWrong : ChangeSpec := { name := "collectNew", fn := fun _ => fun
  | [d1, d2] => { results := [.lit (.bool false)], args := [d1, d2] }
  | _ => none }
def CollectNewWrongFalsely : Prop := collectNewRow.holds Tryz.pinned (OpenSpec.ofChange collectNewWrong)

/- THE SECOND FORM. 'bulk': how many values and letters a reading holds, each counted each time it is reached (what is shared counts as often as it is met; a slice's spare places count too). A statement '..UptoSaid' is the law's where the arguments, and the package variables that the reading takes, are together of bulk at most 1048576: NARROWER than '..Said'. Prove '..Said' where nothing that the law and all that it calls make is longer than what came in: it says more and counts as full. Else prove '..UptoSaid'. A law counts once. -/
mutual
def uptoBulk {H : Type} : DataW H → Nat
  | .lit (.string bytes) => bytes.length + 1
  | .lit _ => 1
  | .nil => 1
  | .ptr d => uptoBulk d + 1
  | .slice elems spare => uptoBulkAll elems + uptoBulkAll spare + 1
  | .agg parts => uptoBulkAll parts + 1
  | .iface _ d => uptoBulk d + 1
  | .map entries => uptoBulkEntries entries + 1
  | .held _ => 1
def uptoBulkAll {H : Type} : List (DataW H) → Nat
  | [] => 0
  | d :: r => uptoBulk d + uptoBulkAll r
def uptoBulkEntries {H : Type} : List (Lit × DataW H) → Nat
  | [] => 0
  | x :: r => uptoBulkEntry x + uptoBulkEntries r
def uptoBulkEntry {H : Type} : Lit × DataW H → Nat
  | (.string bytes, d) => bytes.length + uptoBulk d + 1
  | (_, d) => uptoBulk d + 1
 end
def uptoSmall : (H : Type) → List (DataW H) → Bool := fun _ ds => decide (uptoBulkAll ds ≤ 1048576)
def OpenSpec.upto (s : _root_.Go.ChangeSpec) : _root_.Go.OpenSpec := { _root_.Go.OpenSpec.ofChange s with cond := some uptoSmall }

/-- 'windrowlaw12.TlabSteps', WHERE WHAT IT READS IS OF BULK AT MOST 1048576: true; the input reads as it did. -/
def tlabStepsUptoRow : OpenClaim := { program := "ytbcnnpfncedgaaagreatdoor", sum := "0627fe565a8103950f9124c3e6c374d7f407aaba5650a28a39c38ae3931ad19b", func := "windrow/windrowlaw12.TlabSteps", spec := "tlabSteps", unfollowed := true, recurses := true, named := ["windrow/sizes.sizeOf", "math/bits.deBruijn64tab"], apart := false, laid := [("math/bits.deBruijn64tab", laid_math_bits_deBruijn64tab), ("windrow/sizes.sizeOf", laid_windrow_sizes_sizeOf)], narrowed := true }
def TlabStepsUptoSaid : Prop := tlabStepsUptoRow.holds Tryz.pinned (OpenSpec.upto tlabStepsSpec)

/-- 'windrowlaw12.TlabFull', WHERE WHAT IT READS IS OF BULK AT MOST 1048576: true; the input reads as it did. -/
def tlabFullUptoRow : OpenClaim := { program := "ytbcnnpfncedgaaagreatdoor", sum := "0627fe565a8103950f9124c3e6c374d7f407aaba5650a28a39c38ae3931ad19b", func := "windrow/windrowlaw12.TlabFull", spec := "tlabFull", unfollowed := true, recurses := true, named := ["windrow/sizes.sizeOf", "math/bits.deBruijn64tab"], apart := false, laid := [("math/bits.deBruijn64tab", laid_math_bits_deBruijn64tab), ("windrow/sizes.sizeOf", laid_windrow_sizes_sizeOf)], narrowed := true }
def TlabFullUptoSaid : Prop := tlabFullUptoRow.holds Tryz.pinned (OpenSpec.upto tlabFullSpec)

/-- 'windrowlaw12.TlabApart', WHERE WHAT IT READS IS OF BULK AT MOST 1048576: true; the input reads as it did. -/
def tlabApartUptoRow : OpenClaim := { program := "ytbcnnpfncedgaaagreatdoor", sum := "0627fe565a8103950f9124c3e6c374d7f407aaba5650a28a39c38ae3931ad19b", func := "windrow/windrowlaw12.TlabApart", spec := "tlabApart", unfollowed := true, recurses := true, named := ["windrow/sizes.sizeOf", "math/bits.deBruijn64tab"], apart := false, laid := [("math/bits.deBruijn64tab", laid_math_bits_deBruijn64tab), ("windrow/sizes.sizeOf", laid_windrow_sizes_sizeOf)], narrowed := true }
def TlabApartUptoSaid : Prop := tlabApartUptoRow.holds Tryz.pinned (OpenSpec.upto tlabApartSpec)

/-- 'windrowlaw12.TlabColours', WHERE WHAT IT READS IS OF BULK AT MOST 1048576: true; the input reads as it did. -/
def tlabColoursUptoRow : OpenClaim := { program := "ytbcnnpfncedgaaagreatdoor", sum := "0627fe565a8103950f9124c3e6c374d7f407aaba5650a28a39c38ae3931ad19b", func := "windrow/windrowlaw12.TlabColours", spec := "tlabColours", unfollowed := true, recurses := true, named := ["windrow/sizes.sizeOf", "math/bits.deBruijn64tab"], apart := false, laid := [("math/bits.deBruijn64tab", laid_math_bits_deBruijn64tab), ("windrow/sizes.sizeOf", laid_windrow_sizes_sizeOf)], narrowed := true }
def TlabColoursUptoSaid : Prop := tlabColoursUptoRow.holds Tryz.pinned (OpenSpec.upto tlabColoursSpec)

/-- 'windrowlaw20.CollectRests', WHERE WHAT IT READS IS OF BULK AT MOST 1048576: true; the input reads as it did. -/
def collectRestsUptoRow : OpenClaim := { program := "ytbcnnpfncedgaaagreatdoor", sum := "0627fe565a8103950f9124c3e6c374d7f407aaba5650a28a39c38ae3931ad19b", func := "windrow/windrowlaw20.CollectRests", spec := "collectRests", unfollowed := true, recurses := true, named := ["math/bits.deBruijn64tab"], apart := false, laid := [("math/bits.deBruijn64tab", laid_math_bits_deBruijn64tab)], narrowed := true }
def CollectRestsUptoSaid : Prop := collectRestsUptoRow.holds Tryz.pinned (OpenSpec.upto collectRestsSpec)

/-- 'windrowlaw12.TlabRetires', WHERE WHAT IT READS IS OF BULK AT MOST 1048576: true; the input reads as it did. -/
def tlabRetiresUptoRow : OpenClaim := { program := "ytbcnnpfncedgaaagreatdoor", sum := "0627fe565a8103950f9124c3e6c374d7f407aaba5650a28a39c38ae3931ad19b", func := "windrow/windrowlaw12.TlabRetires", spec := "tlabRetires", unfollowed := true, recurses := true, named := ["windrow/sizes.sizeOf", "math/bits.deBruijn64tab"], apart := false, laid := [("math/bits.deBruijn64tab", laid_math_bits_deBruijn64tab), ("windrow/sizes.sizeOf", laid_windrow_sizes_sizeOf)], narrowed := true }
def TlabRetiresUptoSaid : Prop := tlabRetiresUptoRow.holds Tryz.pinned (OpenSpec.upto tlabRetiresSpec)

/-- 'windrowlaw20.CollectNew', WHERE WHAT IT READS IS OF BULK AT MOST 1048576: true; the input reads as it did. -/
def collectNewUptoRow : OpenClaim := { program := "ytbcnnpfncedgaaagreatdoor", sum := "0627fe565a8103950f9124c3e6c374d7f407aaba5650a28a39c38ae3931ad19b", func := "windrow/windrowlaw20.CollectNew", spec := "collectNew", unfollowed := true, recurses := true, named := ["math/bits.deBruijn64tab"], apart := false, laid := [("math/bits.deBruijn64tab", laid_math_bits_deBruijn64tab)], narrowed := true }
def CollectNewUptoSaid : Prop := collectNewUptoRow.holds Tryz.pinned (OpenSpec.upto collectNewSpec)

end Rows
end Go.Proofs.YtbcnnpfncedgaaaGreatDoor
