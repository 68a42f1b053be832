/-
  No cell of these rows narrows 'for every input' (looked for: loops, veiled, ifaces, maps, wideKeys, modest, calm, conditions, laid).
  DERIVED. THE GIVEN ROWS OF THIS SEAT. 5 by the template 'for every input the law returns true; each argument reads behind the call as it read before'; 0 by the template 'total and deterministic' (their statements: YtlcjlppdhjelfaaTotals.lean).
  GIVEN WITH THE SEED: the statements are not yours to turn. If you find one false, say at which input.
  Laid BY PROGRAM, IN A SANDBOX (cutbox-rows.mjs): the forced cells as the released guide's own fill.sh prints them over the translation a55009148a231b8b… (all of the seat's roots in one cut). By AI agents, Wed Nov 11 2026. No macro, syntax, notation, axiom, sorry.
-/
import Derived.Test.YtlcjlppdhjelfaaChecked
import GoSem.Claim
import GoSem.ClaimJoined
import GoSem.ClaimMapViews
import Derived.JoinedTies
import Derived.KernelRfl
namespace Go.Proofs.Ytlcjlppdhjelfaa
/- THE CELL 'sum', in the pinned program and in every row, IS THE sha256 OF THE DUMP (.gsa) THAT YtlcjlppdhjelfaaProg.lean LOADS. Nothing in Lean hashes anything: it is a label: what it is worth is what the hold of that sum in a sandbox is worth. -/
noncomputable def Try.pinned : Pinned := { name := "ytlcjlppdhjelfaa", sum := "a55009148a231b8ba92fa4161e897634948f1d9be3397fccf70d47c3245a356c", checked := Try.checked }
namespace Rows
def none {H : Type} : Left H := { results := [], args := [] }

/-- 'windrowlaw17.FramesReckons': WHATEVER THE INPUT: true; the input reads as it did. -/
def framesReckonsSpec : ChangeSpec := { name := "framesReckons", fn := fun _ => fun
  | [d1, d2] => { results := [.lit (.bool true)], args := [d1, d2] }
  | _ => none }
def framesReckonsRow : OpenClaim := { program := "ytlcjlppdhjelfaa", sum := "a55009148a231b8ba92fa4161e897634948f1d9be3397fccf70d47c3245a356c", func := "windrow/windrowlaw17.FramesReckons", spec := "framesReckons", apart := false }
def FramesReckonsSaid : Prop := framesReckonsRow.holds Try.pinned (OpenSpec.ofChange framesReckonsSpec)

/-- ITS FALSE NEIGHBOUR: 'it returns false'. Refute it at one input. -/
def framesReckonsWrong : ChangeSpec := { name := "framesReckons", fn := fun _ => fun
  | [d1, d2] => { results := [.lit (.bool false)], args := [d1, d2] }
  | _ => none }
def FramesReckonsWrongFalsely : Prop := framesReckonsRow.holds Try.pinned (OpenSpec.ofChange framesReckonsWrong)

/-- 'windrowlaw18.PlainApart': WHATEVER THE INPUT: true; the input reads as it did. -/
def plainApartSpec : ChangeSpec := { name := "plainApart", fn := fun _ => fun
  | [d1, d2] => { results := [.lit (.bool true)], args := [d1, d2] }
  | _ => none }
def plainApartRow : OpenClaim := { program := "ytlcjlppdhjelfaa", sum := "a55009148a231b8ba92fa4161e897634948f1d9be3397fccf70d47c3245a356c", func := "windrow/windrowlaw18.PlainApart", spec := "plainApart", apart := false }
def PlainApartSaid : Prop := plainApartRow.holds Try.pinned (OpenSpec.ofChange plainApartSpec)

/-- ITS FALSE NEIGHBOUR: 'it returns false'. Refute it at one input. -/
def plainApartWrong : ChangeSpec := { name := "plainApart", fn := fun _ => fun
  | [d1, d2] => { results := [.lit (.bool false)], args := [d1, d2] }
  | _ => none }
def PlainApartWrongFalsely : Prop := plainApartRow.holds Try.pinned (OpenSpec.ofChange plainApartWrong)

/-- 'windrowlaw18.PlainIdle': WHATEVER THE INPUT: true; the input reads as it did. -/
def plainIdleSpec : ChangeSpec := { name := "plainIdle", fn := fun _ => fun
  | [d1, d2] => { results := [.lit (.bool true)], args := [d1, d2] }
  | _ => none }
def plainIdleRow : OpenClaim := { program := "ytlcjlppdhjelfaa", sum := "a55009148a231b8ba92fa4161e897634948f1d9be3397fccf70d47c3245a356c", func := "windrow/windrowlaw18.PlainIdle", spec := "plainIdle", apart := false }
def PlainIdleSaid : Prop := plainIdleRow.holds Try.pinned (OpenSpec.ofChange plainIdleSpec)

/-- ITS FALSE NEIGHBOUR: 'it returns false'. Refute it at one input. -/
def plainIdleWrong : ChangeSpec := { name := "plainIdle", fn := fun _ => fun
  | [d1, d2] => { results := [.lit (.bool false)], args := [d1, d2] }
  | _ => none }
def PlainIdleWrongFalsely : Prop := plainIdleRow.holds Try.pinned (OpenSpec.ofChange plainIdleWrong)

/-- 'windrowlaw18.PlainTwice': WHATEVER THE INPUT: true; the input reads as it did. -/
def plainTwiceSpec : ChangeSpec := { name := "plainTwice", fn := fun _ => fun
  | [d1, d2, d3] => { results := [.lit (.bool true)], args := [d1, d2, d3] }
  | _ => none }
def plainTwiceRow : OpenClaim := { program := "ytlcjlppdhjelfaa", sum := "a55009148a231b8ba92fa4161e897634948f1d9be3397fccf70d47c3245a356c", func := "windrow/windrowlaw18.PlainTwice", spec := "plainTwice", apart := false }
def PlainTwiceSaid : Prop := plainTwiceRow.holds Try.pinned (OpenSpec.ofChange plainTwiceSpec)

/-- ITS FALSE NEIGHBOUR: 'it returns false'. Refute it at one input. -/
def plainTwiceWrong : ChangeSpec := { name := "plainTwice", fn := fun _ => fun
  | [d1, d2, d3] => { results := [.lit (.bool false)], args := [d1, d2, d3] }
  | _ => none }
def PlainTwiceWrongFalsely : Prop := plainTwiceRow.holds Try.pinned (OpenSpec.ofChange plainTwiceWrong)

/-- 'windrowlaw18.PlainRefs': WHATEVER THE INPUT: true; the input reads as it did. -/
def plainRefsSpec : ChangeSpec := { name := "plainRefs", fn := fun _ => fun
  | [d1, d2] => { results := [.lit (.bool true)], args := [d1, d2] }
  | _ => none }
def plainRefsRow : OpenClaim := { program := "ytlcjlppdhjelfaa", sum := "a55009148a231b8ba92fa4161e897634948f1d9be3397fccf70d47c3245a356c", func := "windrow/windrowlaw18.PlainRefs", spec := "plainRefs", unfollowed := true, recurses := true, apart := false }
def PlainRefsSaid : Prop := plainRefsRow.holds Try.pinned (OpenSpec.ofChange plainRefsSpec)

/-- ITS FALSE NEIGHBOUR: 'it returns false'. Refute it at one input. -/
def plainRefsWrong : ChangeSpec := { name := "plainRefs", fn := fun _ => fun
  | [d1, d2] => { results := [.lit (.bool false)], args := [d1, d2] }
  | _ => none }
def PlainRefsWrongFalsely : Prop := plainRefsRow.holds Try.pinned (OpenSpec.ofChange plainRefsWrong)

/- THE SECOND FORM. 'bulk': how many values and letters a reading holds, each counted each time it is reached (what is shared counts as often as it is met; a slice's spare places count too). A statement '..UptoSaid' is the law's where the arguments, and the package variables that the reading takes, are together of bulk at most 1048576: NARROWER than '..Said'. Prove '..Said' where nothing that the law and all that it calls make is longer than what came in: it says more and counts as full. Else prove '..UptoSaid'. A law counts once. -/
mutual
def uptoBulk {H : Type} : DataW H → Nat
  | .lit (.string bytes) => bytes.length + 1
  | .lit _ => 1
  | .nil => 1
  | .ptr d => uptoBulk d + 1
  | .slice elems spare => uptoBulkAll elems + uptoBulkAll spare + 1
  | .agg parts => uptoBulkAll parts + 1
  | .iface _ d => uptoBulk d + 1
  | .map entries => uptoBulkEntries entries + 1
  | .held _ => 1
def uptoBulkAll {H : Type} : List (DataW H) → Nat
  | [] => 0
  | d :: r => uptoBulk d + uptoBulkAll r
def uptoBulkEntries {H : Type} : List (Lit × DataW H) → Nat
  | [] => 0
  | x :: r => uptoBulkEntry x + uptoBulkEntries r
def uptoBulkEntry {H : Type} : Lit × DataW H → Nat
  | (.string bytes, d) => bytes.length + uptoBulk d + 1
  | (_, d) => uptoBulk d + 1
 end
def uptoSmall : (H : Type) → List (DataW H) → Bool := fun _ ds => decide (uptoBulkAll ds ≤ 1048576)
def OpenSpec.upto (s : _root_.Go.ChangeSpec) : _root_.Go.OpenSpec := { _root_.Go.OpenSpec.ofChange s with cond := some uptoSmall }

/-- 'windrowlaw17.FramesReckons', WHERE WHAT IT READS IS OF BULK AT MOST 1048576: true; the input reads as it did. -/
def framesReckonsUptoRow : OpenClaim := { program := "ytlcjlppdhjelfaa", sum := "a55009148a231b8ba92fa4161e897634948f1d9be3397fccf70d47c3245a356c", func := "windrow/windrowlaw17.FramesReckons", spec := "framesReckons", apart := false, narrowed := true }
def FramesReckonsUptoSaid : Prop := framesReckonsUptoRow.holds Try.pinned (OpenSpec.upto framesReckonsSpec)

/-- 'windrowlaw18.PlainApart', WHERE WHAT IT READS IS OF BULK AT MOST 1048576: true; the input reads as it did. -/
def plainApartUptoRow : OpenClaim := { program := "ytlcjlppdhjelfaa", sum := "a55009148a231b8ba92fa4161e897634948f1d9be3397fccf70d47c3245a356c", func := "windrow/windrowlaw18.PlainApart", spec := "plainApart", apart := false, narrowed := true }
def PlainApartUptoSaid : Prop := plainApartUptoRow.holds Try.pinned (OpenSpec.upto plainApartSpec)

/-- 'windrowlaw18.PlainIdle', WHERE WHAT IT READS IS OF BULK AT MOST 1048576: true; the input reads as it did. -/
def plainIdleUptoRow : OpenClaim := { program := "ytlcjlppdhjelfaa", sum := "a55009148a231b8ba92fa4161e897634948f1d9be3397fccf70d47c3245a356c", func := "windrow/windrowlaw18.PlainIdle", spec := "plainIdle", apart := false, narrowed := true }
def PlainIdleUptoSaid : Prop := plainIdleUptoRow.holds Try.pinned (OpenSpec.upto plainIdleSpec)

/-- 'windrowlaw18.PlainTwice', WHERE WHAT IT READS IS OF BULK AT MOST 1048576: true; the input reads as it did. -/
def plainTwiceUptoRow : OpenClaim := { program := "ytlcjlppdhjelfaa", sum := "a55009148a231b8ba92fa4161e897634948f1d9be3397fccf70d47c3245a356c", func := "windrow/windrowlaw18.PlainTwice", spec := "plainTwice", apart := false, narrowed := true }
def PlainTwiceUptoSaid : Prop := plainTwiceUptoRow.holds Try.pinned (OpenSpec.upto plainTwiceSpec)

/-- 'windrowlaw18.PlainRefs', WHERE WHAT IT READS IS OF BULK AT MOST 1048576: true; the input reads as it did. -/
def plainRefsUptoRow : OpenClaim := { program := "ytlcjlppdhjelfaa", sum := "a55009148a231b8ba92fa4161e897634948f1d9be3397fccf70d47c3245a356c", func := "windrow/windrowlaw18.PlainRefs", spec := "plainRefs", unfollowed := true, recurses := true, apart := false, narrowed := true }
def PlainRefsUptoSaid : Prop := plainRefsUptoRow.holds Try.pinned (OpenSpec.upto plainRefsSpec)

end Rows
end Go.Proofs.Ytlcjlppdhjelfaa
