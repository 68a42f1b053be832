/-
  CollectNew: what is known of the plan's three numbers and of the stack's size, case by case.
-/
import Derived.Test.YtbcnnpfncedgaaaGreatDoorKSym
import Derived.Test.YtbcnnpfncedgaaaGreatDoorKTie
import Derived.Test.YtbcnnpfncedgaaaGreatDoorKTrue
namespace Go.KM.Tryz
open Go
/-- The machine for what takes nothing for granted. -/
noncomputable def K0 : KP KF := { g := fun _ => none, pr := fun _ => none, F := fun f => tree.get f, D := fun _ _ _ => none }
noncomputable def prs (f : Nat) : Option (List AV → AH → R AV) := Bool.rec (motive := fun _ => Option (List AV → AH → R AV)) none (some trueP) (Nat.beq f 35)
noncomputable def KN (l : List Fact) : KP KF := { g := fun _ => none, pr := prs, F := fun f => Bool.rec (motive := fun _ => Option KF) (tree.get f) none (Nat.beq f 35), D := tabD l }
def eqF (x y : SE) (r : Bool) : Fact := ⟨true, x, y, r⟩
def ltF (x y : SE) (r : Bool) : Fact := ⟨false, x, y, r⟩
/-- Where a number stands to 1 and to a greatest one. -/
inductive At where
  | low | high | mid
def atF (i : Nat) (m : Int) : At → List Fact
  | .low => [ltF (.var i) (.lit 1) true]
  | .high => [ltF (.var i) (.lit 1) false, ltF (.lit m) (.var i) true]
  | .mid => [ltF (.var i) (.lit 1) false, ltF (.lit m) (.var i) false]
def sumE : SE := .op .add .i64 (.op .add .i64 (.lit 16) (.op .mul .i64 (.var 1) (.op .add .i64 (.lit 5) (.var 2)))) (.op .mul .i64 (.lit 3) (.var 0))
def baseE : SE := .op .mul .i64 (.op .quo .i64 (.op .sub .i64 (.op .add .i64 sumE (.lit 64)) (.lit 1)) (.lit 64)) (.lit 64)
def baseF : List Fact := [eqF (.lit 64) (.lit 0) false, ltF baseE (.lit 0) false]
def Runs (l : List Fact) : Prop := isTrue (callC (KN l) 100000 9 [.agg [.sym .i64 (.var 0), .sym .i64 (.var 1), .sym .i64 (.var 2)], .sym .i64 (.var 3)] ah0) = true
end Go.KM.Tryz
