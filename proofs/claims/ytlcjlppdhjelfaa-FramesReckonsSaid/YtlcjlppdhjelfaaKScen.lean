/-
  FramesReckons: what is known of the two numbers, case by case.
-/
import Derived.Test.YtlcjlppdhjelfaaKSym
import Derived.Test.YtlcjlppdhjelfaaKTie
import Derived.Test.YtlcjlppdhjelfaaKLowest
namespace Go.KM.Try
open Go
def A : SE := .var 0
def B : SE := .var 1
def Q : SE := .op .quo .i64 A B
def Rm : SE := .op .rem .i64 A B
def ng (x : SE) : SE := .op .sub .i64 (.lit 0) x
def eqF (x y : SE) (r : Bool) : Fact := ⟨true, x, y, r⟩
def ltF (x y : SE) (r : Bool) : Fact := ⟨false, x, y, r⟩
def s0 (lt eq : Bool) : List Fact := [eqF B (.lit 0) true, ltF A B lt, eqF A B eq]
def s1 (lt eq : Bool) : List Fact := [eqF B (.lit 0) false, eqF B (.lit (-1)) true, ltF A B lt, eqF A B eq, eqF Q (ng A) true, eqF Rm (.lit 0) true]
def whole : Fact := eqF (.op .add .i64 (.op .mul .i64 Q B) Rm) A true
def rest : Option Bool → List Fact
  | none => [eqF Rm (.lit 0) true]
  | some s => [eqF Rm (.lit 0) false, ltF Rm (.lit 0) s, ltF A (.lit 0) s]
def s2 (eq : Bool) (r : Option Bool) : List Fact := [eqF B (.lit 0) false, eqF B (.lit (-1)) false, whole, ltF A B false, eqF A B eq, eqF B (.lit (-9223372036854775808)) true, eqF Q (.lit (if eq then 1 else 0)) true] ++ rest r
def s3 (neg lt eq : Bool) (r : Option Bool) : List Fact :=
  [eqF B (.lit 0) false, eqF B (.lit (-1)) false, whole, ltF A B lt, eqF A B eq, eqF B (.lit (-9223372036854775808)) false, ltF B (.lit 0) neg] ++
  (if neg then [ltF (ng (ng B)) Rm true, ltF Rm (ng B) true] else [ltF (ng B) Rm true, ltF Rm B true]) ++ rest r
noncomputable def prs (f : Nat) : Option (List AV → AH → R AV) := Bool.rec (motive := fun _ => Option (List AV → AH → R AV)) none (some lowestP) (Nat.beq f 64)
noncomputable def KK (l : List Fact) : KP KF := { g := fun _ => none, pr := prs, F := fun f => tree.get f, D := tabD l }
noncomputable def isTrue (r : R AV) : Bool := match r with
  | .ok (.bool true) _ => true
  | _ => false
def Runs (l : List Fact) : Prop := isTrue (callC (KK l) 100000 3 [.sym .i64 (.var 0), .sym .i64 (.var 1)] ah0) = true
end Go.KM.Try
