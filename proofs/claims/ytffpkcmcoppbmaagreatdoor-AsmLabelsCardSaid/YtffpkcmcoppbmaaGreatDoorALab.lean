/-
  AsmLabels: six places of the label, each ahead and back: the runs.
-/
import Derived.Test.YtffpkcmcoppbmaaGreatDoorAScen
import Derived.Test.YtffpkcmcoppbmaaGreatDoorKShal
import Derived.Test.YtffpkcmcoppbmaaGreatDoorKTrue
namespace Go.KM.Tryz
open Go
def kr : KC → KC
  | .seq _ b => b
  | c => c
noncomputable def rest5 : KC := kr (kr kf5.body)
noncomputable def env5 (v : Int) (b : Bool) : Env := ((PT.leaf.set 0 (.int .i64 v)).set 1 (.bool b)).set 4 (.bool false)
noncomputable def saysTrue (o : Out) : Bool := match o with
  | .ret e h => isTrue (resV e h [.tmp 4])
  | .norm e h => isTrue (resV e h [.tmp 4])
  | _ => false
def LabRun (v : Int) (b : Bool) : Prop := saysTrue (runC K2 100000 rest5 (env5 v b) ah0) = true
end Go.KM.Tryz
