/- Where a call of this seat's functions starts. -/
import Derived.Test.YtcininaeeaiioaaDoorExt
import Derived.Test.YtcininaeeaiioaaDoorSxCap
import Derived.Test.YtcininaeeaiioaaDoorRows
import Derived.WalkKit
import Derived.ProofKit
import Derived.LaidMore
import Derived.Lay
import Derived.OpenShut
import Derived.Stop.Joined
import Derived.Stop.LaidErr
namespace Go.Proofs.YtcininaeeaiioaaDoor
open Go.Sx Go.RowKit
set_option maxRecDepth 100000
theorem own : ownKnob Tryd.prog.godebug = none := by kernel_rfl
abbrev lvars : List (String × DataW Unit) := Rows.linesKnownRow.laid
noncomputable abbrev door (os : Os) : World := World.laidAll Tryd.prog os lvars
theorem door_met (os : Os) (args : Array Value) : laidMetH Tryd.prog lvars ((door os).forCall (fun _ _ => 0) ⟨#[], args, []⟩).memory := by
  rw [MakeChecks.laidMetH_plain _ _ _ (by kernel_rfl)]
  exact laidMet_laidAll _ (by kernel_rfl) (by kernel_rfl)
theorem start (W : World) : MRel (gh0 W) W (Old W) (meOf []) W := by
  refine start0 fun b o ho => ?_
  simp [tabHeap, Tr.get_e] at ho
end Go.Proofs.YtcininaeeaiioaaDoor
