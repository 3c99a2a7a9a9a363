/- The functions of this seat that have no body, as answers of the abstract evaluator. -/
import Derived.Test.YtcininaeeaiioaaDoorTabOk
import Derived.Lib.Bytealg
namespace Go.Proofs
open Go.Sx Go.RowKit
set_option maxRecDepth 100000
theorem Tryd.ne_run (v : Value) (w : World) : (callFunc 62 #[v]).run Tryd.prog w = .ok (.value v) w := by
  rw [run_callFunc_extern Tryd.func62 (by kernel_rfl) (by kernel_rfl) (by kernel_rfl) (e := Extern.AbiNoEscape.same) (by kernel_rfl)]
  rfl
def Tryd.neI : Intr := sameI 62
theorem Tryd.neI_ok : IntrOk Tryd.prog Tryd.neI := sameI_ok (by kernel_rfl) Tryd.ne_run
def Tryd.ibsF (args : List SV) : Option Value := match args with
  | [.pl (.string s), .pl (.int .u8 c)] => some (.int .i64 (Lib.indexByte s.data.toList c.toNat.toUInt8))
  | _ => none
theorem Tryd.ibs_run (s : ByteArray) (c : Int) (w : World) : (callFunc 74 #[.string s, .int .u8 c]).run Tryd.prog w = .ok (.value (.int .i64 (Lib.indexByte s.data.toList c.toNat.toUInt8))) w := by
  rw [run_callFunc_extern Tryd.func74 (by kernel_rfl) (by kernel_rfl) (by kernel_rfl) (e := Extern.BytealgIndexByte.indexByte) (by kernel_rfl), Lib.run_indexByteString]
  rfl
def Tryd.ibsI : Intr := extI 74 Tryd.ibsF
theorem Tryd.ibsI_ok : IntrOk Tryd.prog Tryd.ibsI := extI_ok (by kernel_rfl) fun args v hr g vs w hargs => by
  unfold Tryd.ibsF at hr
  split at hr
  · simp only [Option.some.injEq] at hr
    subst hr
    simp only [VRs, VR] at hargs
    obtain ⟨v1, l1, rfl, rfl, v2, l2, rfl, rfl, rfl⟩ := hargs
    exact Tryd.ibs_run _ _ w
  · cases hr
def Tryd.I0 : Intr := orI Tryd.neI Tryd.ibsI
theorem Tryd.I0_ok : IntrOk Tryd.prog Tryd.I0 := Tryd.neI_ok.or Tryd.ibsI_ok
end Go.Proofs
