/- The codes and numbers of chapter 04, as lists. -/
import Derived.Test.YtjmcholbjjgelaaDoorCaps
import Derived.Test.YtjmcholbjjgelaaDoorSxArg
namespace Go.Proofs
open Go.Sx
noncomputable def Tryd.L35 : List (List UInt8) := Tryd.codesL ++ [[48, 48, 48, 48, 48, 48, 48, 48, 48, 48, 48, 48, 48, 48, 48]]
def Tryd.Z35 : List Int := [0, 1, 2, 3, 4, 5, 6, 7, 8, 9, 10, 11, 12, 13, 14, 15, 16, 17, 18, 19, 20, 21, 22, 23, 24, 25, 26, 27, 28, 29, 30, 31, 32, 33, 34]
theorem Tryd.refS_eq : Tryd.refS = strsS Tryd.L35 := by kernel_rfl
theorem Tryd.codesS_eq : Tryd.codesS = strsS Tryd.codesL := by kernel_rfl
end Go.Proofs
