/- The evaluator, run by the kernel over marginalialaw21.VmNobody from the variables as they are laid, gives true for every int n. No condition. -/
import Derived.Test.YtfmkeaplkdcmlaaGreatDoorRows
import Derived.Test.YtfmkeaplkdcmlaaGreatDoorEvA
namespace Go.Mx
open Go.Proofs.YtfmkeaplkdcmlaaGreatDoor
open Go.Proofs
noncomputable section
def wordsL : List (DataW Unit) := match (Rows.laid_marginalia_value_words : DataW Unit) with
  | .slice es _ => es
  | _ => []
def h0 : H := .mk 7 (((((((T.blank 16).set 0 (roO (flatD Rows.laid_marginalia_code_forms))).set 1 (roO (flatD Rows.laid_internal_strconv_uint64pow10))).set 2 (roO [.slc 6 0 12 (.known 12)])).set 4 (roO (flatD Rows.laid_math_bits_deBruijn32tab))).set 5 (roO (flatD Rows.laid_math_bits_deBruijn64tab))).set 6 (roO (flatDs wordsL))) []
def isT (r : FRes) : Bool := FRes.casesOn r (fun _ => false) (fun v _ => v.boolK false fun b => b) (fun _ _ => false)
end
theorem runs (n : Int) : isT (run1 (Env.of Tryz.prog) 1000 false 3 [.int .i64 n] h0) = true := by kernel_rfl
end Go.Mx

