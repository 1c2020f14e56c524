/- The functions that the laws of this group reach. -/
import Derived.Test.YtmekbgeknkknfaaH1
namespace Go.Ab
open Go.Proofs
def setV : List Nat := [6, 7, 8, 25, 26, 29, 31, 33, 35, 36, 37, 39, 40, 41, 68, 86, 87, 88, 91, 92, 93, 99, 109, 110, 111, 113, 148, 149, 150, 151, 152, 154, 162, 168, 193]
theorem foV : ∀ f ∈ setV, FnOk f := by
  unfold setV
  simp only [List.forall_mem_cons]
  exact ⟨fo6, fo7, fo8, fo25, fo26, fo29, fo31, fo33, fo35, fo36, fo37, fo39, fo40, fo41, fo68, fo86, fo87, fo88, fo91, fo92, fo93, fo99, fo109, fo110, fo111, fo113, fo148, fo149, fo150, fo151, fo152, fo154, fo162, fo168, fo193, fun _ h => by cases h⟩
theorem coV : setV.all codeB = true := by kernel_rfl
theorem baseV : Base (tabW setV) Try.prog (okRegion (tabW setV)) := base_ok _ foV coV
end Go.Ab
