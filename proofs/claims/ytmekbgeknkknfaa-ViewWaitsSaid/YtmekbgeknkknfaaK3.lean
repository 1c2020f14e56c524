/- The table of all functions whose regions stand, and its base. -/
import Derived.Test.YtmekbgeknkknfaaK2
namespace Go.Ab
open Go.Proofs
def setA0 : List Nat := [3, 5, 6, 7, 8, 9, 11, 12, 13, 14, 15, 16, 17, 18, 21, 22, 23, 24, 25, 26, 27, 28, 29, 30, 31, 32, 33, 34, 35, 36, 37, 38, 39, 40, 41, 42, 43, 44, 45, 46]
theorem foA0 : ∀ f ∈ setA0, FnOk f := by
  unfold setA0
  simp only [List.forall_mem_cons]
  exact ⟨fo3, fo5, fo6, fo7, fo8, fo9, fo11, fo12, fo13, fo14, fo15, fo16, fo17, fo18, fo21, fo22, fo23, fo24, fo25, fo26, fo27, fo28, fo29, fo30, fo31, fo32, fo33, fo34, fo35, fo36, fo37, fo38, fo39, fo40, fo41, fo42, fo43, fo44, fo45, fo46, fun _ h => by cases h⟩
def setA1 : List Nat := [47, 48, 49, 50, 51, 52, 53, 54, 55, 56, 57, 58, 59, 60, 61, 62, 63, 64, 65, 66, 67, 68, 69, 70, 71, 72, 73, 74, 75, 76, 77, 78, 79, 80, 81, 82, 83, 84, 85, 86]
theorem foA1 : ∀ f ∈ setA1, FnOk f := by
  unfold setA1
  simp only [List.forall_mem_cons]
  exact ⟨fo47, fo48, fo49, fo50, fo51, fo52, fo53, fo54, fo55, fo56, fo57, fo58, fo59, fo60, fo61, fo62, fo63, fo64, fo65, fo66, fo67, fo68, fo69, fo70, fo71, fo72, fo73, fo74, fo75, fo76, fo77, fo78, fo79, fo80, fo81, fo82, fo83, fo84, fo85, fo86, fun _ h => by cases h⟩
def setA2 : List Nat := [87, 88, 89, 90, 91, 92, 93, 94, 96, 97, 98, 99, 100, 101, 102, 103, 105, 106, 107, 108, 109, 110, 111, 113, 115, 116, 117, 118, 119, 120, 121, 122, 123, 124, 125, 126, 127, 128, 129, 130]
theorem foA2 : ∀ f ∈ setA2, FnOk f := by
  unfold setA2
  simp only [List.forall_mem_cons]
  exact ⟨fo87, fo88, fo89, fo90, fo91, fo92, fo93, fo94, fo96, fo97, fo98, fo99, fo100, fo101, fo102, fo103, fo105, fo106, fo107, fo108, fo109, fo110, fo111, fo113, fo115, fo116, fo117, fo118, fo119, fo120, fo121, fo122, fo123, fo124, fo125, fo126, fo127, fo128, fo129, fo130, fun _ h => by cases h⟩
def setA3 : List Nat := [131, 132, 133, 134, 135, 136, 137, 138, 139, 140, 141, 142, 143, 144, 145, 147, 148, 149, 150, 151, 152, 153, 154, 155, 156, 157, 158, 159, 160, 161, 162, 163, 164, 165, 166, 167, 168, 170, 171, 172]
theorem foA3 : ∀ f ∈ setA3, FnOk f := by
  unfold setA3
  simp only [List.forall_mem_cons]
  exact ⟨fo131, fo132, fo133, fo134, fo135, fo136, fo137, fo138, fo139, fo140, fo141, fo142, fo143, fo144, fo145, fo147, fo148, fo149, fo150, fo151, fo152, fo153, fo154, fo155, fo156, fo157, fo158, fo159, fo160, fo161, fo162, fo163, fo164, fo165, fo166, fo167, fo168, fo170, fo171, fo172, fun _ h => by cases h⟩
def setA4 : List Nat := [173, 174, 175, 176, 177, 178, 179, 180, 181, 182, 183, 184, 185, 186, 187, 188, 189, 190, 191, 192, 193, 195, 196, 197, 198, 199, 200, 201, 202, 203, 204, 205, 206, 207, 208, 209, 210, 211, 212, 213]
theorem foA4 : ∀ f ∈ setA4, FnOk f := by
  unfold setA4
  simp only [List.forall_mem_cons]
  exact ⟨fo173, fo174, fo175, fo176, fo177, fo178, fo179, fo180, fo181, fo182, fo183, fo184, fo185, fo186, fo187, fo188, fo189, fo190, fo191, fo192, fo193, fo195, fo196, fo197, fo198, fo199, fo200, fo201, fo202, fo203, fo204, fo205, fo206, fo207, fo208, fo209, fo210, fo211, fo212, fo213, fun _ h => by cases h⟩
def setA5 : List Nat := [214, 215]
theorem foA5 : ∀ f ∈ setA5, FnOk f := by
  unfold setA5
  simp only [List.forall_mem_cons]
  exact ⟨fo214, fo215, fun _ h => by cases h⟩
def setA : List Nat := [3, 5, 6, 7, 8, 9, 11, 12, 13, 14, 15, 16, 17, 18, 21, 22, 23, 24, 25, 26, 27, 28, 29, 30, 31, 32, 33, 34, 35, 36, 37, 38, 39, 40, 41, 42, 43, 44, 45, 46, 47, 48, 49, 50, 51, 52, 53, 54, 55, 56, 57, 58, 59, 60, 61, 62, 63, 64, 65, 66, 67, 68, 69, 70, 71, 72, 73, 74, 75, 76, 77, 78, 79, 80, 81, 82, 83, 84, 85, 86, 87, 88, 89, 90, 91, 92, 93, 94, 96, 97, 98, 99, 100, 101, 102, 103, 105, 106, 107, 108, 109, 110, 111, 113, 115, 116, 117, 118, 119, 120, 121, 122, 123, 124, 125, 126, 127, 128, 129, 130, 131, 132, 133, 134, 135, 136, 137, 138, 139, 140, 141, 142, 143, 144, 145, 147, 148, 149, 150, 151, 152, 153, 154, 155, 156, 157, 158, 159, 160, 161, 162, 163, 164, 165, 166, 167, 168, 170, 171, 172, 173, 174, 175, 176, 177, 178, 179, 180, 181, 182, 183, 184, 185, 186, 187, 188, 189, 190, 191, 192, 193, 195, 196, 197, 198, 199, 200, 201, 202, 203, 204, 205, 206, 207, 208, 209, 210, 211, 212, 213, 214, 215]
theorem foA : ∀ f ∈ setA, FnOk f := by
  intro f h
  have h' : f ∈ setA0 ++ setA1 ++ setA2 ++ setA3 ++ setA4 ++ setA5 := h
  simp only [List.mem_append] at h'
  rcases h' with (((((h | h) | h) | h) | h) | h)
  · exact foA0 f h
  · exact foA1 f h
  · exact foA2 f h
  · exact foA3 f h
  · exact foA4 f h
  · exact foA5 f h
theorem coA : setA.all codeB = true := by kernel_rfl
theorem baseA : Base (tabW setA) Try.prog (okRegion (tabW setA)) := base_ok _ foA coA
noncomputable abbrev TA : Tab := tabW setA
end Go.Ab
