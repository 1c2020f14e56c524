/- ViewRefuses, by cases. -/
import Derived.Test.YtmekbgeknkknfaaD1
import Derived.Test.YtmekbgeknkknfaaC4
namespace Go.Ab
open Go.Proofs

noncomputable section
abbrev TV : Tab := tabW setV
abbrev CV := (sem TV 99).1
abbrev LV := (sem TV 99).2
def b7 : Code := bodyOf Try.f7
def k7 (a b : Int) : St := { tm := [.int .u8 a, .int .u8 b, .und, .und, .bool false, .und, .und, .und, .und, .bool true, .bool false] ++ List.replicate 79 .und, L := List.replicate 90 [], H := [], cons := [], conG := false, conL := false, ro := false }
def x7 : Code := afterN 1 b7
def r7 (y : Int) : Code := .seq (setOp (seqL x7) 1 (.move (.const (.int .u8 y)))) (seqR x7)
def p7 (y : Int) : Code := firstN 3 (r7 y)
def q7 (y : Int) : Code := afterN 3 (r7 y)
def m7 (y x : Int) : Code := .seq (p7 y) (setOp (seqL (seqL (q7 y))) 1 (.move (.const (.int .u8 x))))
def z7 (y : Int) : Code := .seq (seqR (seqL (q7 y))) (seqR (q7 y))
end

theorem k7_known (a b : Int) : den CV LV (evCode TV 7 (firstN 1 b7) (st0 Try.f7 [.int .u8 a, .int .u8 b] [])) = some (.normal, k7 a b) := by kernel_rfl
theorem r7_eq (a b : Int) : den CV LV (evCode TV 7 (seqL x7) (k7 a b)) = den CV LV (evCode TV 7 (setOp (seqL x7) 1 (.move (.const (.int .u8 (Int.tmod b 3))))) (k7 a b)) := by kernel_rfl
theorem m7_eq0 (a b : Int) : den CV LV (evCode TV 7 (.seq (p7 0) (seqL (seqL (q7 0)))) (k7 a b)) = den CV LV (evCode TV 7 (m7 0 (Int.tmod a 9)) (k7 a b)) := by kernel_rfl
theorem m7_eq1 (a b : Int) : den CV LV (evCode TV 7 (.seq (p7 1) (seqL (seqL (q7 1)))) (k7 a b)) = den CV LV (evCode TV 7 (m7 1 (Int.tmod a 9)) (k7 a b)) := by kernel_rfl
theorem m7_eq2 (a b : Int) : den CV LV (evCode TV 7 (.seq (p7 2) (seqL (seqL (q7 2)))) (k7 a b)) = den CV LV (evCode TV 7 (m7 2 (Int.tmod a 9)) (k7 a b)) := by kernel_rfl
theorem f7_00 (a b : Int) : ((den CV LV (evCode TV 7 (.seq (m7 0 0) (z7 0)) (k7 a b))).bind fun x => den CV LV (finR TV Try.f7 x)).map Prod.fst = some (.bool true) := by kernel_rfl
theorem f7_01 (a b : Int) : ((den CV LV (evCode TV 7 (.seq (m7 0 1) (z7 0)) (k7 a b))).bind fun x => den CV LV (finR TV Try.f7 x)).map Prod.fst = some (.bool true) := by kernel_rfl
theorem f7_02 (a b : Int) : ((den CV LV (evCode TV 7 (.seq (m7 0 2) (z7 0)) (k7 a b))).bind fun x => den CV LV (finR TV Try.f7 x)).map Prod.fst = some (.bool true) := by kernel_rfl
theorem f7_03 (a b : Int) : ((den CV LV (evCode TV 7 (.seq (m7 0 3) (z7 0)) (k7 a b))).bind fun x => den CV LV (finR TV Try.f7 x)).map Prod.fst = some (.bool true) := by kernel_rfl
theorem f7_04 (a b : Int) : ((den CV LV (evCode TV 7 (.seq (m7 0 4) (z7 0)) (k7 a b))).bind fun x => den CV LV (finR TV Try.f7 x)).map Prod.fst = some (.bool true) := by kernel_rfl
theorem f7_05 (a b : Int) : ((den CV LV (evCode TV 7 (.seq (m7 0 5) (z7 0)) (k7 a b))).bind fun x => den CV LV (finR TV Try.f7 x)).map Prod.fst = some (.bool true) := by kernel_rfl
theorem f7_06 (a b : Int) : ((den CV LV (evCode TV 7 (.seq (m7 0 6) (z7 0)) (k7 a b))).bind fun x => den CV LV (finR TV Try.f7 x)).map Prod.fst = some (.bool true) := by kernel_rfl
theorem f7_07 (a b : Int) : ((den CV LV (evCode TV 7 (.seq (m7 0 7) (z7 0)) (k7 a b))).bind fun x => den CV LV (finR TV Try.f7 x)).map Prod.fst = some (.bool true) := by kernel_rfl
theorem f7_08 (a b : Int) : ((den CV LV (evCode TV 7 (.seq (m7 0 8) (z7 0)) (k7 a b))).bind fun x => den CV LV (finR TV Try.f7 x)).map Prod.fst = some (.bool true) := by kernel_rfl
theorem f7_10 (a b : Int) : ((den CV LV (evCode TV 7 (.seq (m7 1 0) (z7 1)) (k7 a b))).bind fun x => den CV LV (finR TV Try.f7 x)).map Prod.fst = some (.bool true) := by kernel_rfl
theorem f7_11 (a b : Int) : ((den CV LV (evCode TV 7 (.seq (m7 1 1) (z7 1)) (k7 a b))).bind fun x => den CV LV (finR TV Try.f7 x)).map Prod.fst = some (.bool true) := by kernel_rfl
theorem f7_12 (a b : Int) : ((den CV LV (evCode TV 7 (.seq (m7 1 2) (z7 1)) (k7 a b))).bind fun x => den CV LV (finR TV Try.f7 x)).map Prod.fst = some (.bool true) := by kernel_rfl
theorem f7_13 (a b : Int) : ((den CV LV (evCode TV 7 (.seq (m7 1 3) (z7 1)) (k7 a b))).bind fun x => den CV LV (finR TV Try.f7 x)).map Prod.fst = some (.bool true) := by kernel_rfl
theorem f7_14 (a b : Int) : ((den CV LV (evCode TV 7 (.seq (m7 1 4) (z7 1)) (k7 a b))).bind fun x => den CV LV (finR TV Try.f7 x)).map Prod.fst = some (.bool true) := by kernel_rfl
theorem f7_15 (a b : Int) : ((den CV LV (evCode TV 7 (.seq (m7 1 5) (z7 1)) (k7 a b))).bind fun x => den CV LV (finR TV Try.f7 x)).map Prod.fst = some (.bool true) := by kernel_rfl
theorem f7_16 (a b : Int) : ((den CV LV (evCode TV 7 (.seq (m7 1 6) (z7 1)) (k7 a b))).bind fun x => den CV LV (finR TV Try.f7 x)).map Prod.fst = some (.bool true) := by kernel_rfl
theorem f7_17 (a b : Int) : ((den CV LV (evCode TV 7 (.seq (m7 1 7) (z7 1)) (k7 a b))).bind fun x => den CV LV (finR TV Try.f7 x)).map Prod.fst = some (.bool true) := by kernel_rfl
theorem f7_18 (a b : Int) : ((den CV LV (evCode TV 7 (.seq (m7 1 8) (z7 1)) (k7 a b))).bind fun x => den CV LV (finR TV Try.f7 x)).map Prod.fst = some (.bool true) := by kernel_rfl
theorem f7_20 (a b : Int) : ((den CV LV (evCode TV 7 (.seq (m7 2 0) (z7 2)) (k7 a b))).bind fun x => den CV LV (finR TV Try.f7 x)).map Prod.fst = some (.bool true) := by kernel_rfl
theorem f7_21 (a b : Int) : ((den CV LV (evCode TV 7 (.seq (m7 2 1) (z7 2)) (k7 a b))).bind fun x => den CV LV (finR TV Try.f7 x)).map Prod.fst = some (.bool true) := by kernel_rfl
theorem f7_22 (a b : Int) : ((den CV LV (evCode TV 7 (.seq (m7 2 2) (z7 2)) (k7 a b))).bind fun x => den CV LV (finR TV Try.f7 x)).map Prod.fst = some (.bool true) := by kernel_rfl
theorem f7_23 (a b : Int) : ((den CV LV (evCode TV 7 (.seq (m7 2 3) (z7 2)) (k7 a b))).bind fun x => den CV LV (finR TV Try.f7 x)).map Prod.fst = some (.bool true) := by kernel_rfl
theorem f7_24 (a b : Int) : ((den CV LV (evCode TV 7 (.seq (m7 2 4) (z7 2)) (k7 a b))).bind fun x => den CV LV (finR TV Try.f7 x)).map Prod.fst = some (.bool true) := by kernel_rfl
theorem f7_25 (a b : Int) : ((den CV LV (evCode TV 7 (.seq (m7 2 5) (z7 2)) (k7 a b))).bind fun x => den CV LV (finR TV Try.f7 x)).map Prod.fst = some (.bool true) := by kernel_rfl
theorem f7_26 (a b : Int) : ((den CV LV (evCode TV 7 (.seq (m7 2 6) (z7 2)) (k7 a b))).bind fun x => den CV LV (finR TV Try.f7 x)).map Prod.fst = some (.bool true) := by kernel_rfl
theorem f7_27 (a b : Int) : ((den CV LV (evCode TV 7 (.seq (m7 2 7) (z7 2)) (k7 a b))).bind fun x => den CV LV (finR TV Try.f7 x)).map Prod.fst = some (.bool true) := by kernel_rfl
theorem f7_28 (a b : Int) : ((den CV LV (evCode TV 7 (.seq (m7 2 8) (z7 2)) (k7 a b))).bind fun x => den CV LV (finR TV Try.f7 x)).map Prod.fst = some (.bool true) := by kernel_rfl
end Go.Ab
