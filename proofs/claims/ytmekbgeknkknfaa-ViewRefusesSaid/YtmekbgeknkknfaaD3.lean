/- ViewRefuses: what the evaluator says of it, for every input. -/
import Derived.Test.YtmekbgeknkknfaaD2
namespace Go.Ab
open Go.Proofs

section
variable {T : Tab} {C : Nat → List AV → List GB → Option (AV × List GB)} {Lp : Nat → Nat → Code → St → Option (Ex × St)} {fid : Nat}
theorem den_mid (p q r z : Code) (st : St) : den C Lp (evCode T fid (p.seq ((q.seq r).seq z)) st) = den C Lp (evCode T fid ((p.seq q).seq (r.seq z)) st) := by
  rw [den_assoc, den_seq, den_seq]
  congr 1
  funext x
  obtain ⟨e, st1⟩ := x
  cases e <;> first | rfl | exact den_assoc q r z st1
end

theorem x7_seq : x7 = .seq (seqL x7) (seqR x7) := by kernel_rfl
theorem b7_deep : deep 1 b7 = true := by kernel_rfl
theorem r7_deep0 : deep 3 (r7 0) = true := by kernel_rfl
theorem r7_deep1 : deep 3 (r7 1) = true := by kernel_rfl
theorem r7_deep2 : deep 3 (r7 2) = true := by kernel_rfl
theorem q7_seq0 : q7 0 = .seq (.seq (seqL (seqL (q7 0))) (seqR (seqL (q7 0)))) (seqR (q7 0)) := by kernel_rfl
theorem q7_seq1 : q7 1 = .seq (.seq (seqL (seqL (q7 1))) (seqR (seqL (q7 1)))) (seqR (q7 1)) := by kernel_rfl
theorem q7_seq2 : q7 2 = .seq (.seq (seqL (seqL (q7 2))) (seqR (seqL (q7 2)))) (seqR (q7 2)) := by kernel_rfl
theorem fn7 : TV.fn 7 = some Try.f7 := by kernel_rfl
theorem body7 : Try.f7.body = some b7 := by kernel_rfl

theorem e7_y {y : Int} (a b : Int) (hd : deep 3 (r7 y) = true) (hq : q7 y = .seq (.seq (seqL (seqL (q7 y))) (seqR (seqL (q7 y)))) (seqR (q7 y)))
    (hm : den CV LV (evCode TV 7 (.seq (p7 y) (seqL (seqL (q7 y)))) (k7 a b)) = den CV LV (evCode TV 7 (m7 y (Int.tmod a 9)) (k7 a b))) :
    den CV LV (evCode TV 7 (r7 y) (k7 a b)) = den CV LV (evCode TV 7 (.seq (m7 y (Int.tmod a 9)) (z7 y)) (k7 a b)) := by
  have h1 : den CV LV (evCode TV 7 (.seq (p7 y) (q7 y)) (k7 a b)) = den CV LV (evCode TV 7 (.seq (.seq (p7 y) (seqL (seqL (q7 y)))) (z7 y)) (k7 a b)) := by
    generalize hZ : z7 y = Z
    have hZ' : Z = .seq (seqR (seqL (q7 y))) (seqR (q7 y)) := hZ.symm
    rw [hZ', ← den_mid, ← hq]
  have h0 : den CV LV (evCode TV 7 (r7 y) (k7 a b)) = den CV LV (evCode TV 7 (.seq (p7 y) (q7 y)) (k7 a b)) := den_split 3 (r7 y) hd (k7 a b)
  rw [h0, h1]
  exact den_seq_congr hm rfl

theorem e7 (a b : Int) : den CV LV (evCode TV 7 b7 (st0 Try.f7 [.int .u8 a, .int .u8 b] [])) = den CV LV (evCode TV 7 (r7 (Int.tmod b 3)) (k7 a b)) := by
  have h0 := den_split (T := TV) (C := CV) (Lp := LV) (fid := 7) 1 b7 b7_deep (st0 Try.f7 [.int .u8 a, .int .u8 b] [])
  have h1 : den CV LV (evCode TV 7 x7 (k7 a b)) = den CV LV (evCode TV 7 (r7 (Int.tmod b 3)) (k7 a b)) := by
    rw [x7_seq]
    exact den_seq_congr (r7_eq a b) rfl
  exact h0.trans (den_seq_of (k7_known a b) h1)

theorem law7 (a b : Int) (ha : 0 ≤ a) (hb : 0 ≤ b) : (callN TV 100 7 [.int .u8 a, .int .u8 b] []).map Prod.fst = some (.bool true) := by
  rw [callN_eq (n := 99) fn7 body7 (by decide) (by rw [Try.ntmps7]; simp), e7]
  have h1 : 0 ≤ Int.tmod b 3 := Int.tmod_nonneg _ hb
  have h2 : Int.tmod b 3 < 3 := Int.tmod_lt_of_pos _ (by decide)
  have h3 : 0 ≤ Int.tmod a 9 := Int.tmod_nonneg _ ha
  have h4 : Int.tmod a 9 < 9 := Int.tmod_lt_of_pos _ (by decide)
  have hy : Int.tmod b 3 = 0 ∨ Int.tmod b 3 = 1 ∨ Int.tmod b 3 = 2 := by omega
  have hx : Int.tmod a 9 = 0 ∨ Int.tmod a 9 = 1 ∨ Int.tmod a 9 = 2 ∨ Int.tmod a 9 = 3 ∨ Int.tmod a 9 = 4 ∨ Int.tmod a 9 = 5 ∨ Int.tmod a 9 = 6 ∨ Int.tmod a 9 = 7 ∨ Int.tmod a 9 = 8 := by omega
  rcases hy with hy | hy | hy <;> rw [hy]
  · rw [e7_y a b r7_deep0 q7_seq0 (m7_eq0 a b)]
    rcases hx with h | h | h | h | h | h | h | h | h <;> rw [h]
    · exact f7_00 a b
    · exact f7_01 a b
    · exact f7_02 a b
    · exact f7_03 a b
    · exact f7_04 a b
    · exact f7_05 a b
    · exact f7_06 a b
    · exact f7_07 a b
    · exact f7_08 a b
  · rw [e7_y a b r7_deep1 q7_seq1 (m7_eq1 a b)]
    rcases hx with h | h | h | h | h | h | h | h | h <;> rw [h]
    · exact f7_10 a b
    · exact f7_11 a b
    · exact f7_12 a b
    · exact f7_13 a b
    · exact f7_14 a b
    · exact f7_15 a b
    · exact f7_16 a b
    · exact f7_17 a b
    · exact f7_18 a b
  · rw [e7_y a b r7_deep2 q7_seq2 (m7_eq2 a b)]
    rcases hx with h | h | h | h | h | h | h | h | h <;> rw [h]
    · exact f7_20 a b
    · exact f7_21 a b
    · exact f7_22 a b
    · exact f7_23 a b
    · exact f7_24 a b
    · exact f7_25 a b
    · exact f7_26 a b
    · exact f7_27 a b
    · exact f7_28 a b
end Go.Ab
