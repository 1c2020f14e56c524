/- The closed facts of DiffFolds' row. -/
import Derived.Test.YtmekbgeknkknfaaRows
import Derived.ProofKit
namespace Go.Proofs.Ytmekbgeknkknfaa
theorem and_tt {a b : Bool} (ha : a = true) (hb : b = true) : (a && b) = true := by rw [ha, hb]; rfl
set_option maxHeartbeats 100000000 in
theorem closed3 : joinedFacts Try.prog 3 Try.f3 Rows.diffFoldsSpec Rows.diffFoldsRow = true := by
  unfold joinedFacts
  repeat' with_reducible apply and_tt
  all_goals (as_aux_lemma => kernel_rfl)
end Go.Proofs.Ytmekbgeknkknfaa
