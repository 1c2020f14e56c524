/- The closed facts of ViewWaits's row. -/
import Derived.Test.YtmekbgeknkknfaaRows
import Derived.ProofKit
namespace Go.Proofs.Ytmekbgeknkknfaa
theorem and_tt {a b : Bool} (ha : a = true) (hb : b = true) : (a && b) = true := by rw [ha, hb]; rfl
set_option maxHeartbeats 100000000 in
theorem closed6 : joinedFacts Try.prog 6 Try.f6 Rows.viewWaitsSpec Rows.viewWaitsRow = true := by
  unfold joinedFacts
  repeat' with_reducible apply and_tt
  all_goals (as_aux_lemma => kernel_rfl)
end Go.Proofs.Ytmekbgeknkknfaa
