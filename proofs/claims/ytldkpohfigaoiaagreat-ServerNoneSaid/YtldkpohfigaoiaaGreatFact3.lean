/- The row's closed facts, all together. -/
import Derived.Test.YtldkpohfigaoiaaGreatFact2
set_option maxRecDepth 100000
namespace Go.Proofs.YtldkpohfigaoiaaGreat
open Go
theorem facts3 : joinedFacts Tryz.prog 3 Tryz.f3 Rows.serverNoneSpec Rows.serverNoneRow = true := by
  unfold joinedFacts
  simp only [Bool.and_eq_true]
  repeat' apply And.intro
  all_goals first
    | (rw [inPlace3]; kernel_rfl; done)
    | (rw [unfollowed3]; kernel_rfl; done)
    | (rw [recurses3]; kernel_rfl; done)
    | (rw [varsNamed3]; kernel_rfl; done)
    | kernel_rfl
end Go.Proofs.YtldkpohfigaoiaaGreat
