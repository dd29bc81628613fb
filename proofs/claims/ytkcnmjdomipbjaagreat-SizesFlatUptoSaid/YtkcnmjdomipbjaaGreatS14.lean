import Derived.Test.YtkcnmjdomipbjaaGreatS5
set_option linter.unusedVariables false
set_option maxHeartbeats 100000000
set_option maxRecDepth 100000
namespace Go.Proofs.YtkcnmjdomipbjaaGreat
open Go.RowKit
theorem refAllowed_any (s : ByteArray) (w : World) :
  Calls Tryz.prog 126 #[.string s] w fun e w' => e = .returned (.bool (allowedL s.data.toList)) /\ w = w' := by
 go_enter Tryz.func126, Tryz.ntmps126
 go_wp2
 all_goals go_ret
 all_goals (refine ⟨ret_bool ?_, rfl⟩; simp [allowedL, sHttp, sHttps, sMailto, <- ByteArray.toList_eq, *])
end Go.Proofs.YtkcnmjdomipbjaaGreat
