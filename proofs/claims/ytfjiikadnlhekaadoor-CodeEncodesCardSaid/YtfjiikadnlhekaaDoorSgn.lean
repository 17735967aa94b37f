/-
  What is proved here: the reference's signed: an int as a number. Conditions: the int is near.
-/
import Derived.Test.YtfjiikadnlhekaaDoorMid
namespace Go.Proofs.YtfjiikadnlhekaaDoor
open Go.RowKit

set_option maxHeartbeats 1000000 in
set_option maxRecDepth 100000 in
theorem rsigned_any (n : Int) (h : -4611686018427387904 ≤ n ∧ n ≤ 4611686018427387903) (w : World) :
    Calls Tryd.prog 42 #[.int .i64 n] w fun e w' => e = .returned (.int .u64 (sgn n : Int)) ∧ w' = w := by
  by_cases h0 : n < 0
  · have hg : decide (n < 0) = true := decide_eq_true h0
    have hs : Hid ((sgn n : Int) = 2 * -(n + 1) + 1) := Lib.hid (by unfold sgn; simp only [h0, if_true]; omega)
    have e1 : IntKind.u64.wrap (-(n + 1)) = -(n + 1) := IntWalk.u64_in _ (by omega)
    have e2 : IntKind.u64.wrap (2 * -(n + 1)) = 2 * -(n + 1) := IntWalk.u64_in _ (by omega)
    have e3 : IntKind.u64.wrap (2 * -(n + 1) + 1) = 2 * -(n + 1) + 1 := IntWalk.u64_in _ (by omega)
    go_enter Tryd.func42, Tryd.ntmps42
    go_wp2
    go_ret
    exact ⟨by rw [hs.out]; try rfl, rfl⟩
  · have hg : decide (n < 0) = false := decide_eq_false h0
    have hs : Hid ((sgn n : Int) = 2 * n) := Lib.hid (by unfold sgn; simp only [h0, if_false]; omega)
    have e1 : IntKind.u64.wrap n = n := IntWalk.u64_in _ (by omega)
    have e2 : IntKind.u64.wrap (2 * n) = 2 * n := IntWalk.u64_in _ (by omega)
    go_enter Tryd.func42, Tryd.ntmps42
    go_wp2
    go_ret
    exact ⟨by rw [hs.out]; try rfl, rfl⟩
end Go.Proofs.YtfjiikadnlhekaaDoor
