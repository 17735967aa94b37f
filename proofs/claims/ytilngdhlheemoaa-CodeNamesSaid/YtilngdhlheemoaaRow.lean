/-
  What is proved: winnowref15.row, called with a name and none to four kinds, answers the row of that name with these kinds; it only makes memory. Conditions: the kinds lie in the slice's cells.
-/
import Derived.Test.YtilngdhlheemoaaRows
import Derived.WalkKit
import Derived.ProofKit
namespace Go.Proofs.Ytilngdhlheemoaa
open Go.RowKit
set_option maxHeartbeats 400000 in
theorem row_0 (s : ByteArray) (w0 w : World) (hbel : Below w0.heap.size w0 w) :
    Calls Try.prog 7 #[.string s, (.slice none 0 0)] w fun e w' => e = .returned (.agg #[.string s, .int .i64 0, .int .i64 0, .int .i64 0, .int .i64 0]) ∧ Below w0.heap.size w0 w' := by
  go_enter Try.func7, Try.ntmps7
  go_wp2
  refine wp_loop_rounds 1 ?_
  rw [rounds_succ]
  go_wp2
  refine bodyPost_ret (v := _) (by simp [results, Try.results7, go_sem]) rfl ⟨rfl, ?_⟩
  exact (hbel.alloc hbel.size _).alloc (by have := hbel.size; simp; omega) _
set_option maxHeartbeats 400000 in
theorem row_1 (s : ByteArray) (a : Int) (k : Nat) (w0 w : World) (hbel : Below w0.heap.size w0 w) (hlt : k < w.heap.size) (h0 : w.cell? ⟨k, 0, none⟩ = some (.int .i64 a)) :
    Calls Try.prog 7 #[.string s, (.slice (some ⟨k, 0, none⟩) 1 1)] w fun e w' => e = .returned (.agg #[.string s, .int .i64 a, .int .i64 0, .int .i64 0, .int .i64 0]) ∧ Below w0.heap.size w0 w' := by
  go_enter Try.func7, Try.ntmps7
  go_wp2
  refine wp_loop_rounds 2 ?_
  rw [rounds_succ]
  go_wp2
  rw [rounds_succ]
  go_wp2
  refine bodyPost_ret (v := _) (by simp [results, Try.results7, go_sem]) rfl ⟨rfl, ?_⟩
  exact (hbel.alloc hbel.size _).alloc (by have := hbel.size; simp; omega) _
set_option maxHeartbeats 400000 in
theorem row_2 (s : ByteArray) (a b : Int) (k : Nat) (w0 w : World) (hbel : Below w0.heap.size w0 w) (hlt : k < w.heap.size) (h0 : w.cell? ⟨k, 0, none⟩ = some (.int .i64 a)) (h1 : w.cell? ⟨k, 1, none⟩ = some (.int .i64 b)) :
    Calls Try.prog 7 #[.string s, (.slice (some ⟨k, 0, none⟩) 2 2)] w fun e w' => e = .returned (.agg #[.string s, .int .i64 a, .int .i64 b, .int .i64 0, .int .i64 0]) ∧ Below w0.heap.size w0 w' := by
  go_enter Try.func7, Try.ntmps7
  go_wp2
  refine wp_loop_rounds 3 ?_
  rw [rounds_succ]
  go_wp2
  rw [rounds_succ]
  go_wp2
  rw [rounds_succ]
  go_wp2
  refine bodyPost_ret (v := _) (by simp [results, Try.results7, go_sem]) rfl ⟨rfl, ?_⟩
  exact (hbel.alloc hbel.size _).alloc (by have := hbel.size; simp; omega) _
set_option maxHeartbeats 400000 in
theorem row_3 (s : ByteArray) (a b c : Int) (k : Nat) (w0 w : World) (hbel : Below w0.heap.size w0 w) (hlt : k < w.heap.size) (h0 : w.cell? ⟨k, 0, none⟩ = some (.int .i64 a)) (h1 : w.cell? ⟨k, 1, none⟩ = some (.int .i64 b)) (h2 : w.cell? ⟨k, 2, none⟩ = some (.int .i64 c)) :
    Calls Try.prog 7 #[.string s, (.slice (some ⟨k, 0, none⟩) 3 3)] w fun e w' => e = .returned (.agg #[.string s, .int .i64 a, .int .i64 b, .int .i64 c, .int .i64 0]) ∧ Below w0.heap.size w0 w' := by
  go_enter Try.func7, Try.ntmps7
  go_wp2
  refine wp_loop_rounds 4 ?_
  rw [rounds_succ]
  go_wp2
  rw [rounds_succ]
  go_wp2
  rw [rounds_succ]
  go_wp2
  rw [rounds_succ]
  go_wp2
  refine bodyPost_ret (v := _) (by simp [results, Try.results7, go_sem]) rfl ⟨rfl, ?_⟩
  exact (hbel.alloc hbel.size _).alloc (by have := hbel.size; simp; omega) _
set_option maxHeartbeats 400000 in
theorem row_4 (s : ByteArray) (a b c d : Int) (k : Nat) (w0 w : World) (hbel : Below w0.heap.size w0 w) (hlt : k < w.heap.size) (h0 : w.cell? ⟨k, 0, none⟩ = some (.int .i64 a)) (h1 : w.cell? ⟨k, 1, none⟩ = some (.int .i64 b)) (h2 : w.cell? ⟨k, 2, none⟩ = some (.int .i64 c)) (h3 : w.cell? ⟨k, 3, none⟩ = some (.int .i64 d)) :
    Calls Try.prog 7 #[.string s, (.slice (some ⟨k, 0, none⟩) 4 4)] w fun e w' => e = .returned (.agg #[.string s, .int .i64 a, .int .i64 b, .int .i64 c, .int .i64 d]) ∧ Below w0.heap.size w0 w' := by
  go_enter Try.func7, Try.ntmps7
  go_wp2
  refine wp_loop_rounds 5 ?_
  rw [rounds_succ]
  go_wp2
  rw [rounds_succ]
  go_wp2
  rw [rounds_succ]
  go_wp2
  rw [rounds_succ]
  go_wp2
  rw [rounds_succ]
  go_wp2
  refine bodyPost_ret (v := _) (by simp [results, Try.results7, go_sem]) rfl ⟨rfl, ?_⟩
  exact (hbel.alloc hbel.size _).alloc (by have := hbel.size; simp; omega) _
end Go.Proofs.Ytilngdhlheemoaa
