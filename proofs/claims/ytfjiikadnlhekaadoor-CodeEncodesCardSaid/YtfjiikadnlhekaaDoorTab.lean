/-
  What is proved: winnowref15.row answers the row of a name and none to four kinds; Table answers a list of 42 rows; they only make memory. Conditions: the kinds lie in the slice's cells.
-/
import Derived.Test.YtfjiikadnlhekaaDoorRows
import Derived.WalkKit
import Derived.ProofKit
import Derived.Lib.Hide
import Derived.Great.Walk
namespace Go.Proofs.YtfjiikadnlhekaaDoor
open Go.RowKit
set_option maxHeartbeats 400000 in
theorem row_0 (s : ByteArray) (w0 w : World) (hbel : Below w0.heap.size w0 w) :
    Calls Tryd.prog 72 #[.string s, (.slice none 0 0)] w fun e w' => e = .returned (.agg #[.string s, .int .i64 0, .int .i64 0, .int .i64 0, .int .i64 0]) ∧ Below w0.heap.size w0 w' := by
  go_enter Tryd.func72, Tryd.ntmps72
  go_wp2
  refine wp_loop_rounds 1 ?_
  rw [rounds_succ]
  go_wp2
  refine bodyPost_ret (v := _) (by simp [results, Tryd.results72, go_sem]) rfl ⟨rfl, ?_⟩
  exact (hbel.alloc hbel.size _).alloc (by have := hbel.size; simp; omega) _
set_option maxHeartbeats 400000 in
theorem row_1 (s : ByteArray) (a : Int) (k : Nat) (w0 w : World) (hbel : Below w0.heap.size w0 w) (hlt : k < w.heap.size) (h0 : w.cell? ⟨k, 0, none⟩ = some (.int .i64 a)) :
    Calls Tryd.prog 72 #[.string s, (.slice (some ⟨k, 0, none⟩) 1 1)] w fun e w' => e = .returned (.agg #[.string s, .int .i64 a, .int .i64 0, .int .i64 0, .int .i64 0]) ∧ Below w0.heap.size w0 w' := by
  go_enter Tryd.func72, Tryd.ntmps72
  go_wp2
  refine wp_loop_rounds 2 ?_
  rw [rounds_succ]
  go_wp2
  rw [rounds_succ]
  go_wp2
  refine bodyPost_ret (v := _) (by simp [results, Tryd.results72, go_sem]) rfl ⟨rfl, ?_⟩
  exact (hbel.alloc hbel.size _).alloc (by have := hbel.size; simp; omega) _
set_option maxHeartbeats 400000 in
theorem row_2 (s : ByteArray) (a b : Int) (k : Nat) (w0 w : World) (hbel : Below w0.heap.size w0 w) (hlt : k < w.heap.size) (h0 : w.cell? ⟨k, 0, none⟩ = some (.int .i64 a)) (h1 : w.cell? ⟨k, 1, none⟩ = some (.int .i64 b)) :
    Calls Tryd.prog 72 #[.string s, (.slice (some ⟨k, 0, none⟩) 2 2)] w fun e w' => e = .returned (.agg #[.string s, .int .i64 a, .int .i64 b, .int .i64 0, .int .i64 0]) ∧ Below w0.heap.size w0 w' := by
  go_enter Tryd.func72, Tryd.ntmps72
  go_wp2
  refine wp_loop_rounds 3 ?_
  rw [rounds_succ]
  go_wp2
  rw [rounds_succ]
  go_wp2
  rw [rounds_succ]
  go_wp2
  refine bodyPost_ret (v := _) (by simp [results, Tryd.results72, go_sem]) rfl ⟨rfl, ?_⟩
  exact (hbel.alloc hbel.size _).alloc (by have := hbel.size; simp; omega) _
set_option maxHeartbeats 400000 in
theorem row_3 (s : ByteArray) (a b c : Int) (k : Nat) (w0 w : World) (hbel : Below w0.heap.size w0 w) (hlt : k < w.heap.size) (h0 : w.cell? ⟨k, 0, none⟩ = some (.int .i64 a)) (h1 : w.cell? ⟨k, 1, none⟩ = some (.int .i64 b)) (h2 : w.cell? ⟨k, 2, none⟩ = some (.int .i64 c)) :
    Calls Tryd.prog 72 #[.string s, (.slice (some ⟨k, 0, none⟩) 3 3)] w fun e w' => e = .returned (.agg #[.string s, .int .i64 a, .int .i64 b, .int .i64 c, .int .i64 0]) ∧ Below w0.heap.size w0 w' := by
  go_enter Tryd.func72, Tryd.ntmps72
  go_wp2
  refine wp_loop_rounds 4 ?_
  rw [rounds_succ]
  go_wp2
  rw [rounds_succ]
  go_wp2
  rw [rounds_succ]
  go_wp2
  rw [rounds_succ]
  go_wp2
  refine bodyPost_ret (v := _) (by simp [results, Tryd.results72, go_sem]) rfl ⟨rfl, ?_⟩
  exact (hbel.alloc hbel.size _).alloc (by have := hbel.size; simp; omega) _
set_option maxHeartbeats 400000 in
theorem row_4 (s : ByteArray) (a b c d : Int) (k : Nat) (w0 w : World) (hbel : Below w0.heap.size w0 w) (hlt : k < w.heap.size) (h0 : w.cell? ⟨k, 0, none⟩ = some (.int .i64 a)) (h1 : w.cell? ⟨k, 1, none⟩ = some (.int .i64 b)) (h2 : w.cell? ⟨k, 2, none⟩ = some (.int .i64 c)) (h3 : w.cell? ⟨k, 3, none⟩ = some (.int .i64 d)) :
    Calls Tryd.prog 72 #[.string s, (.slice (some ⟨k, 0, none⟩) 4 4)] w fun e w' => e = .returned (.agg #[.string s, .int .i64 a, .int .i64 b, .int .i64 c, .int .i64 d]) ∧ Below w0.heap.size w0 w' := by
  go_enter Tryd.func72, Tryd.ntmps72
  go_wp2
  refine wp_loop_rounds 5 ?_
  rw [rounds_succ]
  go_wp2
  rw [rounds_succ]
  go_wp2
  rw [rounds_succ]
  go_wp2
  rw [rounds_succ]
  go_wp2
  rw [rounds_succ]
  go_wp2
  refine bodyPost_ret (v := _) (by simp [results, Tryd.results72, go_sem]) rfl ⟨rfl, ?_⟩
  exact (hbel.alloc hbel.size _).alloc (by have := hbel.size; simp; omega) _
/-- What the table's array holds: of each row its name and the kinds of its four operands. -/
def tableRows : List (List UInt8 × List Int) := [([101, 110, 100], [0, 0, 0, 0]), ([110, 117, 109], [5, 0, 0, 0]), ([98, 111, 111, 108], [6, 0, 0, 0]), ([118, 97, 114], [2, 0, 0, 0]), ([108, 101, 110], [1, 0, 0, 0]), ([99, 97, 112], [1, 0, 0, 0]), ([115, 105, 122, 101], [0, 0, 0, 0]), ([116, 111, 116, 97, 108], [0, 0, 0, 0]), ([97, 116], [1, 0, 0, 0]), ([116, 97, 103, 120], [3, 0, 0, 0]), ([116, 97, 103, 101, 110, 100], [1, 4, 3, 0]), ([109, 105, 110], [0, 0, 0, 0]), ([109, 97, 120], [0, 0, 0, 0]), ([110, 101, 103], [0, 0, 0, 0]), ([110, 111, 116], [0, 0, 0, 0]), ([109, 117, 108], [0, 0, 0, 0]), ([100, 105, 118], [0, 0, 0, 0]), ([97, 100, 100], [0, 0, 0, 0]), ([115, 117, 98], [0, 0, 0, 0]), ([101, 113], [0, 0, 0, 0]), ([108, 116], [0, 0, 0, 0]), ([108, 101], [0, 0, 0, 0]), ([106, 117, 109, 112], [8, 0, 0, 0]), ([101, 108, 115, 101], [8, 0, 0, 0]), ([108, 111, 111, 112], [7, 0, 0, 0]), ([116, 117, 114, 110], [8, 0, 0, 0]), ([113, 117, 105, 116], [8, 0, 0, 0]), ([97, 103, 97, 105, 110], [8, 0, 0, 0]), ([115, 101, 116], [2, 0, 0, 0]), ([109, 97, 114, 107, 120], [3, 0, 0, 0]), ([109, 97, 114, 107, 101, 110, 100], [1, 4, 3, 0]), ([105, 110, 115, 101, 114, 116], [1, 4, 0, 0]), ([109, 111, 118, 101], [1, 4, 0, 0]), ([102, 111, 114, 103, 101, 116], [0, 0, 0, 0]), ([116, 97, 107, 101], [1, 4, 0, 0]), ([103, 105, 118, 101], [1, 4, 0, 0]), ([116, 101, 108, 108], [0, 0, 0, 0]), ([108, 111, 111, 115, 101], [0, 0, 0, 0]), ([115, 104, 105, 102, 116], [1, 4, 1, 4]), ([115, 112, 105, 108, 108], [1, 4, 1, 4]), ([101, 118, 105, 99, 116], [1, 4, 0, 0]), ([100, 114, 111, 112], [1, 4, 0, 0])]
def tableCells : Array Value := #[.string ⟨#[101, 110, 100]⟩, .int .i64 0, .int .i64 0, .int .i64 0, .int .i64 0, .string ⟨#[110, 117, 109]⟩, .int .i64 5, .int .i64 0, .int .i64 0, .int .i64 0, .string ⟨#[98, 111, 111, 108]⟩, .int .i64 6, .int .i64 0, .int .i64 0, .int .i64 0, .string ⟨#[118, 97, 114]⟩, .int .i64 2, .int .i64 0, .int .i64 0, .int .i64 0, .string ⟨#[108, 101, 110]⟩, .int .i64 1, .int .i64 0, .int .i64 0, .int .i64 0, .string ⟨#[99, 97, 112]⟩, .int .i64 1, .int .i64 0, .int .i64 0, .int .i64 0, .string ⟨#[115, 105, 122, 101]⟩, .int .i64 0, .int .i64 0, .int .i64 0, .int .i64 0, .string ⟨#[116, 111, 116, 97, 108]⟩, .int .i64 0, .int .i64 0, .int .i64 0, .int .i64 0, .string ⟨#[97, 116]⟩, .int .i64 1, .int .i64 0, .int .i64 0, .int .i64 0, .string ⟨#[116, 97, 103, 120]⟩, .int .i64 3, .int .i64 0, .int .i64 0, .int .i64 0, .string ⟨#[116, 97, 103, 101, 110, 100]⟩, .int .i64 1, .int .i64 4, .int .i64 3, .int .i64 0, .string ⟨#[109, 105, 110]⟩, .int .i64 0, .int .i64 0, .int .i64 0, .int .i64 0, .string ⟨#[109, 97, 120]⟩, .int .i64 0, .int .i64 0, .int .i64 0, .int .i64 0, .string ⟨#[110, 101, 103]⟩, .int .i64 0, .int .i64 0, .int .i64 0, .int .i64 0, .string ⟨#[110, 111, 116]⟩, .int .i64 0, .int .i64 0, .int .i64 0, .int .i64 0, .string ⟨#[109, 117, 108]⟩, .int .i64 0, .int .i64 0, .int .i64 0, .int .i64 0, .string ⟨#[100, 105, 118]⟩, .int .i64 0, .int .i64 0, .int .i64 0, .int .i64 0, .string ⟨#[97, 100, 100]⟩, .int .i64 0, .int .i64 0, .int .i64 0, .int .i64 0, .string ⟨#[115, 117, 98]⟩, .int .i64 0, .int .i64 0, .int .i64 0, .int .i64 0, .string ⟨#[101, 113]⟩, .int .i64 0, .int .i64 0, .int .i64 0, .int .i64 0, .string ⟨#[108, 116]⟩, .int .i64 0, .int .i64 0, .int .i64 0, .int .i64 0, .string ⟨#[108, 101]⟩, .int .i64 0, .int .i64 0, .int .i64 0, .int .i64 0, .string ⟨#[106, 117, 109, 112]⟩, .int .i64 8, .int .i64 0, .int .i64 0, .int .i64 0, .string ⟨#[101, 108, 115, 101]⟩, .int .i64 8, .int .i64 0, .int .i64 0, .int .i64 0, .string ⟨#[108, 111, 111, 112]⟩, .int .i64 7, .int .i64 0, .int .i64 0, .int .i64 0, .string ⟨#[116, 117, 114, 110]⟩, .int .i64 8, .int .i64 0, .int .i64 0, .int .i64 0, .string ⟨#[113, 117, 105, 116]⟩, .int .i64 8, .int .i64 0, .int .i64 0, .int .i64 0, .string ⟨#[97, 103, 97, 105, 110]⟩, .int .i64 8, .int .i64 0, .int .i64 0, .int .i64 0, .string ⟨#[115, 101, 116]⟩, .int .i64 2, .int .i64 0, .int .i64 0, .int .i64 0, .string ⟨#[109, 97, 114, 107, 120]⟩, .int .i64 3, .int .i64 0, .int .i64 0, .int .i64 0, .string ⟨#[109, 97, 114, 107, 101, 110, 100]⟩, .int .i64 1, .int .i64 4, .int .i64 3, .int .i64 0, .string ⟨#[105, 110, 115, 101, 114, 116]⟩, .int .i64 1, .int .i64 4, .int .i64 0, .int .i64 0, .string ⟨#[109, 111, 118, 101]⟩, .int .i64 1, .int .i64 4, .int .i64 0, .int .i64 0, .string ⟨#[102, 111, 114, 103, 101, 116]⟩, .int .i64 0, .int .i64 0, .int .i64 0, .int .i64 0, .string ⟨#[116, 97, 107, 101]⟩, .int .i64 1, .int .i64 4, .int .i64 0, .int .i64 0, .string ⟨#[103, 105, 118, 101]⟩, .int .i64 1, .int .i64 4, .int .i64 0, .int .i64 0, .string ⟨#[116, 101, 108, 108]⟩, .int .i64 0, .int .i64 0, .int .i64 0, .int .i64 0, .string ⟨#[108, 111, 111, 115, 101]⟩, .int .i64 0, .int .i64 0, .int .i64 0, .int .i64 0, .string ⟨#[115, 104, 105, 102, 116]⟩, .int .i64 1, .int .i64 4, .int .i64 1, .int .i64 4, .string ⟨#[115, 112, 105, 108, 108]⟩, .int .i64 1, .int .i64 4, .int .i64 1, .int .i64 4, .string ⟨#[101, 118, 105, 99, 116]⟩, .int .i64 1, .int .i64 4, .int .i64 0, .int .i64 0, .string ⟨#[100, 114, 111, 112]⟩, .int .i64 1, .int .i64 4, .int .i64 0, .int .i64 0]
set_option maxHeartbeats 4000000 in
set_option maxRecDepth 1000000 in
theorem table_any (w : World) :
    Calls Tryd.prog 43 #[] w fun e w' => ∃ g, e = .returned (.slice (some ⟨g, 0, none⟩) 42 42) ∧ w.heap.size ≤ g ∧ w'.heap[g]? = some (.cells tableCells 96 (0, 0)) ∧ Below w.heap.size w w' := by
  have b0 : Below w.heap.size w w := Below.refl _ _
  obtain ⟨w0, hw0⟩ : ∃ w0 : World, w0 = w := ⟨w, rfl⟩
  have H0 : Hid (w0 = w) := hw0
  have c0 : Below w0.heap.size w0 w := by rw [hw0]; exact b0
  clear hw0 b0
  go_enter Tryd.func43, Tryd.ntmps43
  go_wp2_with fail
  refine (row_0 _ w0 _ c0).mono ?_
  rintro e w1 ⟨rfl, c1⟩
  clear c0
  go_wp2_with fail
  refine (row_1 _ 5 _ w0 _ (c1.alloc c1.size _) ?_ ?_).mono ?_
  · simp
  · simp
  rintro e w2 ⟨rfl, c2⟩
  clear c1
  go_wp2_with fail
  refine (row_1 _ 6 _ w0 _ (c2.alloc c2.size _) ?_ ?_).mono ?_
  · simp
  · simp
  rintro e w3 ⟨rfl, c3⟩
  clear c2
  go_wp2_with fail
  refine (row_1 _ 2 _ w0 _ (c3.alloc c3.size _) ?_ ?_).mono ?_
  · simp
  · simp
  rintro e w4 ⟨rfl, c4⟩
  clear c3
  go_wp2_with fail
  refine (row_1 _ 1 _ w0 _ (c4.alloc c4.size _) ?_ ?_).mono ?_
  · simp
  · simp
  rintro e w5 ⟨rfl, c5⟩
  clear c4
  go_wp2_with fail
  refine (row_1 _ 1 _ w0 _ (c5.alloc c5.size _) ?_ ?_).mono ?_
  · simp
  · simp
  rintro e w6 ⟨rfl, c6⟩
  clear c5
  go_wp2_with fail
  refine (row_0 _ w0 _ c6).mono ?_
  rintro e w7 ⟨rfl, c7⟩
  clear c6
  go_wp2_with fail
  refine (row_0 _ w0 _ c7).mono ?_
  rintro e w8 ⟨rfl, c8⟩
  clear c7
  go_wp2_with fail
  refine (row_1 _ 1 _ w0 _ (c8.alloc c8.size _) ?_ ?_).mono ?_
  · simp
  · simp
  rintro e w9 ⟨rfl, c9⟩
  clear c8
  go_wp2_with fail
  refine (row_1 _ 3 _ w0 _ (c9.alloc c9.size _) ?_ ?_).mono ?_
  · simp
  · simp
  rintro e w10 ⟨rfl, c10⟩
  clear c9
  go_wp2_with fail
  refine (row_3 _ 1 4 3 _ w0 _ (c10.alloc c10.size _) ?_ ?_ ?_ ?_).mono ?_
  · simp
  · simp
  · simp
  · simp
  rintro e w11 ⟨rfl, c11⟩
  clear c10
  go_wp2_with fail
  refine (row_0 _ w0 _ c11).mono ?_
  rintro e w12 ⟨rfl, c12⟩
  clear c11
  go_wp2_with fail
  refine (row_0 _ w0 _ c12).mono ?_
  rintro e w13 ⟨rfl, c13⟩
  clear c12
  go_wp2_with fail
  refine (row_0 _ w0 _ c13).mono ?_
  rintro e w14 ⟨rfl, c14⟩
  clear c13
  go_wp2_with fail
  refine (row_0 _ w0 _ c14).mono ?_
  rintro e w15 ⟨rfl, c15⟩
  clear c14
  go_wp2_with fail
  refine (row_0 _ w0 _ c15).mono ?_
  rintro e w16 ⟨rfl, c16⟩
  clear c15
  go_wp2_with fail
  refine (row_0 _ w0 _ c16).mono ?_
  rintro e w17 ⟨rfl, c17⟩
  clear c16
  go_wp2_with fail
  refine (row_0 _ w0 _ c17).mono ?_
  rintro e w18 ⟨rfl, c18⟩
  clear c17
  go_wp2_with fail
  refine (row_0 _ w0 _ c18).mono ?_
  rintro e w19 ⟨rfl, c19⟩
  clear c18
  go_wp2_with fail
  refine (row_0 _ w0 _ c19).mono ?_
  rintro e w20 ⟨rfl, c20⟩
  clear c19
  go_wp2_with fail
  refine (row_0 _ w0 _ c20).mono ?_
  rintro e w21 ⟨rfl, c21⟩
  clear c20
  go_wp2_with fail
  refine (row_0 _ w0 _ c21).mono ?_
  rintro e w22 ⟨rfl, c22⟩
  clear c21
  go_wp2_with fail
  refine (row_1 _ 8 _ w0 _ (c22.alloc c22.size _) ?_ ?_).mono ?_
  · simp
  · simp
  rintro e w23 ⟨rfl, c23⟩
  clear c22
  go_wp2_with fail
  refine (row_1 _ 8 _ w0 _ (c23.alloc c23.size _) ?_ ?_).mono ?_
  · simp
  · simp
  rintro e w24 ⟨rfl, c24⟩
  clear c23
  go_wp2_with fail
  refine (row_1 _ 7 _ w0 _ (c24.alloc c24.size _) ?_ ?_).mono ?_
  · simp
  · simp
  rintro e w25 ⟨rfl, c25⟩
  clear c24
  go_wp2_with fail
  refine (row_1 _ 8 _ w0 _ (c25.alloc c25.size _) ?_ ?_).mono ?_
  · simp
  · simp
  rintro e w26 ⟨rfl, c26⟩
  clear c25
  go_wp2_with fail
  refine (row_1 _ 8 _ w0 _ (c26.alloc c26.size _) ?_ ?_).mono ?_
  · simp
  · simp
  rintro e w27 ⟨rfl, c27⟩
  clear c26
  go_wp2_with fail
  refine (row_1 _ 8 _ w0 _ (c27.alloc c27.size _) ?_ ?_).mono ?_
  · simp
  · simp
  rintro e w28 ⟨rfl, c28⟩
  clear c27
  go_wp2_with fail
  refine (row_1 _ 2 _ w0 _ (c28.alloc c28.size _) ?_ ?_).mono ?_
  · simp
  · simp
  rintro e w29 ⟨rfl, c29⟩
  clear c28
  go_wp2_with fail
  refine (row_1 _ 3 _ w0 _ (c29.alloc c29.size _) ?_ ?_).mono ?_
  · simp
  · simp
  rintro e w30 ⟨rfl, c30⟩
  clear c29
  go_wp2_with fail
  refine (row_3 _ 1 4 3 _ w0 _ (c30.alloc c30.size _) ?_ ?_ ?_ ?_).mono ?_
  · simp
  · simp
  · simp
  · simp
  rintro e w31 ⟨rfl, c31⟩
  clear c30
  go_wp2_with fail
  refine (row_2 _ 1 4 _ w0 _ (c31.alloc c31.size _) ?_ ?_ ?_).mono ?_
  · simp
  · simp
  · simp
  rintro e w32 ⟨rfl, c32⟩
  clear c31
  go_wp2_with fail
  refine (row_2 _ 1 4 _ w0 _ (c32.alloc c32.size _) ?_ ?_ ?_).mono ?_
  · simp
  · simp
  · simp
  rintro e w33 ⟨rfl, c33⟩
  clear c32
  go_wp2_with fail
  refine (row_0 _ w0 _ c33).mono ?_
  rintro e w34 ⟨rfl, c34⟩
  clear c33
  go_wp2_with fail
  refine (row_2 _ 1 4 _ w0 _ (c34.alloc c34.size _) ?_ ?_ ?_).mono ?_
  · simp
  · simp
  · simp
  rintro e w35 ⟨rfl, c35⟩
  clear c34
  go_wp2_with fail
  refine (row_2 _ 1 4 _ w0 _ (c35.alloc c35.size _) ?_ ?_ ?_).mono ?_
  · simp
  · simp
  · simp
  rintro e w36 ⟨rfl, c36⟩
  clear c35
  go_wp2_with fail
  refine (row_0 _ w0 _ c36).mono ?_
  rintro e w37 ⟨rfl, c37⟩
  clear c36
  go_wp2_with fail
  refine (row_0 _ w0 _ c37).mono ?_
  rintro e w38 ⟨rfl, c38⟩
  clear c37
  go_wp2_with fail
  refine (row_4 _ 1 4 1 4 _ w0 _ (c38.alloc c38.size _) ?_ ?_ ?_ ?_ ?_).mono ?_
  · simp
  · simp
  · simp
  · simp
  · simp
  rintro e w39 ⟨rfl, c39⟩
  clear c38
  go_wp2_with fail
  refine (row_4 _ 1 4 1 4 _ w0 _ (c39.alloc c39.size _) ?_ ?_ ?_ ?_ ?_).mono ?_
  · simp
  · simp
  · simp
  · simp
  · simp
  rintro e w40 ⟨rfl, c40⟩
  clear c39
  go_wp2_with fail
  refine (row_2 _ 1 4 _ w0 _ (c40.alloc c40.size _) ?_ ?_ ?_).mono ?_
  · simp
  · simp
  · simp
  rintro e w41 ⟨rfl, c41⟩
  clear c40
  go_wp2_with fail
  refine (row_2 _ 1 4 _ w0 _ (c41.alloc c41.size _) ?_ ?_ ?_).mono ?_
  · simp
  · simp
  · simp
  rintro e w42 ⟨rfl, c42⟩
  clear c41
  go_wp2_with (refine Great.wpList_buildSliceTo rfl 91 96 42 _ rfl _ rfl _ rfl Tryd.underlying91 tableCells (by kernel_rfl) ?_)
  go_ret
  have he := H0.out
  subst he
  exact ⟨_, rfl, c42.size, (MapKept.heap_alloc w42 _).1, c42.alloc c42.size _⟩
end Go.Proofs.YtfjiikadnlhekaaDoor
