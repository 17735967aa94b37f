/-
  What is proved here: the law SpanNames answers true. Conditions: the library's variable internal/bytealg.MaxLen holds a number.
-/
import Derived.Test.YtdmdfcdfmedhcaaDoorHead
import Derived.Test.YtdmdfcdfmedhcaaDoorKit
namespace Go.Proofs.YtdmdfcdfmedhcaaDoor
open Go.RowKit

def abBs : List UInt8 := [97, 98]
theorem ab_at (w : World) : BAt (w.alloc (.cells #[.int .u8 97, .int .u8 98] 5 (2, 3))) (some ⟨w.heap.size, 0, none⟩) abBs := by
  intro i c hc
  refine ⟨_, rfl, ?_⟩
  have e : (⟨w.heap.size, 0, none⟩ : Addr).add i = ⟨w.heap.size, i, none⟩ := by
    unfold Addr.add
    split
    · rename_i h0; subst h0; rfl
    · simp
  have hb : (w.alloc (.cells #[.int .u8 97, .int .u8 98] 5 (2, 3))).heap[w.heap.size]? = some (.cells #[.int .u8 97, .int .u8 98] 5 (2, 3)) := (MapKept.heap_alloc w _).1
  rw [e]
  simp only [World.cell?, hb]
  match i, hc with
  | 0, hc => cases hc; rfl
  | 1, hc => cases hc; rfl
  | i + 2, hc => simp [abBs] at hc
theorem ab_spot : rSpot abBs 1 = (1, 2, 0) := by kernel_rfl

set_option maxHeartbeats 400000 in
set_option maxRecDepth 100000 in
theorem word_token (w : World) : Calls Tryd.prog 42 #[.int .i64 21] w fun e w' => e = .returned (.string ⟨#[116, 111, 107, 101, 110]⟩) ∧ w = w' := by
  go_enter Tryd.func42, Tryd.ntmps42
  go_wp2
  go_ret
  exact ⟨rfl, rfl⟩

set_option maxHeartbeats 400000 in
set_option maxRecDepth 100000 in
theorem err_token (w : World) : Calls Tryd.prog 31 #[.int .i64 21] w fun e w' => e = .returned (.string ⟨#[116, 111, 107, 101, 110]⟩) ∧ w = w' := by
  go_enter Tryd.func31, Tryd.ntmps31
  go_wp2_with (go_at_call 42; refine (word_token _).mono ?_; rintro e w' ⟨rfl, rfl⟩)
  go_ret
  exact ⟨rfl, rfl⟩

set_option maxHeartbeats 400000 in
set_option maxRecDepth 100000 in
theorem word_arg (w : World) : Calls Tryd.prog 42 #[.int .i64 1] w fun e w' => e = .returned (.string ⟨#[97, 114, 103]⟩) ∧ w = w' := by
  go_enter Tryd.func42, Tryd.ntmps42
  go_wp2
  go_ret
  exact ⟨rfl, rfl⟩

set_option maxHeartbeats 400000 in
set_option maxRecDepth 100000 in
theorem err_arg (w : World) : Calls Tryd.prog 31 #[.int .i64 1] w fun e w' => e = .returned (.string ⟨#[97, 114, 103]⟩) ∧ w = w' := by
  go_enter Tryd.func31, Tryd.ntmps31
  go_wp2_with (go_at_call 42; refine (word_arg _).mono ?_; rintro e w' ⟨rfl, rfl⟩)
  go_ret
  exact ⟨rfl, rfl⟩

set_option maxHeartbeats 400000 in
set_option maxRecDepth 100000 in
theorem word_caps (w : World) : Calls Tryd.prog 43 #[.int .i64 45] w fun e w' => e = .returned (.string ⟨#[99, 97, 112, 115]⟩) ∧ w = w' := by
  go_enter Tryd.func43, Tryd.ntmps43
  go_wp2
  go_ret
  exact ⟨rfl, rfl⟩

set_option maxHeartbeats 400000 in
set_option maxRecDepth 100000 in
theorem err_caps (w : World) : Calls Tryd.prog 31 #[.int .i64 45] w fun e w' => e = .returned (.string ⟨#[99, 97, 112, 115]⟩) ∧ w = w' := by
  go_enter Tryd.func31, Tryd.ntmps31
  go_wp2_with (go_at_call 43; refine (word_caps _).mono ?_; rintro e w' ⟨rfl, rfl⟩)
  go_ret
  exact ⟨rfl, rfl⟩

set_option maxHeartbeats 400000 in
set_option maxRecDepth 100000 in
theorem word_dead (w : World) : Calls Tryd.prog 44 #[.int .i64 99] w fun e w' => e = .returned (.string ⟨#[100, 101, 97, 100]⟩) ∧ w = w' := by
  go_enter Tryd.func44, Tryd.ntmps44
  go_wp2
  go_ret
  exact ⟨rfl, rfl⟩

set_option maxHeartbeats 400000 in
set_option maxRecDepth 100000 in
theorem err_dead (w : World) : Calls Tryd.prog 31 #[.int .i64 99] w fun e w' => e = .returned (.string ⟨#[100, 101, 97, 100]⟩) ∧ w = w' := by
  go_enter Tryd.func31, Tryd.ntmps31
  go_wp2_with (go_at_call 44; refine (word_dead _).mono ?_; rintro e w' ⟨rfl, rfl⟩)
  go_ret
  exact ⟨rfl, rfl⟩

set_option maxHeartbeats 400000 in
set_option maxRecDepth 100000 in
theorem err_ok (w : World) : Calls Tryd.prog 31 #[.int .i64 0] w fun e w' => e = .returned (.string ⟨#[111, 107]⟩) ∧ w = w' := by
  go_enter Tryd.func31, Tryd.ntmps31
  go_wp2
  go_ret
  exact ⟨rfl, rfl⟩

set_option maxHeartbeats 1000000 in
set_option maxRecDepth 100000 in
theorem told_any (p : Nat) (w1 : World) (hT : TextAt w1 p abBs) :
    Calls Tryd.prog 30 #[.pointer (some ⟨p, 0, none⟩), .agg #[.int .i64 21, .int .i64 1]] w1 fun e w' => (∃ t q, e = .returned (.iface t (.pointer (some ⟨q, 0, none⟩)))) ∧ Below w1.heap.size w1 w' := by
  have HT := Lib.hid hT
  clear hT
  generalize hA : (w1.alloc (.cells #[.int .i64 21, .int .i64 1] 53)).alloc (.cells #[.int .i64 21, .int .i64 1, .int .i64 0, .int .i64 0] 60) = wA
  have hAs : wA.heap.size = w1.heap.size + 2 := by rw [← hA]; simp
  have hAb : Below w1.heap.size w1 wA := by rw [← hA]; exact ((Below.refl _ w1).alloc (Nat.le_refl _) _).alloc (by simp) _
  have hAo : wA.heap[w1.heap.size + 1]? = some (.cells #[.int .i64 21, .int .i64 1, .int .i64 0, .int .i64 0] 60 (0, 0)) := by
    rw [← hA]
    have := (MapKept.heap_alloc (w1.alloc (.cells #[.int .i64 21, .int .i64 1] 53)) (.cells #[.int .i64 21, .int .i64 1, .int .i64 0, .int .i64 0] 60)).1
    simpa using this
  have hAf : wA.heap[w1.heap.size]? = some (.cells #[.int .i64 21, .int .i64 1] 53 (0, 0)) := by
    rw [← hA, Below.heap_alloc _ _ _ (by simp)]
    exact (MapKept.heap_alloc w1 _).1
  have cA0 := block_cell hAf 0
  have cA1 := block_cell hAf 1
  have hSp := tSpot_any p abBs 1 wA (HT.out.below hAb) (by decide)
  rw [ab_spot] at hSp
  go_enter Tryd.func30, Tryd.ntmps30
  go_wp2_with fail
  refine hSp.mono ?_
  rintro e w2 ⟨rfl, hb2⟩
  have hob : w2.heap[w1.heap.size + 1]? = some (.cells #[.int .i64 21, .int .i64 1, .int .i64 0, .int .i64 0] 60 (0, 0)) := (hb2.block _ (by omega)).trans hAo
  have c2 := block_cell hob 2
  have c3 := block_cell hob 3
  have f2 := block_free hob 2
  have f3 := block_free hob 3
  have hbw2 : Below w1.heap.size w1 w2 := hAb.trans (hb2.mono (by omega))
  clear hSp hA hAs hAb hAo hb2 hob hAf cA0 cA1
  go_wp2
  go_ret
  have hle : w1.heap.size ≤ w1.heap.size + 1 := by omega
  exact ⟨⟨_, _, rfl⟩, (hbw2.setCell (p := ⟨w1.heap.size + 1, 2, none⟩) hle _).setCell (p := ⟨w1.heap.size + 1, 3, none⟩) hle _⟩

set_option maxHeartbeats 1000000 in
set_option maxRecDepth 100000 in
theorem lawNames (m : Int) (w : World) (hm : w.cell? ⟨1, 0, none⟩ = some (.int .i64 m)) :
    Calls Tryd.prog 11 #[] w fun e w' => e = .returned (.bool true) ∧ Below w.heap.size w w' := by
  have hk1 := World.block_lt_of_cell? w _ hm
  have kc := fun (w : World) (C : Array Value) (n c : Nat) => Lib.run_convert_bytes_const (P := Tryd.prog) w 22 5 C n c Tryd.underlying22 Tryd.underlying5
  have HM := Lib.hid hm
  clear hm
  go_enter Tryd.func11, Tryd.ntmps11
  go_wp2_with fail
  refine (new_any (some ⟨w.heap.size, 0, none⟩) 2 abBs m _ (ab_at w) (by decide) ((Below.cell (Below.alloc (Below.refl _ w) (Nat.le_refl _) _) hk1).trans HM.out)).mono ?_
  rintro e w1 ⟨p, rfl, hT, hb1⟩
  have HT := Lib.hid hT.at
  have hb1' : Below w.heap.size w w1 := ((Below.refl _ w).alloc (Nat.le_refl _) _).trans (hb1.mono (by simp))
  clear hT hb1 kc
  go_wp2_with fail
  refine (told_any p w1 HT.out).mono ?_
  rintro e w2 ⟨⟨ty, q, rfl⟩, hb2⟩
  have hbw2 : Below w.heap.size w w2 := hb1'.trans (hb2.mono hb1'.size)
  clear hb2 HT hb1'
  go_wp2_with fail
  refine (err_token _).mono ?_
  rintro e w' ⟨rfl, rfl⟩
  go_wp2_with fail
  refine (err_arg _).mono ?_
  rintro e w' ⟨rfl, rfl⟩
  go_wp2_with fail
  refine (err_ok _).mono ?_
  rintro e w' ⟨rfl, rfl⟩
  go_wp2_with fail
  refine (err_caps _).mono ?_
  rintro e w' ⟨rfl, rfl⟩
  go_wp2_with fail
  refine (err_dead _).mono ?_
  rintro e w' ⟨rfl, rfl⟩
  go_wp2
  go_ret
  exact ⟨rfl, hbw2⟩
end Go.Proofs.YtdmdfcdfmedhcaaDoor
