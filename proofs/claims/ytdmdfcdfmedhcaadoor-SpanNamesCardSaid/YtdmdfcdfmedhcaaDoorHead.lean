/-
  What is proved here: head answers true: chapter 1's first example. Conditions: the library's variable internal/bytealg.MaxLen holds a number.
-/
import Derived.Test.YtdmdfcdfmedhcaaDoorAsk3
import Derived.Test.YtdmdfcdfmedhcaaDoorMade
import Derived.Lib.SlBytesConst
namespace Go.Proofs.YtdmdfcdfmedhcaaDoor
open Go.RowKit

def headBs : List UInt8 := [97, 10, 9, 98, 195, 169, 10]
theorem head_line : rLine headBs 2 = (⟨#[9, 98, 195, 169]⟩, 0) := by kernel_rfl
theorem head_spot : rSpot headBs 6 = (2, 4, 0) := by kernel_rfl
theorem head_place : rPlace headBs 2 3 = (4, 0) := by kernel_rfl
theorem head_count : ((headBs.count 10 : Nat) + 1 : Int) = 3 := by kernel_rfl

/-- The block of the example's bytes. -/
def headCells : Array Value := #[.int .u8 97, .int .u8 10, .int .u8 9, .int .u8 98, .int .u8 195, .int .u8 169, .int .u8 10]
theorem head_at (w : World) : BAt (w.alloc (.cells headCells 5 (7, 8))) (some ⟨w.heap.size, 0, none⟩) headBs := by
  intro i c hc
  refine ⟨_, rfl, ?_⟩
  have e : (⟨w.heap.size, 0, none⟩ : Addr).add i = ⟨w.heap.size, i, none⟩ := by
    unfold Addr.add
    split
    · rename_i h0; subst h0; rfl
    · simp
  have hb : (w.alloc (.cells headCells 5 (7, 8))).heap[w.heap.size]? = some (.cells headCells 5 (7, 8)) := (MapKept.heap_alloc w _).1
  rw [e]
  simp only [World.cell?, hb]
  match i, hc with
  | 0, hc => cases hc; rfl
  | 1, hc => cases hc; rfl
  | 2, hc => cases hc; rfl
  | 3, hc => cases hc; rfl
  | 4, hc => cases hc; rfl
  | 5, hc => cases hc; rfl
  | 6, hc => cases hc; rfl
  | i + 7, hc => simp [headBs] at hc

set_option maxHeartbeats 1000000 in
set_option maxRecDepth 100000 in
theorem head_any (m : Int) (w : World) (hm : w.cell? ⟨1, 0, none⟩ = some (.int .i64 m)) :
    Calls Tryd.prog 19 #[] w fun e w' => e = .returned (.bool true) ∧ Below w.heap.size w w' := by
  have hk1 := World.block_lt_of_cell? w _ hm
  have kc := fun (w : World) (C : Array Value) (n c : Nat) => Lib.run_convert_bytes_const (P := Tryd.prog) w 22 5 C n c Tryd.underlying22 Tryd.underlying5
  have HM := Lib.hid hm
  clear hm
  go_enter Tryd.func19, Tryd.ntmps19
  go_wp2_with fail
  refine (new_any (some ⟨w.heap.size, 0, none⟩) 7 headBs m _ (head_at w) (by decide) ((Below.cell (Below.alloc (Below.refl _ w) (Nat.le_refl _) _) hk1).trans HM.out)).mono ?_
  rintro e w1 ⟨p, rfl, hT, hb1⟩
  have HT := Lib.hid hT.at
  have hb1' : Below w.heap.size w w1 := ((Below.refl _ w).alloc (Nat.le_refl _) _).trans (hb1.mono (by simp))
  clear hT hb1 kc
  go_wp2_with fail
  refine (tLine_any p headBs 2 _ HT.out (by decide)).mono ?_
  rw [head_line]
  rintro e w2 ⟨rfl, rfl⟩
  go_wp2_with fail
  refine (tSpot_any p headBs 6 _ HT.out (by decide)).mono ?_
  rw [head_spot]
  rintro e w2 ⟨rfl, hb2⟩
  have HT2 := Lib.hid (HT.out.below hb2)
  have hb2' := hb1'.trans (hb2.mono hb1'.size)
  clear hb2
  go_wp2_with fail
  refine (tPlace_any p headBs 2 3 _ HT2.out (by decide)).mono ?_
  rw [head_place]
  rintro e w3 ⟨rfl, hb3⟩
  have HT3 := Lib.hid (HT2.out.below hb3)
  have hb3' := hb2'.trans (hb3.mono hb2'.size)
  clear hb3
  go_wp2_with fail
  refine (tLines_any p headBs _ HT3.out).mono ?_
  rw [head_count]
  rintro e w4 ⟨rfl, rfl⟩
  go_wp2
  go_ret
  exact ⟨rfl, hb3'⟩
end Go.Proofs.YtdmdfcdfmedhcaaDoor
