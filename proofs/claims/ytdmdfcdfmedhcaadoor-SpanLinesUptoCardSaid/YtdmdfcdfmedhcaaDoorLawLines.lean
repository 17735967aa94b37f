/-
  What is proved here: the law SpanLines answers true. Conditions: the bytes and the numbers lie in memory; fewer than 2^31 bytes; the library's variable internal/bytealg.MaxLen holds a number.
-/
import Derived.Test.YtdmdfcdfmedhcaaDoorHead
import Derived.Test.YtdmdfcdfmedhcaaDoorKit
namespace Go.Proofs.YtdmdfcdfmedhcaaDoor
open Go.RowKit

set_option maxHeartbeats 1000000 in
set_option maxRecDepth 100000 in
theorem lawLines (ao : Option Addr) (cap : Nat) (bs : List UInt8) (io : Option Addr) (icap : Nat) (zs : List Int) (m : Int) (w : World)
    (hB : BAt w ao bs) (hcap : bs.length ≤ cap) (hn : bs.length ≤ 1048576) (hI : IAt w io zs) (_hz : zs.length ≤ 9223372036854775807) (hm : w.cell? ⟨1, 0, none⟩ = some (.int .i64 m)) :
    Calls Tryd.prog 3 #[.slice ao bs.length cap, .slice io zs.length icap] w fun e w' => e = .returned (.bool true) ∧ Below w.heap.size w w' := by
  have HB := Lib.hid hB
  have HM := Lib.hid hm
  have HI := Lib.hid hI
  clear hB hm hI
  go_enter Tryd.func3, Tryd.ntmps3
  go_wp2_with fail
  refine (made_any ao cap bs m _ HB.out (by omega) HM.out).mono ?_
  rintro e w1 ⟨p, rfl, hT, hb1⟩
  have HT := Lib.hid hT
  have HB1 := Lib.hid (HB.out.below hb1)
  have HI1 := Lib.hid (HI.out.below hb1)
  have HM1 := Lib.hid ((hb1.cell (World.block_lt_of_cell? w _ HM.out)).trans HM.out)
  clear hT HB HM HI
  go_wp2_with (first | (go_at_call 15; refine (tLines_any p bs _ HT.out).mono ?_; rintro e w' ⟨rfl, rfl⟩) | (go_at_call 16; refine (lines_any ao cap bs _ HB1.out (by omega)).mono ?_; rintro e w' ⟨rfl, rfl⟩))
  go_loop [6] (fun i => ∃ k : Nat, k ≤ zs.length ∧ i = .int .i64 k) (fun i => zs.length - (intOf i).toNat)
  case atStart => exact ⟨0, Nat.zero_le _, rfl⟩
  case round =>
    obtain ⟨k, hk, rfl⟩ := hrel
    by_cases hlt : k < zs.length ∧ k < 200
    · obtain ⟨hlt1, hlt2⟩ := hlt
      obtain ⟨a, rfl, hc, hz1, hz2⟩ := HI1.out k zs[k] (List.getElem?_eq_getElem hlt1)
      generalize zs[k] = z at *
      go_wp2_with (first | (go_at_call 17; refine (tLine_any p bs z _ HT.out (by omega)).mono ?_; rintro e w' ⟨rfl, rfl⟩) | (go_at_call 18; refine (line_any ao cap bs z _ HB1.out hcap (by omega)).mono ?_; rintro e w' ⟨rfl, rfl⟩))
      go_round
      case rel => exact ⟨k + 1, by omega, by go_num⟩
      case measure => simp [intOf]; omega
    · rcases (show (k < zs.length ∧ 200 ≤ k) ∨ zs.length ≤ k from by omega) with ⟨hlt1, hlt2⟩ | hlt1
      all_goals
        clear hlt
        go_wp2_with (go_at_call 19; refine (head_any m _ HM1.out).mono ?_; rintro e w2 ⟨rfl, hb2⟩)
        go_ret
        exact ⟨rfl, hb1.trans (hb2.mono hb1.size)⟩
end Go.Proofs.YtdmdfcdfmedhcaaDoor
