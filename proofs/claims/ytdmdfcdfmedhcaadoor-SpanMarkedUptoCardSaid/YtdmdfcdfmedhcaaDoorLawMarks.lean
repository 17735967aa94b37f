/-
  What is proved here: the law SpanMarks answers true. Conditions: the bytes and the numbers lie in memory; at most 2^20 bytes; the library's variable internal/bytealg.MaxLen holds a number.
-/
import Derived.Test.YtdmdfcdfmedhcaaDoorHead
import Derived.Test.YtdmdfcdfmedhcaaDoorKit
import Derived.Test.YtdmdfcdfmedhcaaDoorMark3
import Derived.Test.YtdmdfcdfmedhcaaDoorBackMath
namespace Go.Proofs.YtdmdfcdfmedhcaaDoor
open Go.RowKit

theorem col_pos (bs : List UInt8) (k : Nat) (hk : k ≤ bs.length) : 1 ≤ colAt bs k := by
  rw [col_upto bs k hk]
  exact List.countP_pos_iff.2 ⟨0, cols_zero _, by simp⟩

set_option maxHeartbeats 1000000 in
set_option maxRecDepth 100000 in
theorem lawMarks (ao : Option Addr) (cap : Nat) (bs : List UInt8) (io : Option Addr) (icap : Nat) (zs : List Int) (m : Int) (w : World)
    (hB : BAt w ao bs) (hcap : bs.length ≤ cap) (hn : bs.length ≤ 1048576) (hI : IAt w io zs) (_hz : zs.length ≤ 9223372036854775807) (hm : w.cell? ⟨1, 0, none⟩ = some (.int .i64 m)) :
    Calls Tryd.prog 9 #[.slice ao bs.length cap, .slice io zs.length icap] w fun e w' => e = .returned (.bool true) ∧ Below w.heap.size w w' := by
  have HB := Lib.hid hB
  have HM := Lib.hid hm
  have HI := Lib.hid hI
  clear hB hm hI
  go_enter Tryd.func9, Tryd.ntmps9
  go_wp2_with fail
  refine (made_any ao cap bs m _ HB.out (by omega) HM.out).mono ?_
  rintro e w1 ⟨p, rfl, hT, hb1⟩
  have HT := Lib.hid hT
  have HB1 := Lib.hid (HB.out.below hb1)
  have HI1 := Lib.hid (HI.out.below hb1)
  have HM1 := Lib.hid ((hb1.cell (World.block_lt_of_cell? w _ HM.out)).trans HM.out)
  clear hT HB HM HI
  go_wp2
  go_loopw [6] (fun i wr => ∃ k : Nat, k ≤ zs.length ∧ i = .int .i64 k ∧ Hid (TextAt wr p bs) ∧ Hid (BAt wr ao bs) ∧ Hid (IAt wr io zs) ∧ Hid (wr.cell? ⟨1, 0, none⟩ = some (.int .i64 m)) ∧ Below w.heap.size w wr) (fun i _ => zs.length + 1 - (intOf i).toNat)
  case atStart => exact ⟨0, Nat.zero_le _, rfl, HT, HB1, HI1, HM1, hb1⟩
  case round =>
    obtain ⟨k, hk, rfl, HTr, HBr, HIr, HMr, hbr⟩ := hrel
    clear HT HB1 HI1 HM1 hb1
    by_cases hlt : k < zs.length ∧ k < 200
    · obtain ⟨hlt1, hlt2⟩ := hlt
      obtain ⟨a, rfl, hc, hz1, hz2⟩ := HIr.out k zs[k] (List.getElem?_eq_getElem hlt1)
      generalize zs[k] = z at *
      go_wp2_with fail
      refine (tMark_any p bs z _ HTr.out (by omega) (col_pos bs)).mono ?_
      rintro e w2 ⟨rfl, hb2⟩
      have HB2 := Lib.hid (HBr.out.below hb2)
      have HT2 := Lib.hid (HTr.out.below hb2)
      have HI2 := Lib.hid (HIr.out.below hb2)
      have HM2 := Lib.hid ((hb2.cell (World.block_lt_of_cell? _ _ HMr.out)).trans HMr.out)
      have hc2 := (hb2.cell (World.block_lt_of_cell? _ _ hc)).trans hc
      have hbr2 := hbr.trans (hb2.mono hbr.size)
      clear HBr HTr HIr HMr hbr hb2 hc
      go_wp2_with fail
      refine (mark_any ao cap bs z _ HB2.out hcap (by omega) (col_pos bs)).mono ?_
      rintro e w3 ⟨rfl, hb3⟩
      have HB3 := Lib.hid (HB2.out.below hb3)
      have HT3 := Lib.hid (HT2.out.below hb3)
      have HI3 := Lib.hid (HI2.out.below hb3)
      have HM3 := Lib.hid ((hb3.cell (World.block_lt_of_cell? _ _ HM2.out)).trans HM2.out)
      have hbr3 := hbr2.trans (hb3.mono hbr2.size)
      clear HB2 HT2 HI2 HM2 hbr2 hb3 hc2
      generalize rMark bs z = R at *
      go_wp2
      go_roundw
      case rel => exact ⟨k + 1, by omega, by go_num, HT3, HB3, HI3, HM3, hbr3⟩
      case measure => simp [intOf]; omega
    · rcases (show (k < zs.length ∧ 200 ≤ k) ∨ zs.length ≤ k from by omega) with ⟨hlt1, hlt2⟩ | hlt1
      all_goals
        clear hlt
        go_wp2_with (go_at_call 19; refine (head_any m _ HMr.out).mono ?_; rintro e w2 ⟨rfl, hb2⟩)
        go_ret
        exact ⟨rfl, hbr.trans (hb2.mono hbr.size)⟩
end Go.Proofs.YtdmdfcdfmedhcaaDoor
