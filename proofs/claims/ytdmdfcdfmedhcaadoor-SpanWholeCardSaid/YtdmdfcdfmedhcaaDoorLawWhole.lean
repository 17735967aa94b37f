/-
  What is proved here: the law SpanWhole answers true. Conditions: the bytes lie in memory; the library's variable internal/bytealg.MaxLen holds a number.
-/
import Derived.Test.YtdmdfcdfmedhcaaDoorHead
import Derived.Test.YtdmdfcdfmedhcaaDoorKit
import Derived.Test.YtdmdfcdfmedhcaaDoorWholeMath
import Derived.Test.YtdmdfcdfmedhcaaDoorLawBack
import Derived.Lib.AppendStr
namespace Go.Proofs.YtdmdfcdfmedhcaaDoor
open Go.RowKit

set_option maxHeartbeats 400000 in
set_option maxRecDepth 100000 in
theorem lawWhole_far (ao : Option Addr) (cap : Nat) (bs : List UInt8) (m : Int) (w : World) (hn : 4096 < bs.length) (hm : w.cell? ⟨1, 0, none⟩ = some (.int .i64 m)) :
    Calls Tryd.prog 7 #[.slice ao bs.length cap] w fun e w' => e = .returned (.bool true) ∧ Below w.heap.size w w' := by
  have HM := Lib.hid hm
  clear hm
  go_enter Tryd.func7, Tryd.ntmps7
  go_wp2_with (first | (go_at_call 24; refine (far_yes _ _ _ _ hn).mono ?_; rintro e w' ⟨rfl, rfl⟩) | (go_at_call 19; refine (head_any m _ HM.out).mono ?_; rintro e w2 ⟨rfl, hb2⟩))
  go_ret
  exact ⟨rfl, by assumption⟩

set_option maxHeartbeats 4000000 in
set_option maxRecDepth 100000 in
theorem lawWhole_near (ao : Option Addr) (cap : Nat) (bs : List UInt8) (m : Int) (w : World) (hB : BAt w ao bs) (hn : bs.length ≤ 4096) (hm : w.cell? ⟨1, 0, none⟩ = some (.int .i64 m)) :
    Calls Tryd.prog 7 #[.slice ao bs.length cap] w fun e w' => e = .returned (.bool true) ∧ Below w.heap.size w w' := by
  have HM := Lib.hid hm
  have HB := Lib.hid hB
  have hll := lns_length bs
  have hcl : bs.count 10 ≤ bs.length := List.count_le_length
  clear hm hB
  go_enter Tryd.func7, Tryd.ntmps7
  go_wp2_with (go_at_call 24; refine (far_no _ _ _ _ hn).mono ?_; rintro e w' ⟨rfl, rfl⟩)
  refine (made_any ao cap bs m _ HB.out (by omega) HM.out).mono ?_
  rintro e w1 ⟨p, rfl, hT, hb1⟩
  have HT := Lib.hid hT
  replace HB := Lib.hid (HB.out.below hb1)
  replace HM := Lib.hid ((hb1.cell (World.block_lt_of_cell? w _ HM.out)).trans HM.out)
  clear hT
  go_wp2_with fail
  refine (tLines_any p bs _ HT.out).mono ?_
  rintro e w' ⟨rfl, rfl⟩
  have hN1 : ¬ (((bs.count 10 : Nat) : Int) + 1 < 1) := by omega
  have hN2 : ¬ bs.length < bs.count 10 := by omega
  generalize hW : w1.heap.size = W at *
  have HW := Lib.hid hW
  have hr1 : Below W w1 w1 := Below.refl _ _
  clear hW
  go_wp2
  go_loopw [5, 6] (fun all i wr => ∃ k : Nat, k ≤ (lns bs).length ∧ i = .int .i64 ((k : Int) + 1) ∧ wr.ownsRow W 5 1 all (bs.take (off (lns bs) k)).length (Lib.byteCells (bs.take (off (lns bs) k))) ∧ Below W w1 wr) (fun _ i _ => (lns bs).length + 1 - (intOf i).toNat)
  case atStart => exact ⟨0, Nat.zero_le _, rfl, World.ownsRow_nil _ _ _ _, hr1⟩
  case round =>
    obtain ⟨k, hk, rfl, hown, hbr⟩ := hrel
    clear hr1
    have HTr := Lib.hid (HT.out.below (HW.out.symm ▸ hbr))
    by_cases hkl : k < (lns bs).length
    · have hL := tLine_any p bs ((k : Int) + 1) wr HTr.out (by omega)
      rw [line_told bs k hkl] at hL
      have hP1 := tPlace_any p bs ((k : Int) + 1) 1 wr HTr.out (by omega)
      rw [place_first bs k hkl] at hP1
      have hol := off_line bs k hkl
      have hP2 := fun (wx : World) (h : TextAt wx p bs) => tPlace_any p bs ((k : Int) + 1) (((str ((lns bs)[k])).size : Int) + 2) wx h (by omega)
      rw [place_behind bs k hkl] at hP2
      have hF : (bs.take (off (lns bs) k)).length = off (lns bs) k := by rw [List.length_take]; omega
      have hsep : Hid (k + 1 < (lns bs).length → bs.take (off (lns bs) (k + 1)) = bs.take (off (lns bs) k) ++ ((lns bs)[k]'hkl ++ [10])) := Lib.hid (fun h => line_sep bs k h)
      have hlast : Hid (k + 1 = (lns bs).length → bs.take (off (lns bs) (k + 1)) = bs.take (off (lns bs) k) ++ (lns bs)[k]'hkl) := Lib.hid (fun h => (line_last bs k h).1)
      have hsz : (str ((lns bs)[k])).size = ((lns bs)[k]).length := str_size _
      generalize (lns bs)[k] = L at *
      generalize bs.take (off (lns bs) k) = F at *
      generalize off (lns bs) k = f at *
      subst hF
      obtain ⟨o, c, rfl, -⟩ := own_bytes hown
      have HP2 := Lib.hid hP2
      clear hP2
      go_wp2_with fail
      refine hL.mono ?_
      rintro e w' ⟨rfl, rfl⟩
      go_wp2_with fail
      refine hP1.mono ?_
      rintro e w2 ⟨rfl, hb2⟩
      have hown2 := own_below hown hb2
      have hbr2 := hbr.trans (hb2.mono (HW.out ▸ hbr.size))
      clear hL hP1 hown HTr hbr hb2
      go_wp2_with fail
      refine (HP2.out _ (HT.out.below (HW.out.symm ▸ hbr2))).mono ?_
      rintro e w3 ⟨rfl, hb3⟩
      have hown3 := own_below hown2 hb3
      have hbr3 := hbr2.trans (hb3.mono (HW.out ▸ hbr2.size))
      clear HP2 hown2 hbr2 hb3
      have hg3 : W ≤ w3.heap.size := HW.out ▸ hbr3.size
      have hsm : F.length + (str L).size ≤ 140737488355328 := by omega
      have hbl3 : ∀ g, Value.ownBlock (.slice o F.length c) = some g → W ≤ g := fun g hg => (hown3.lt g hg).1
      obtain ⟨i0, hi, hz0, hz1, hz2⟩ := info_parts info5
      by_cases hk1 : k + 1 < (lns bs).length
      · go_wp2_with (at_builtin; go_loud (refine Lib.wpList_append_own_string _ rfl _ _ 22 9 rfl W 5 i0 Tryd.underlying22 Tryd.underlying9 hi hz0 hz1 hz2 _ _ _ rfl hown3 (str L) rfl ?c1 ?c2 ?c3 ?_))
        case c1 => unfold maxLen; omega
        case c2 => omega
        case c3 => omega
        intro v4 w4 hown4 hgr4 _
        clear hi hz0 hz1 hz2 i0
        have hbr4 : Below W w1 w4 := hbr3.grown hgr4 hg3 hbl3
        have hg4 : W ≤ w4.heap.size := HW.out ▸ hbr4.size
        rw [strCells_str, byteCells_app] at hown4
        have hbl4 : ∀ g, Value.ownBlock v4 = some g → W ≤ g := fun g hg => (hown4.lt g hg).1
        clear hown3 hgr4 hbr3 hg3 hbl3
        go_wp2_with (at_builtin; go_loud (refine wpList_append1 rfl _ _ 22 rfl W 5 (.int .u8 0) 1 Tryd.underlying22 info5 rfl _ _ _ rfl hown4 w4.heap.size rfl (.int .u8 10) rfl rfl ?d1 ?d2 ?d3 ?_))
        case d1 => unfold maxLen; omega
        case d2 => omega
        case d3 => omega
        intro g cp w5 hown5 hgr5 _
        have hbr5 : Below W w1 w5 := hbr4.grown hgr5 hg4 hbl4
        rw [ten_cells, byteCells_app, List.append_assoc, ← hsep.out hk1] at hown5
        have hln : F.length + L.length + 1 = (bs.take (off (lns bs) (k + 1))).length := by rw [hsep.out hk1]; simp; omega
        have HOWN5 := Lib.hid hown5
        clear hown4 hgr5 hbr4 hg4 hbl4 hown5
        go_wp2
        go_roundw
        case rel => exact ⟨k + 1, hkl, by go_num, hln ▸ HOWN5.out, hbr5⟩
        case measure => simp [intOf]; omega
      · go_wp2_with (at_builtin; go_loud (refine Lib.wpList_append_own_string _ rfl _ _ 22 9 rfl W 5 i0 Tryd.underlying22 Tryd.underlying9 hi hz0 hz1 hz2 _ _ _ rfl hown3 (str L) rfl ?c1 ?c2 ?c3 ?_))
        case c1 => unfold maxLen; omega
        case c2 => omega
        case c3 => omega
        intro v4 w4 hown4 hgr4 _
        clear hi hz0 hz1 hz2 i0
        have hbr4 : Below W w1 w4 := hbr3.grown hgr4 hg3 hbl3
        have hk2 : k + 1 = (lns bs).length := by omega
        rw [strCells_str, byteCells_app, ← hlast.out hk2] at hown4
        have hln : F.length + (str L).size = (bs.take (off (lns bs) (k + 1))).length := by rw [hlast.out hk2]; simp; omega
        have HOWN4 := Lib.hid hown4
        clear hown3 hgr4 hbr3 hg3 hbl3 hown4
        go_wp2
        go_roundw
        case rel => exact ⟨k + 1, hkl, by go_num, hln ▸ HOWN4.out, hbr4⟩
        case measure => simp [intOf]; omega
    · obtain rfl : k = (lns bs).length := by omega
      have hall : bs.take (off (lns bs) (lns bs).length) = bs := by rw [off_total, List.take_of_length_le (by omega)]
      rw [hall] at hown
      obtain ⟨o, c, rfl, hba⟩ := own_bytes hown
      have hpast := line_past bs
      have hL := tLine_any p bs ((bs.count 10 : Nat) + 1 + 1 : Int) wr HTr.out (by omega)
      rw [hpast.1] at hL
      have hP := tPlace_any p bs ((bs.count 10 : Nat) + 1 + 1 : Int) 1 wr HTr.out (by omega)
      rw [hpast.2] at hP
      have HBA := Lib.hid hba
      have HHW : Hid (W ≤ wr.heap.size) := Lib.hid (HW.out ▸ hbr.size)
      have hN3 : ¬ (((bs.count 10 : Nat) : Int) + 1 + 1 ≤ ((bs.count 10 : Nat) : Int) + 1) := by omega
      clear hown hba hpast hall hkl hk
      go_wp2_with fail
      refine hL.mono ?_
      rintro e w' ⟨rfl, rfl⟩
      go_wp2_with fail
      refine hP.mono ?_
      rintro e w2 ⟨rfl, hb2⟩
      have hbr2 : Below W w1 w2 := hbr.trans (hb2.mono (HW.out ▸ hbr.size))
      have hcv1 := fun dst hd => (HBA.out.below hb2).conv (P := Tryd.prog) bs.length c rfl 22 dst 5 Tryd.underlying22 Tryd.underlying5 hd
      have hcv2 := fun dst hd => (HB.out.below (HW.out.symm ▸ hbr2)).conv (P := Tryd.prog) bs.length cap rfl 22 dst 5 Tryd.underlying22 Tryd.underlying5 hd
      have HM2 : Hid (w2.cell? ⟨1, 0, none⟩ = some (.int .i64 m)) := Lib.hid (((HW.out.symm ▸ hbr2 : Below w1.heap.size w1 w2).cell (World.block_lt_of_cell? _ _ HM.out)).trans HM.out)
      have hbw2 : Below w.heap.size w w2 := hb1.trans (hbr2.mono (HW.out ▸ hb1.size))
      clear hL hP hbr hb2 hbr2
      generalize str bs = s at *
      go_wp2_with (go_at_call 19; refine (head_any m _ HM2.out).mono ?_; rintro e w4 ⟨rfl, hb4⟩)
      go_ret
      exact ⟨rfl, hbw2.trans (hb4.mono hbw2.size)⟩

theorem lawWhole (ao : Option Addr) (cap : Nat) (bs : List UInt8) (m : Int) (w : World) (hB : BAt w ao bs) (_hcap : bs.length ≤ cap) (hm : w.cell? ⟨1, 0, none⟩ = some (.int .i64 m)) :
    Calls Tryd.prog 7 #[.slice ao bs.length cap] w fun e w' => e = .returned (.bool true) ∧ Below w.heap.size w w' := by
  by_cases hn : bs.length ≤ 4096
  · exact lawWhole_near ao cap bs m w hB hn hm
  · exact lawWhole_far ao cap bs m w (by omega) hm
end Go.Proofs.YtdmdfcdfmedhcaaDoor
