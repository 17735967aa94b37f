/-
  What is proved here: Back answers true of bytes that are as they were lent, and writes over them alone; made answers a text of the bytes handed in. Conditions: the bytes lie in memory; fewer than 2^31 of them; the library's variable internal/bytealg.MaxLen holds a number.
-/
import Derived.Test.YtdmdfcdfmedhcaaDoorLend
import Derived.Test.YtdmdfcdfmedhcaaDoorText
namespace Go.Proofs.YtdmdfcdfmedhcaaDoor
open Go.RowKit

theorem LentAt.bytes {w : World} {g : Nat} {bs : List UInt8} (h : LentAt w g bs) : BAt w (some ⟨g, 0, none⟩) bs := by
  intro i c hc
  have hi : i < bs.length := by
    rcases Nat.lt_or_ge i bs.length with h1 | h1
    · exact h1
    · rw [List.getElem?_eq_none h1] at hc; cases hc
  refine ⟨_, rfl, ?_⟩
  have e : (⟨g, 0, none⟩ : Addr).add i = ⟨g, i, none⟩ := by
    unfold Addr.add
    split
    · rename_i h0; subst h0; rfl
    · simp
  rw [e, block_cell h, List.getElem?_toArray, List.getElem?_append_left (by rw [u8s_length]; exact hi)]
  simp [u8s, hc]

theorem LentAt.mark {w : World} {g : Nat} {bs : List UInt8} (h : LentAt w g bs) (j : Nat) (hj : j < 67) : w.cell? ⟨g, bs.length + j, none⟩ = some (.int .u8 169) := by
  rw [block_cell h, List.getElem?_toArray, List.getElem?_append_right (by rw [u8s_length]; omega), u8s_length]
  have e : bs.length + j - bs.length = j := by omega
  rw [e, List.getElem?_replicate, if_pos hj]

theorem grownBy_setCell {w w' : World} {g : Nat} (h : w.grownBy w' (some g)) (i : Nat) (u : Value) : w.grownBy (w'.setCell ⟨g, i, none⟩ u) (some g) :=
  ⟨h.os, h.tape, h.output, by have := h.size; simpa [World.setCell] using this, fun k hk hne => (setCell_other i u (by intro e; exact hne (by rw [e]))).trans (h.block k hk hne)⟩

set_option maxHeartbeats 1000000 in
set_option maxRecDepth 100000 in
theorem back_any (ao : Option Addr) (cap : Nat) (bs : List UInt8) (g : Nat) (w : World) (hB : BAt w ao bs) (hL : LentAt w g bs) (hn : bs.length ≤ 2147483647) :
    Calls Tryd.prog 36 #[.slice (some ⟨g, 0, none⟩) bs.length (bs.length + 67), .slice ao bs.length cap] w fun e w' => e = .returned (.bool true) ∧ w.grownBy w' (some g) := by
  have hcv1 := fun dst hd => hL.bytes.conv (P := Tryd.prog) bs.length (bs.length + 67) rfl 22 dst 5 Tryd.underlying22 Tryd.underlying5 hd
  have hcv2 := fun dst hd => hB.conv (P := Tryd.prog) bs.length cap rfl 22 dst 5 Tryd.underlying22 Tryd.underlying5 hd
  generalize str bs = s at *
  have HL := Lib.hid hL
  clear hL hB
  go_enter Tryd.func36, Tryd.ntmps36
  go_wp2
  go_loop [5, 7] (fun ok i => ∃ j : Nat, j ≤ 67 ∧ ok = .bool true ∧ i = .int .i64 ((bs.length + j : Nat) : Int)) (fun _ i => bs.length + 67 - (intOf i).toNat)
  case atStart => exact ⟨0, by omega, by simp, rfl⟩
  case round =>
    obtain ⟨j, hj, rfl, rfl⟩ := hrel
    by_cases hlt : j < 67
    · have hc := HL.out.mark j hlt
      go_wp2
      go_round
      case rel => exact ⟨j + 1, by omega, rfl, by go_num⟩
      case measure => simp [intOf]; omega
    · obtain rfl : j = 67 := by omega
      have HS : Hid (∃ cs : Array Value, cs.size = bs.length + 67 ∧ w.heap[g]? = some (.cells cs 5 (0, 0))) := Lib.hid ⟨_, by simp [u8s_length], HL.out⟩
      clear hj hlt HL hcv1 hcv2
      go_wp2
      go_loopw [8] (fun i wr => ∃ k : Nat, k ≤ bs.length + 67 ∧ i = .int .i64 k ∧ Hid (∃ cs : Array Value, cs.size = bs.length + 67 ∧ wr.heap[g]? = some (.cells cs 5 (0, 0))) ∧ w.grownBy wr (some g)) (fun i _ => bs.length + 67 - (intOf i).toNat)
      case atStart => exact ⟨0, by omega, rfl, HS, ⟨rfl, rfl, rfl, Nat.le_refl _, fun _ _ _ => rfl⟩⟩
      case round =>
        obtain ⟨k, hk, rfl, HK, hgr⟩ := hrel
        by_cases hlt : k < bs.length + 67
        · have hc : ∃ v, wr.cell? ⟨g, k, none⟩ = some v := by
            obtain ⟨cs, h1, h2⟩ := HK.out
            rw [block_cell h2]
            exact ⟨_, Array.getElem?_eq_getElem (by omega)⟩
          obtain ⟨v0, hc⟩ := hc
          have hf : wr.frozen? ⟨g, k, none⟩ = false := by
            obtain ⟨cs, h1, h2⟩ := HK.out
            exact block_free h2 k
          have HN : Hid (∃ cs : Array Value, cs.size = bs.length + 67 ∧ (wr.setCell ⟨g, k, none⟩ (.int .u8 94)).heap[g]? = some (.cells cs 5 (0, 0))) := Lib.hid (by
            obtain ⟨cs, h1, h2⟩ := HK.out
            exact ⟨_, by simpa using h1, setCell_block h2 k _⟩)
          have hgn := grownBy_setCell hgr k (.int .u8 94)
          go_wp2
          go_roundw
          case rel => exact ⟨k + 1, by omega, by go_num, HN, hgn⟩
          case measure => simp [intOf]; omega
        · go_wp2
          go_ret
          exact ⟨rfl, hgr⟩

set_option maxHeartbeats 1000000 in
theorem made_any (ao : Option Addr) (cap : Nat) (bs : List UInt8) (m : Int) (w : World) (hB : BAt w ao bs) (hn : bs.length ≤ 2147483647) (hm : w.cell? ⟨1, 0, none⟩ = some (.int .i64 m)) :
    Calls Tryd.prog 14 #[.slice ao bs.length cap] w fun e w' => ∃ p, e = .returned (.pointer (some ⟨p, 0, none⟩)) ∧ TextAt w' p bs ∧ Below w.heap.size w w' := by
  have HB := Lib.hid hB
  have HM := Lib.hid hm
  clear hB hm
  go_enter Tryd.func14, Tryd.ntmps14
  go_wp2_with fail
  refine (lend_any ao cap bs _ HB.out hn).mono ?_
  rintro e w1 ⟨g, rfl, hL, hg, hb1⟩
  have HL := Lib.hid hL
  have hsz1 := hb1.size
  have hgl : g < w1.heap.size := (Array.getElem?_eq_some_iff.1 hL).1
  clear hL
  go_wp2_with fail
  refine (new_any (some ⟨g, 0, none⟩) (bs.length + 67) bs m w1 HL.out.bytes hn ((hb1.cell (World.block_lt_of_cell? w _ HM.out)).trans HM.out)).mono ?_
  rintro e w2 ⟨p, rfl, hT, hb2⟩
  have HT := Lib.hid hT
  clear hT
  have hL2 : LentAt w2 g bs := (hb2.block g hgl).trans HL.out
  have hB2 : BAt w2 ao bs := (HB.out.below hb1).below hb2
  have hbk := back_any ao cap bs g w2 hB2 hL2 hn
  clear hL2 hB2
  go_wp2_with fail
  refine hbk.mono ?_
  rintro e w3 ⟨rfl, hgr⟩
  have hT3 := HT.out.grown hgr (by omega)
  have hb3 : Below w.heap.size w w3 := (hb1.trans (hb2.mono hsz1)).grown hgr (by have := hb2.size; omega) (fun k hk => by cases hk; exact hg)
  have HT3 := Lib.hid hT3
  clear hT3 hgr
  go_wp2
  go_ret
  exact ⟨p, rfl, HT3.out, hb3⟩
end Go.Proofs.YtdmdfcdfmedhcaaDoor
