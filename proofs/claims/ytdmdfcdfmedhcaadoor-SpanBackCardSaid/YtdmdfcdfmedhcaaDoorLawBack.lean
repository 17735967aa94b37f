/-
  What is proved here: the law SpanBack answers true. Conditions: the bytes lie in memory; the library's variable internal/bytealg.MaxLen holds a number.
-/
import Derived.Test.YtdmdfcdfmedhcaaDoorHead
import Derived.Test.YtdmdfcdfmedhcaaDoorKit
import Derived.Test.YtdmdfcdfmedhcaaDoorBegins
namespace Go.Proofs.YtdmdfcdfmedhcaaDoor
open Go.RowKit

/-- What the law's variables hold ahead of a place. -/
def lastP (bs : List UInt8) : Nat → Nat
  | 0 => 0
  | k + 1 => lastOf bs k
def rowP (bs : List UInt8) : Nat → Nat
  | 0 => 1
  | k + 1 => rowOf bs k
def colP (bs : List UInt8) : Nat → Nat
  | 0 => 0
  | k + 1 => colAt bs k

theorem spot_turn (bs : List UInt8) (k : Nat) (hk : k ≤ bs.length) :
    (isBeg bs k = true ∧ rowOf bs k = rowP bs k ∧ colAt bs k = colP bs k + 1 ∧ lastOf bs k = k) ∨
    (isBeg bs k = true ∧ rowOf bs k = rowP bs k + 1 ∧ colAt bs k = 1 ∧ lastOf bs k = k) ∨
    (isBeg bs k = false ∧ rowOf bs k = rowP bs k ∧ colAt bs k = colP bs k ∧ lastOf bs k = lastP bs k) := by
  cases k with
  | zero =>
    obtain ⟨h1, h2, h3, h4⟩ := spot_first bs
    exact .inl ⟨h1, h2, h3, h4⟩
  | succ k =>
    rcases spot_next bs k (by omega) with ⟨h1, h2 | h2, h3⟩ | ⟨h1, h2, h3, h4⟩
    · exact .inl ⟨h1, h2.1, h2.2, h3⟩
    · exact .inr (.inl ⟨h1, h2.1, h2.2, h3⟩)
    · exact .inr (.inr ⟨h1, h2, h3, h4⟩)

set_option maxHeartbeats 400000 in
theorem far_yes (ao : Option Addr) (n cap : Nat) (w : World) (h : 4096 < n) : Calls Tryd.prog 24 #[.slice ao n cap] w fun e w' => e = .returned (.bool true) ∧ w = w' := by
  go_enter Tryd.func24, Tryd.ntmps24
  go_wp2
  go_ret
  exact ⟨by simp; omega, rfl⟩
set_option maxHeartbeats 400000 in
theorem far_no (ao : Option Addr) (n cap : Nat) (w : World) (h : n ≤ 4096) : Calls Tryd.prog 24 #[.slice ao n cap] w fun e w' => e = .returned (.bool false) ∧ w = w' := by
  go_enter Tryd.func24, Tryd.ntmps24
  go_wp2
  go_ret
  exact ⟨by simp; omega, rfl⟩

set_option maxHeartbeats 400000 in
set_option maxRecDepth 100000 in
theorem lawBack_far (ao : Option Addr) (cap : Nat) (bs : List UInt8) (m : Int) (w : World) (hn : 4096 < bs.length) (hm : w.cell? ⟨1, 0, none⟩ = some (.int .i64 m)) :
    Calls Tryd.prog 6 #[.slice ao bs.length cap] w fun e w' => e = .returned (.bool true) ∧ Below w.heap.size w w' := by
  have HM := Lib.hid hm
  clear hm
  go_enter Tryd.func6, Tryd.ntmps6
  go_wp2_with (first | (go_at_call 24; refine (far_yes _ _ _ _ hn).mono ?_; rintro e w' ⟨rfl, rfl⟩) | (go_at_call 19; refine (head_any m _ HM.out).mono ?_; rintro e w2 ⟨rfl, hb2⟩))
  go_ret
  exact ⟨rfl, by assumption⟩

set_option maxHeartbeats 4000000 in
set_option maxRecDepth 100000 in
theorem lawBack_near (ao : Option Addr) (cap : Nat) (bs : List UInt8) (m : Int) (w : World) (hB : BAt w ao bs) (hcap : bs.length ≤ cap) (hn : bs.length ≤ 4096) (hm : w.cell? ⟨1, 0, none⟩ = some (.int .i64 m)) :
    Calls Tryd.prog 6 #[.slice ao bs.length cap] w fun e w' => e = .returned (.bool true) ∧ Below w.heap.size w w' := by
  have HM := Lib.hid hm
  have HB := Lib.hid hB
  clear hm hB
  go_enter Tryd.func6, Tryd.ntmps6
  go_wp2_with (go_at_call 24; refine (far_no _ _ _ _ hn).mono ?_; rintro e w' ⟨rfl, rfl⟩)
  refine (made_any ao cap bs m _ HB.out (by omega) HM.out).mono ?_
  rintro e w1 ⟨p, rfl, hT, hb1⟩
  have HT := Lib.hid hT
  replace HB := Lib.hid (HB.out.below hb1)
  replace HM := Lib.hid ((hb1.cell (World.block_lt_of_cell? w _ HM.out)).trans HM.out)
  clear hT
  go_wp2_with fail
  refine (begins_any ao cap bs _ HB.out hcap (by omega)).mono ?_
  rintro e w2 ⟨rfl, hF, hfl, hb2⟩
  generalize hg : w1.heap.size = g at *
  have HF := Lib.hid hF
  replace HT := Lib.hid (HT.out.below (hg ▸ hb2))
  replace HM := Lib.hid (((hg ▸ hb2 : Below w1.heap.size w1 w2).cell (World.block_lt_of_cell? w1 _ HM.out)).trans HM.out)
  have hbr0 : Below w.heap.size w w2 := hb1.trans (hb2.mono (by have := hb1.size; omega))
  have hgl : g < w2.heap.size := hfl
  clear hF hb1 hb2 hfl hg HB
  go_wp2
  go_loopw [5, 6, 7, 8] (fun la li co at0 wr => ∃ k : Nat, k ≤ bs.length + 1 ∧ at0 = .int .i64 k ∧ la = .int .i64 (lastP bs k : Nat) ∧ li = .int .i64 (rowP bs k : Nat) ∧ co = .int .i64 (colP bs k : Nat) ∧
      Hid (TextAt wr p bs) ∧ Hid (FlagsAt wr g (bs.length + 1) (isBeg bs)) ∧ Hid (wr.cell? ⟨1, 0, none⟩ = some (.int .i64 m)) ∧ g < wr.heap.size ∧ Below w.heap.size w wr) (fun _ _ _ at0 _ => bs.length + 1 - (intOf at0).toNat)
  case atStart => exact ⟨0, Nat.zero_le _, rfl, rfl, rfl, rfl, HT, HF, HM, hgl, hbr0⟩
  case round =>
    obtain ⟨k, hk, rfl, rfl, rfl, rfl, HTr, HFr, HMr, hgr, hbr⟩ := hrel
    clear HT HF HM hgl hbr0
    by_cases hkl : k ≤ bs.length
    · have hturn := spot_turn bs k hkl
      have hsp : rSpot bs (k : Int) = (((rowOf bs k : Nat) : Int), ((colAt bs k : Nat) : Int), 0) := by
        have e : ((k : Int)).toNat = k := by omega
        unfold rSpot
        rw [if_neg (by omega), e]
      have hpl := place_last bs k hkl
      have hrow := row_le bs k hkl
      have hll := lns_length bs
      have hcl : bs.count 10 ≤ bs.length := List.count_le_length
      have hcu : colAt bs k ≤ bs.length + 1 := by
        rw [col_upto bs k hkl]
        have h1 : upto (cols (segOf bs k)) (k - fromOf bs k) ≤ (cols (segOf bs k)).length := List.countP_le_length
        have h2 := starts_length (segOf bs k)
        have h3 : (cols (segOf bs k)).length = (starts (segOf bs k)).length + 1 := by unfold cols; simp
        have h4 : (segOf bs k).size ≤ bs.length := by
          have hb := bnd_le bs 0 0 (rowOf bs k : Nat) (Nat.le_refl _)
          unfold segOf
          rw [str_size, seg_length]; omega
        omega
      have hfc := HFr.out.cell k (by omega)
      have hSp := tSpot_any p bs (k : Int) wr HTr.out (by omega)
      rw [hsp] at hSp
      have hP := fun (wx : World) (h : TextAt wx p bs) => tPlace_any p bs (rowOf bs k : Nat) (colAt bs k : Nat) wx h (by omega)
      rw [hpl] at hP
      have hnx : lastP bs (k + 1) = lastOf bs k ∧ rowP bs (k + 1) = rowOf bs k ∧ colP bs (k + 1) = colAt bs k := ⟨rfl, rfl, rfl⟩
      have HNX := Lib.hid hnx
      generalize hR : rowOf bs k = R at *
      generalize hC : colAt bs k = C at *
      generalize hL : lastOf bs k = L at *
      generalize isBeg bs k = B at *
      generalize rowP bs k = r at *
      generalize colP bs k = c at *
      generalize lastP bs k = l at *
      have hrow2 : R ≤ bs.length + 1 := by omega
      have HP := Lib.hid hP
      clear hP hll hsp hpl hnx hrow hR hC hL
      rcases hturn with ⟨rfl, rfl, rfl, hLk⟩ | ⟨rfl, rfl, rfl, hLk⟩ | ⟨rfl, rfl, rfl, hLk⟩
      all_goals
        have hLk' := hLk.symm
        clear hLk
        subst hLk'
        go_wp2_with fail
        refine hSp.mono ?_
        rintro e w3 ⟨rfl, hb3⟩
        have HT3 := Lib.hid (HTr.out.below hb3)
        have HF3 : Hid (FlagsAt w3 g (bs.length + 1) (isBeg bs)) := Lib.hid ((hb3.block g hgr).trans HFr.out)
        have hfc3 := (hb3.cell (p := ⟨g, k, none⟩) hgr).trans hfc
        have HM3 := Lib.hid ((hb3.cell (World.block_lt_of_cell? _ _ HMr.out)).trans HMr.out)
        have hgr3 : g < w3.heap.size := Nat.lt_of_lt_of_le hgr hb3.size
        have hbr3 := hbr.trans (hb3.mono hbr.size)
        clear hSp HTr HFr hfc HMr hgr hbr hb3
        go_wp2_with fail
        refine (HP.out _ HT3.out).mono ?_
        rintro e w4 ⟨rfl, hb4⟩
        have HT4 := Lib.hid (HT3.out.below hb4)
        have HF4 : Hid (FlagsAt w4 g (bs.length + 1) (isBeg bs)) := Lib.hid ((hb4.block g hgr3).trans HF3.out)
        have hfc4 := (hb4.cell (p := ⟨g, k, none⟩) hgr3).trans hfc3
        have HM4 := Lib.hid ((hb4.cell (World.block_lt_of_cell? _ _ HM3.out)).trans HM3.out)
        have hgr4 : g < w4.heap.size := Nat.lt_of_lt_of_le hgr3 hb4.size
        have hbr4 := hbr3.trans (hb4.mono hbr3.size)
        clear HP HT3 HF3 hfc3 HM3 hgr3 hbr3 hb4
        go_wp2
        go_roundw
        case rel => exact ⟨k + 1, by omega, by go_num, by rw [HNX.out.1] <;> go_num, by rw [HNX.out.2.1] <;> go_num, by rw [HNX.out.2.2] <;> go_num, HT4, HF4, HM4, hgr4, hbr4⟩
        case measure => simp [intOf]; omega
    · obtain rfl : k = bs.length + 1 := by omega
      have hrl : rowP bs (bs.length + 1) = bs.count 10 + 1 := by
        show rowOf bs bs.length = _
        unfold rowOf
        rw [List.take_of_length_le (Nat.le_refl _)]
      rw [hrl]
      clear hrl
      go_wp2_with fail
      refine (tLines_any p bs _ HTr.out).mono ?_
      rintro e w3 ⟨rfl, rfl⟩
      go_wp2_with (go_at_call 19; refine (head_any m _ HMr.out).mono ?_; rintro e w4 ⟨rfl, hb4⟩)
      go_ret
      exact ⟨rfl, hbr.trans (hb4.mono hbr.size)⟩

theorem lawBack (ao : Option Addr) (cap : Nat) (bs : List UInt8) (m : Int) (w : World) (hB : BAt w ao bs) (hcap : bs.length ≤ cap) (hm : w.cell? ⟨1, 0, none⟩ = some (.int .i64 m)) :
    Calls Tryd.prog 6 #[.slice ao bs.length cap] w fun e w' => e = .returned (.bool true) ∧ Below w.heap.size w w' := by
  by_cases hn : bs.length ≤ 4096
  · exact lawBack_near ao cap bs m w hB hcap hn hm
  · exact lawBack_far ao cap bs m w (by omega) hm
end Go.Proofs.YtdmdfcdfmedhcaaDoor
