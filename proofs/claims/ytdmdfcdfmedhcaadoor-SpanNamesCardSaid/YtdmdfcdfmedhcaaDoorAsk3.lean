/-
  What is proved here: a text's Place answers what the reference's Place answers. Conditions: the text lies in memory ('TextAt'); fewer than 2^31 bytes.
-/
import Derived.Test.YtdmdfcdfmedhcaaDoorAsk2
namespace Go.Proofs.YtdmdfcdfmedhcaaDoor
open Go.RowKit

set_option maxHeartbeats 400000 in
theorem tPlace_line (p : Nat) (bs : List UInt8) (n c : Int) (w : World) (hT : TextAt w p bs) (hn : bs.length ≤ 2147483647) (h : n < 1 ∨ ((bs.count 10 : Nat) : Int) + 1 < n) :
    Calls Tryd.prog 22 #[.pointer (some ⟨p, 0, none⟩), .int .i64 n, .int .i64 c] w fun e w' => e = .returned (.tuple #[.int .i64 0, .int .i64 1]) ∧ Below w.heap.size w w' := by
  have hl := tLine_any p bs n w hT hn
  rw [show rLine bs n = (ByteArray.empty, 1) from if_pos h] at hl
  clear h
  go_enter Tryd.func22, Tryd.ntmps22
  go_wp2_with (go_at_call 17; refine hl.mono ?_; rintro e w' ⟨rfl, rfl⟩)
  go_ret2
  exact ⟨rfl, Below.refl _ _⟩

set_option maxHeartbeats 1000000 in
theorem tPlace_in (p : Nat) (bs : List UInt8) (k : Nat) (c : Int) (w : World) (hT : TextAt w p bs) (hn : bs.length ≤ 2147483647) (hk : k < (lns bs).length) (V : Int × Int)
    (hV : (if c < 1 ∨ ((cols (str ((lns bs)[k]))).length : Int) < c then ((0 : Int), (1 : Int)) else (((off (lns bs) k + (cols (str ((lns bs)[k]))).getD (c.toNat - 1) 0 : Nat) : Int), 0)) = V) :
    Calls Tryd.prog 22 #[.pointer (some ⟨p, 0, none⟩), .int .i64 ((k : Int) + 1), .int .i64 c] w fun e w' => e = .returned (.tuple #[.int .i64 V.1, .int .i64 V.2]) ∧ Below w.heap.size w w' := by
  have hl := tLine_any p bs ((k : Int) + 1) w hT hn
  have hll := lns_length bs
  have hcl : bs.count 10 ≤ bs.length := List.count_le_length
  have hol := off_line bs k hk
  rw [show rLine bs ((k : Int) + 1) = (str ((lns bs)[k]), 0) from by rw [← seg_line bs k hk]; exact if_neg (by omega)] at hl
  obtain ⟨g1, c1, g2, c2, h0, h1, h2, hS, hN⟩ := hT.open
  have hfc : w.cell? ⟨g2, k, none⟩ = some (.int .i64 (off (lns bs) k : Nat)) := by
    have := begs_get (lns bs) 0 k hk
    rw [Nat.zero_add] at this
    exact hN k _ this
  have hsz : (str ((lns bs)[k])).size ≤ 2147483647 := by rw [str_size]; omega
  have hsz2 : off (lns bs) k + (str ((lns bs)[k])).size ≤ 2147483647 := by rw [str_size]; omega
  have hpl : p < w.heap.size := World.block_lt_of_cell? w _ h1
  have hgl : g2 < w.heap.size := World.block_lt_of_cell? w _ hfc
  have hN2 : (lns bs).length ≤ 2147483648 := by omega
  clear hS hN hT hll hol h0 h2
  generalize str ((lns bs)[k]) = s at *
  generalize off (lns bs) k = f at *
  generalize (lns bs).length = N at *
  have hmem : ∀ i x, (cols s)[i]? = some x → x ≤ s.size := fun i x hx => by
    have hm := List.mem_of_getElem? hx
    unfold cols at hm
    rcases List.mem_append.1 hm with h | h
    · have := startsF_mem s _ _ x h; omega
    · simp at h; omega
  have hlen : (cols s).length ≤ 2147483648 := by have := starts_length s; unfold cols; simp; omega
  by_cases hc1 : c < 1
  · rw [if_pos (Or.inl hc1)] at hV
    subst hV
    go_enter Tryd.func22, Tryd.ntmps22
    go_wp2_with (first | (go_at_call 17; refine hl.mono ?_; rintro e w' ⟨rfl, rfl⟩) | (go_at_call 38; refine (pieces_any s _ (by omega)).mono ?_; rintro e w1 ⟨g, cp, rfl, hNum, hg1, hg2, hcc, hcm, hb1⟩))
    go_ret2
    exact ⟨rfl, by assumption⟩
  · by_cases hc2 : ((cols s).length : Int) < c
    · rw [if_pos (Or.inr hc2)] at hV
      subst hV
      go_enter Tryd.func22, Tryd.ntmps22
      go_wp2_with (first | (go_at_call 17; refine hl.mono ?_; rintro e w' ⟨rfl, rfl⟩) | (go_at_call 38; refine (pieces_any s _ (by omega)).mono ?_; rintro e w1 ⟨g, cp, rfl, hNum, hg1, hg2, hcc, hcm, hb1⟩))
      go_ret2
      exact ⟨rfl, by assumption⟩
    · rw [if_neg (by omega)] at hV
      obtain ⟨i, rfl⟩ : ∃ i : Nat, c = (i : Int) + 1 := ⟨c.toNat - 1, by omega⟩
      have hi : i < (cols s).length := by omega
      obtain ⟨x, hx⟩ : ∃ x, (cols s)[i]? = some x := ⟨_, List.getElem?_eq_getElem hi⟩
      have hxs := hmem i x hx
      have e1 : (((i : Int) + 1).toNat - 1) = i := by omega
      rw [e1, List.getD_eq_getElem?_getD, hx] at hV
      subst hV
      have HX := Lib.hid hx
      have HM := Lib.hid hmem
      clear hx hmem e1 hc2 hc1
      go_enter Tryd.func22, Tryd.ntmps22
      go_wp2_with fail
      refine hl.mono ?_
      rintro e w' ⟨rfl, rfl⟩
      go_wp2_with fail
      refine (pieces_any s _ (by omega)).mono ?_
      rintro e w1 ⟨g, cp, rfl, hNum, hg1, hg2, hcc, hcm, hb1⟩
      have k1 : w1.cell? ⟨p, 1, none⟩ = some (.slice (some ⟨g2, 0, none⟩) N c2) := (hb1.cell (p := ⟨p, 1, none⟩) hpl).trans h1
      have k2 : w1.cell? ⟨g2, k, none⟩ = some (.int .i64 (f : Int)) := (hb1.cell (p := ⟨g2, k, none⟩) hgl).trans hfc
      have k3 : w1.cell? ⟨g, i, none⟩ = some (.int .i64 (x : Int)) := hNum i x HX.out
      clear hNum h1 hfc hl
      generalize (cols s).length = L at *
      go_wp2
      go_quiet (fail)
      go_wp2
      go_ret2
      exact ⟨ret2_int (by simp) rfl, below_drewN hb1 _⟩

theorem tPlace_any (p : Nat) (bs : List UInt8) (n c : Int) (w : World) (hT : TextAt w p bs) (hn : bs.length ≤ 2147483647) :
    Calls Tryd.prog 22 #[.pointer (some ⟨p, 0, none⟩), .int .i64 n, .int .i64 c] w fun e w' => e = .returned (.tuple #[.int .i64 (rPlace bs n c).1, .int .i64 (rPlace bs n c).2]) ∧ Below w.heap.size w w' := by
  by_cases h : n < 1 ∨ ((bs.count 10 : Nat) : Int) + 1 < n
  · have e1 : rPlace bs n c = (0, 1) := if_pos (by omega)
    rw [e1]
    exact tPlace_line p bs n c w hT hn h
  · have hll := lns_length bs
    obtain ⟨k, rfl⟩ : ∃ k : Nat, n = (k : Int) + 1 := ⟨(n - 1).toNat, by omega⟩
    have hk : k < (lns bs).length := by omega
    refine tPlace_in p bs k c w hT hn hk _ ?_
    have hb := bnd_line bs k hk
    unfold rPlace
    rw [seg_line bs k hk, show ((k : Int) + 1) = ((k + 1 : Nat) : Int) from by omega, hb]
    by_cases hc1 : c < 1
    · rw [if_pos (Or.inl hc1), if_pos (Or.inr (Or.inr hc1))]
    · by_cases hc2 : ((cols (str ((lns bs)[k]))).length : Int) < c
      · rw [if_pos (Or.inr hc2), if_neg (by omega), if_pos hc2]
      · rw [if_neg (by omega), if_neg (by omega), if_neg hc2]
end Go.Proofs.YtdmdfcdfmedhcaaDoor
