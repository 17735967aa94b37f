/-
  What is proved here: a text's Lines, Line, Spot and Place answer what the reference answers. Conditions: the text lies in memory ('TextAt'); fewer than 2^31 bytes.
-/
import Derived.Test.YtdmdfcdfmedhcaaDoorText
import Derived.Test.YtdmdfcdfmedhcaaDoorRef4
import Derived.Deep.QuietTactic
import Derived.BigQuiet
namespace Go.Proofs.YtdmdfcdfmedhcaaDoor
open Go.RowKit

/-- What the walk reads of a text. -/
theorem TextAt.open {w : World} {p : Nat} {bs : List UInt8} (h : TextAt w p bs) : ∃ g1 c1 g2 c2, w.cell? ⟨p, 0, none⟩ = some (.slice (some ⟨g1, 0, none⟩) (lns bs).length c1) ∧
    w.cell? ⟨p, 1, none⟩ = some (.slice (some ⟨g2, 0, none⟩) (lns bs).length c2) ∧ w.cell? ⟨p, 2, none⟩ = some (.int .i64 (bs.length : Int)) ∧ Strs w g1 (linesOf bs) ∧ Nums w g2 (begs 0 (lns bs)) := by
  obtain ⟨g1, c1, g2, c2, h1, h2, h3, h4, h5, h6, h7⟩ := h
  exact ⟨g1, c1, g2, c2, block_cell h1 0, block_cell h1 1, block_cell h1 2, h6, h7⟩

set_option maxHeartbeats 400000 in
theorem tLines_any (p : Nat) (bs : List UInt8) (w : World) (hT : TextAt w p bs) :
    Calls Tryd.prog 15 #[.pointer (some ⟨p, 0, none⟩)] w fun e w' => e = .returned (.int .i64 ((bs.count 10 : Nat) + 1 : Int)) ∧ w = w' := by
  obtain ⟨g1, c1, g2, c2, h0, _, _, _, _⟩ := hT.open
  have hl := Lib.hid (lns_length bs)
  go_enter Tryd.func15, Tryd.ntmps15
  go_wp2
  go_ret
  exact ⟨by rw [hl.out]; rfl, rfl⟩

theorem seg_line (bs : List UInt8) (k : Nat) (h : k < (lns bs).length) : seg bs ((k : Int) + 1) = (lns bs)[k] := by
  have hb := bnd_line bs k h
  unfold seg
  rw [show ((k : Int) + 1) = ((k + 1 : Nat) : Int) from by omega, hb]
  exact take_drop_line bs k h

theorem ret2_str {a c : ByteArray} {b d : Int} (h1 : a = c) (h2 : b = d) : Ending.returned (.tuple #[.string a, .int .i64 b]) = .returned (.tuple #[.string c, .int .i64 d]) := by rw [h1, h2]

set_option maxHeartbeats 400000 in
theorem tLine_any (p : Nat) (bs : List UInt8) (n : Int) (w : World) (hT : TextAt w p bs) (hn : bs.length ≤ 2147483647) :
    Calls Tryd.prog 17 #[.pointer (some ⟨p, 0, none⟩), .int .i64 n] w fun e w' => e = .returned (.tuple #[.string (rLine bs n).1, .int .i64 (rLine bs n).2]) ∧ w = w' := by
  obtain ⟨g1, c1, g2, c2, h0, _, _, hS, _⟩ := hT.open
  have hll := lns_length bs
  have hcl : bs.count 10 ≤ bs.length := List.count_le_length
  by_cases h1 : n < 1
  · have e1 : rLine bs n = (ByteArray.empty, 1) := if_pos (Or.inl h1)
    rw [e1]
    clear e1 hll hS
    go_enter Tryd.func17, Tryd.ntmps17
    go_wp2
    go_ret2
    exact ⟨rfl, rfl⟩
  · by_cases h2 : ((lns bs).length : Int) < n
    · have e1 : rLine bs n = (ByteArray.empty, 1) := if_pos (Or.inr (by omega))
      rw [e1]
      clear e1 hll hS
      go_enter Tryd.func17, Tryd.ntmps17
      go_wp2
      go_ret2
      exact ⟨rfl, rfl⟩
    · obtain ⟨k, rfl⟩ : ∃ k : Nat, n = (k : Int) + 1 := ⟨(n - 1).toNat, by omega⟩
      have hk : k < (lns bs).length := by omega
      have e1 : rLine bs ((k : Int) + 1) = (str ((lns bs)[k]), 0) := by
        have : rLine bs ((k : Int) + 1) = (str (seg bs ((k : Int) + 1)), 0) := if_neg (by omega)
        rw [this, seg_line bs k hk]
      rw [e1]
      have hc := hS k (str ((lns bs)[k])) (by simp [linesOf, hk])
      generalize str ((lns bs)[k]) = s at *
      have hN : (lns bs).length ≤ 2147483648 := by omega
      clear e1 hll hS
      go_enter Tryd.func17, Tryd.ntmps17
      go_wp2
      go_ret2
      exact ⟨rfl, rfl⟩
end Go.Proofs.YtdmdfcdfmedhcaaDoor
