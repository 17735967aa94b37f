/-
  What is proved here: the reference's Line answers a line's bytes, or the error ('rLine'). Conditions: the bytes lie in memory; fewer than 2^40 of them.
-/
import Derived.Test.YtdmdfcdfmedhcaaDoorRef1
namespace Go.Proofs.YtdmdfcdfmedhcaaDoor
open Go.RowKit

theorem bnd_le : ∀ (l : List UInt8) (i s : Nat) (n : Int), s ≤ i → (bnd l i s n).1 ≤ (bnd l i s n).2 ∧ (bnd l i s n).2 ≤ i + l.length
  | [], i, s, n, h => by simp [bnd, h]
  | c :: r, i, s, n, h => by
    unfold bnd
    split
    · split
      · simp [h]
      · have := bnd_le r (i + 1) (i + 1) (n - 1) (Nat.le_refl _)
        simp only [List.length_cons]; omega
    · have := bnd_le r (i + 1) s n (by omega)
      simp only [List.length_cons]; omega

/-- The n-th line's bytes, by the reference's search. -/
def seg (bs : List UInt8) (n : Int) : List UInt8 := (bs.take (bnd bs 0 0 n).2).drop (bnd bs 0 0 n).1

theorem seg_length (bs : List UInt8) (n : Int) : (seg bs n).length = (bnd bs 0 0 n).2 - (bnd bs 0 0 n).1 := by
  have := bnd_le bs 0 0 n (Nat.le_refl _)
  simp [seg]; omega

set_option maxHeartbeats 400000 in
theorem line_low (ao : Option Addr) (cap : Nat) (bs : List UInt8) (n : Int) (w : World) (h : n < 1) :
    Calls Tryd.prog 18 #[.slice ao bs.length cap, .int .i64 n] w fun e w' => e = .returned (.tuple #[.string ByteArray.empty, .int .i64 1]) ∧ w = w' := by
  go_enter Tryd.func18, Tryd.ntmps18
  go_wp2_with fail
  go_ret2
  exact ⟨rfl, rfl⟩

set_option maxHeartbeats 400000 in
theorem line_high (ao : Option Addr) (cap : Nat) (bs : List UInt8) (n : Int) (w : World) (hB : BAt w ao bs) (hn : bs.length ≤ 1099511627776) (h1 : 1 ≤ n) (h : ((bs.count 10 : Nat) : Int) + 1 < n) :
    Calls Tryd.prog 18 #[.slice ao bs.length cap, .int .i64 n] w fun e w' => e = .returned (.tuple #[.string ByteArray.empty, .int .i64 1]) ∧ w = w' := by
  go_enter Tryd.func18, Tryd.ntmps18
  go_wp2_with (go_at_call 16; refine (lines_any _ _ _ _ hB hn).mono ?_; rintro e w' ⟨rfl, rfl⟩)
  go_ret2
  exact ⟨rfl, rfl⟩

set_option maxHeartbeats 400000 in
theorem line_in (ao : Option Addr) (cap : Nat) (bs : List UInt8) (n : Int) (w : World) (hB : BAt w ao bs) (hcap : bs.length ≤ cap) (hn : bs.length ≤ 1099511627776) (h1 : 1 ≤ n) (h : n ≤ ((bs.count 10 : Nat) : Int) + 1) :
    Calls Tryd.prog 18 #[.slice ao bs.length cap, .int .i64 n] w fun e w' => e = .returned (.tuple #[.string (str (seg bs n)), .int .i64 0]) ∧ w = w' := by
  have hb := bnd_le bs 0 0 n (Nat.le_refl _)
  have hc : bs.count 10 ≤ bs.length := List.count_le_length
  have hbo := bounds_any ao cap bs n w hB hn h1 (by omega)
  have hcv := fun dst hd => (hB.part cap (bnd bs 0 0 n).1 (bnd bs 0 0 n).2 hcap).conv (P := Tryd.prog) ((bnd bs 0 0 n).2 - (bnd bs 0 0 n).1) (cap - (bnd bs 0 0 n).1) (seg_length bs n).symm 22 dst 5 Tryd.underlying22 Tryd.underlying5 hd
  rw [show ((bs.take (bnd bs 0 0 n).2).drop (bnd bs 0 0 n).1) = seg bs n from rfl] at hcv
  generalize (bnd bs 0 0 n).1 = f at *
  generalize (bnd bs 0 0 n).2 = t at *
  generalize seg bs n = sg at *
  have hfc : f ≤ cap := by omega
  go_enter Tryd.func18, Tryd.ntmps18
  go_wp2_with (first | (go_at_call 16; refine (lines_any _ _ _ _ hB hn).mono ?_; rintro e w' ⟨rfl, rfl⟩) | (go_at_call 37; refine hbo.mono ?_; rintro e w' ⟨rfl, rfl⟩))
  all_goals go_ret2
  all_goals exact ⟨rfl, rfl⟩

/-- What the reference's Line answers. -/
def rLine (bs : List UInt8) (n : Int) : ByteArray × Int := if n < 1 ∨ ((bs.count 10 : Nat) : Int) + 1 < n then (ByteArray.empty, 1) else (str (seg bs n), 0)

theorem line_any (ao : Option Addr) (cap : Nat) (bs : List UInt8) (n : Int) (w : World) (hB : BAt w ao bs) (hcap : bs.length ≤ cap) (hn : bs.length ≤ 1099511627776) :
    Calls Tryd.prog 18 #[.slice ao bs.length cap, .int .i64 n] w fun e w' => e = .returned (.tuple #[.string (rLine bs n).1, .int .i64 (rLine bs n).2]) ∧ w = w' := by
  by_cases h1 : n < 1
  · have e1 : rLine bs n = (ByteArray.empty, 1) := if_pos (Or.inl h1)
    rw [e1]
    exact line_low ao cap bs n w h1
  · by_cases h2 : ((bs.count 10 : Nat) : Int) + 1 < n
    · have e1 : rLine bs n = (ByteArray.empty, 1) := if_pos (Or.inr h2)
      rw [e1]
      exact line_high ao cap bs n w hB hn (by omega) h2
    · have e1 : rLine bs n = (str (seg bs n), 0) := if_neg (by omega)
      rw [e1]
      exact line_in ao cap bs n w hB hcap hn (by omega) (by omega)
end Go.Proofs.YtdmdfcdfmedhcaaDoor
