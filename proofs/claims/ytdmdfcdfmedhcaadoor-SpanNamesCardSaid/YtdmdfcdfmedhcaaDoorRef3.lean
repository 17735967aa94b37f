/-
  What is proved here: the reference's Spot answers the line and the column of a place ('rSpot'). Conditions: the bytes lie in memory; fewer than 2^40 of them.
-/
import Derived.Test.YtdmdfcdfmedhcaaDoorRef2
import Derived.Lib.OthersKept
namespace Go.Proofs.YtdmdfcdfmedhcaaDoor
open Go.RowKit

/-- How many pieces begin at or ahead of a place, the line beginning at f. -/
def colOf (f : Nat) (k : Nat) (l : List Nat) : Nat := l.countP (fun x => decide (f + x ≤ k))
theorem colOf_snoc_yes (f k : Nat) (l : List Nat) (x : Nat) (h : f + x ≤ k) : colOf f k (l ++ [x]) = colOf f k l + 1 := by simp [colOf, h]
theorem colOf_snoc_no (f k : Nat) (l : List Nat) (x : Nat) (h : ¬ f + x ≤ k) : colOf f k (l ++ [x]) = colOf f k l := by simp [colOf, h]
theorem colOf_le (f k : Nat) (l : List Nat) : colOf f k l ≤ l.length := List.countP_le_length

/-- The line of a place. -/
def rowOf (bs : List UInt8) (k : Nat) : Nat := (bs.take k).count 10 + 1
/-- The place where that line begins, its end. -/
def fromOf (bs : List UInt8) (k : Nat) : Nat := (bnd bs 0 0 (rowOf bs k : Nat)).1
def toOf (bs : List UInt8) (k : Nat) : Nat := (bnd bs 0 0 (rowOf bs k : Nat)).2
def segOf (bs : List UInt8) (k : Nat) : ByteArray := str (seg bs (rowOf bs k : Nat))
/-- The column of a place. -/
def colAt (bs : List UInt8) (k : Nat) : Nat := colOf (fromOf bs k) k (starts (segOf bs k)) + if k = toOf bs k then 1 else 0

set_option maxHeartbeats 400000 in
theorem spot_out (ao : Option Addr) (cap : Nat) (bs : List UInt8) (n : Int) (w : World) (h : n < 0 ∨ (bs.length : Int) < n) :
    Calls Tryd.prog 21 #[.slice ao bs.length cap, .int .i64 n] w fun e w' => e = .returned (.tuple #[.int .i64 0, .int .i64 0, .int .i64 1]) ∧ Below w.heap.size w w' := by
  by_cases h0 : n < 0
  · go_enter Tryd.func21, Tryd.ntmps21
    go_wp2_with fail
    go_ret3
    exact ⟨rfl, Below.refl _ _⟩
  · have h1 : (bs.length : Int) < n := by omega
    clear h
    go_enter Tryd.func21, Tryd.ntmps21
    go_wp2_with fail
    go_ret3
    exact ⟨rfl, Below.refl _ _⟩

theorem ret3_int {a b c a' b' c' : Int} (h1 : a = a') (h2 : b = b') (h3 : c = c') : Ending.returned (.tuple #[.int .i64 a, .int .i64 b, .int .i64 c]) = .returned (.tuple #[.int .i64 a', .int .i64 b', .int .i64 c']) := by rw [h1, h2, h3]

set_option maxHeartbeats 1000000 in
set_option maxRecDepth 100000 in
theorem spot_in (ao : Option Addr) (cap : Nat) (bs : List UInt8) (k : Nat) (w : World) (hB : BAt w ao bs) (hcap : bs.length ≤ cap) (hn : bs.length ≤ 1099511627776) (hk : k ≤ bs.length) :
    Calls Tryd.prog 21 #[.slice ao bs.length cap, .int .i64 k] w fun e w' => e = .returned (.tuple #[.int .i64 (rowOf bs k : Nat), .int .i64 (colAt bs k : Nat), .int .i64 0]) ∧ Below w.heap.size w w' := by
  have hb := bnd_le bs 0 0 (rowOf bs k : Nat) (Nat.le_refl _)
  have hr : rowOf bs k ≤ bs.length + 1 := by
    have : (bs.take k).count 10 ≤ (bs.take k).length := List.count_le_length
    unfold rowOf; simp at this; omega
  have hr1 : 1 ≤ rowOf bs k := by unfold rowOf; omega
  have hl := lines_any ao cap (bs.take k) w (hB.front k) (by simp; omega)
  rw [show (bs.take k).length = k from by simp; omega] at hl
  rw [show ((((bs.take k).count 10 : Nat) + 1 : Int)) = ((rowOf bs k : Nat) : Int) from by unfold rowOf; omega] at hl
  have hbo := bounds_any ao cap bs (rowOf bs k : Nat) w hB hn (by omega) (by omega)
  have hcv := fun dst hd => (hB.part cap (fromOf bs k) (toOf bs k) hcap).conv (P := Tryd.prog) (toOf bs k - fromOf bs k) (cap - fromOf bs k) (seg_length bs (rowOf bs k : Nat)).symm 22 dst 5 Tryd.underlying22 Tryd.underlying5 hd
  rw [show str ((bs.take (toOf bs k)).drop (fromOf bs k)) = segOf bs k from rfl] at hcv
  have hsl := starts_length (segOf bs k)
  have hss : (segOf bs k).size = toOf bs k - fromOf bs k := by rw [segOf, str_size, seg_length]; rfl
  unfold colAt
  rw [show (bnd bs 0 0 (rowOf bs k : Nat)).1 = fromOf bs k from rfl, show (bnd bs 0 0 (rowOf bs k : Nat)).2 = toOf bs k from rfl] at *
  generalize fromOf bs k = f at *
  generalize toOf bs k = t at *
  generalize segOf bs k = s at *
  generalize rowOf bs k = r at *
  have hfc : f ≤ cap := by omega
  have hs40 : s.size ≤ 1099511627776 := by omega
  obtain ⟨C, hC⟩ : ∃ C, colOf f k (starts s) + (if k = t then 1 else 0) = C := ⟨_, rfl⟩
  rw [hC]
  have HC := Lib.hid hC
  clear hC hss
  go_enter Tryd.func21, Tryd.ntmps21
  go_wp2_with (first | (go_at_call 16; refine hl.mono ?_; rintro e w' ⟨rfl, rfl⟩) | (go_at_call 37; refine hbo.mono ?_; rintro e w' ⟨rfl, rfl⟩))
  all_goals
    go_loopw [10] (fun c wr => ∃ (pos fuel : Nat) (acc : List Nat), wr.heap[w.heap.size]? = some (.stringIter s pos) ∧ Below w.heap.size w wr ∧ Hid (acc ++ startsF s fuel pos = starts s) ∧ Hid (s.size ≤ pos + fuel) ∧ acc.length ≤ pos ∧ c = .int .i64 (colOf f k acc : Nat)) (fun _ wr => s.size - wr.iterPos w.heap.size)
    case atStart =>
      refine ⟨0, s.size, [], ?_, (Below.refl _ w).alloc (Nat.le_refl _) _, Lib.hid rfl, Lib.hid (by omega), by simp, rfl⟩
      have := World.iter_heap w s 0
      simpa using this
    case round =>
      obtain ⟨pos, fuel, acc, hit, hbw, hacc, hfu, hal, rfl⟩ := hrel
      have hsz : w.heap.size < wr.heap.size := (Array.getElem?_eq_some_iff.1 hit).1
      have hco := colOf_le f k acc
      by_cases hp : pos < s.size
      · have hnx : ∀ ty, (Instr.next (.pointer (some ⟨w.heap.size, 0, none⟩)) true ty).run Tryd.prog wr = _ := fun ty => Lib.run_next_any_at wr w.heap.size s pos ty hit hp
        have hwd := width_pos s pos hp
        have hd1 := decode_le s pos
        have hit2 := Lib.iterAt_heap wr w.heap.size s pos (pos + (Utf8.decode s pos).2) hit
        have hbw2 := Lib.below_iterAt hbw (k := w.heap.size) (Nat.le_refl _) s (pos + (Utf8.decode s pos).2)
        obtain ⟨fu, rfl⟩ : ∃ fu, fuel = fu + 1 := ⟨fuel - 1, by have := hfu.out; omega⟩
        have hst := startsF_step s fu pos hp
        have hacc2 : Hid ((acc ++ [pos]) ++ startsF s fu (pos + (Utf8.decode s pos).2) = starts s) := Lib.hid (by rw [← hacc.out, hst]; simp)
        have hfu2 : Hid (s.size ≤ pos + (Utf8.decode s pos).2 + fu) := Lib.hid (by have := hfu.out; omega)
        clear hst hacc hfu
        by_cases hle : f + pos ≤ k
        · have hcy := Lib.hid (colOf_snoc_yes f k acc pos hle)
          go_wp2
          go_roundw
          case rel => exact ⟨_, fu, acc ++ [pos], hit2, hbw2, hacc2, hfu2, by simp; omega, by rw [hcy.out]; go_num⟩
          case measure =>
            simp only [World.iterPos, hit2, hit]
            omega
        · have hcy := Lib.hid (colOf_snoc_no f k acc pos hle)
          go_wp2
          go_roundw
          case rel => exact ⟨_, fu, acc ++ [pos], hit2, hbw2, hacc2, hfu2, by simp; omega, by rw [hcy.out]⟩
          case measure =>
            simp only [World.iterPos, hit2, hit]
            omega
      · have hnx : ∀ ty, (Instr.next (.pointer (some ⟨w.heap.size, 0, none⟩)) true ty).run Tryd.prog wr = _ := fun ty => Lib.run_next_end_at wr w.heap.size s pos ty hit hp
        have hend := startsF_end s fuel pos hp
        have hfin : Hid (acc = starts s) := Lib.hid (by have := hacc.out; rw [hend] at this; simpa using this)
        clear hend hacc hfu
        have hal2 : acc.length ≤ 1099511627776 := by rw [hfin.out]; omega
        by_cases hkt : k = t
        · have hkb : ((k : Int) == (t : Int)) = true := by rw [hkt]; simp
          have HF : Hid (((colOf f k acc : Nat) : Int) + 1 = (C : Int)) := Lib.hid (by have := HC.out; rw [if_pos hkt, ← hfin.out] at this; omega)
          clear hkt HC hfin
          go_wp2
          go_ret3
          exact ⟨ret3_int rfl HF.out rfl, hbw⟩
        · have hkb : ((k : Int) == (t : Int)) = false := by rw [beq_eq_false_iff_ne]; omega
          have HF : Hid (((colOf f k acc : Nat) : Int) = (C : Int)) := Lib.hid (by have := HC.out; rw [if_neg hkt, ← hfin.out] at this; omega)
          clear hkt HC hfin
          go_wp2
          go_ret3
          exact ⟨ret3_int rfl HF.out rfl, hbw⟩

/-- What the reference's Spot answers. -/
def rSpot (bs : List UInt8) (n : Int) : Int × Int × Int := if n < 0 ∨ (bs.length : Int) < n then (0, 0, 1) else (((rowOf bs n.toNat : Nat) : Int), ((colAt bs n.toNat : Nat) : Int), 0)

theorem spot_any (ao : Option Addr) (cap : Nat) (bs : List UInt8) (n : Int) (w : World) (hB : BAt w ao bs) (hcap : bs.length ≤ cap) (hn : bs.length ≤ 1099511627776) :
    Calls Tryd.prog 21 #[.slice ao bs.length cap, .int .i64 n] w fun e w' => e = .returned (.tuple #[.int .i64 (rSpot bs n).1, .int .i64 (rSpot bs n).2.1, .int .i64 (rSpot bs n).2.2]) ∧ Below w.heap.size w w' := by
  by_cases h : n < 0 ∨ (bs.length : Int) < n
  · have e1 : rSpot bs n = (0, 0, 1) := if_pos h
    rw [e1]
    exact spot_out ao cap bs n w h
  · have e1 : rSpot bs n = (((rowOf bs n.toNat : Nat) : Int), ((colAt bs n.toNat : Nat) : Int), 0) := if_neg h
    rw [e1]
    obtain ⟨k, rfl⟩ : ∃ k : Nat, n = k := ⟨n.toNat, by omega⟩
    exact spot_in ao cap bs k w hB hcap hn (by omega)
end Go.Proofs.YtdmdfcdfmedhcaaDoor
