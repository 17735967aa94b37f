/-
  What is proved here: the reference's Place answers the place of a line and a column ('rPlace'). Conditions: the bytes lie in memory; fewer than 2^40 of them.
-/
import Derived.Test.YtdmdfcdfmedhcaaDoorRef3
namespace Go.Proofs.YtdmdfcdfmedhcaaDoor
open Go.RowKit

/-- What the reference's Place answers. -/
def rPlace (bs : List UInt8) (n c : Int) : Int × Int :=
  if n < 1 ∨ ((bs.count 10 : Nat) : Int) + 1 < n ∨ c < 1 then (0, 1)
  else if ((cols (str (seg bs n))).length : Int) < c then (0, 1)
  else ((((bnd bs 0 0 n).1 + (cols (str (seg bs n))).getD (c.toNat - 1) 0 : Nat) : Int), 0)

set_option maxHeartbeats 400000 in
theorem place_out (ao : Option Addr) (cap : Nat) (bs : List UInt8) (n c : Int) (w : World) (hB : BAt w ao bs) (hn : bs.length ≤ 1099511627776) (h : n < 1 ∨ ((bs.count 10 : Nat) : Int) + 1 < n ∨ c < 1) :
    Calls Tryd.prog 23 #[.slice ao bs.length cap, .int .i64 n, .int .i64 c] w fun e w' => e = .returned (.tuple #[.int .i64 0, .int .i64 1]) ∧ Below w.heap.size w w' := by
  by_cases h0 : n < 1
  · clear h
    go_enter Tryd.func23, Tryd.ntmps23
    go_wp2_with fail
    go_ret2
    exact ⟨rfl, Below.refl _ _⟩
  · by_cases h1 : ((bs.count 10 : Nat) : Int) + 1 < n
    · clear h
      go_enter Tryd.func23, Tryd.ntmps23
      go_wp2_with (go_at_call 16; refine (lines_any _ _ _ _ hB hn).mono ?_; rintro e w' ⟨rfl, rfl⟩)
      go_ret2
      exact ⟨rfl, Below.refl _ _⟩
    · have h2 : c < 1 := by omega
      clear h
      go_enter Tryd.func23, Tryd.ntmps23
      go_wp2_with (go_at_call 16; refine (lines_any _ _ _ _ hB hn).mono ?_; rintro e w' ⟨rfl, rfl⟩)
      go_ret2
      exact ⟨rfl, Below.refl _ _⟩

set_option maxHeartbeats 1000000 in
set_option maxRecDepth 100000 in
theorem place_in (ao : Option Addr) (cap : Nat) (bs : List UInt8) (n c : Int) (w : World) (hB : BAt w ao bs) (hcap : bs.length ≤ cap) (hn : bs.length ≤ 1099511627776) (h1 : 1 ≤ n) (h2 : n ≤ ((bs.count 10 : Nat) : Int) + 1) (h3 : 1 ≤ c) (hc63 : c ≤ 9223372036854775807) (V : Int × Int)
    (hV : (if ((cols (str (seg bs n))).length : Int) < c then ((0 : Int), (1 : Int)) else ((((bnd bs 0 0 n).1 + (cols (str (seg bs n))).getD (c.toNat - 1) 0 : Nat) : Int), 0)) = V) :
    Calls Tryd.prog 23 #[.slice ao bs.length cap, .int .i64 n, .int .i64 c] w fun e w' => e = .returned (.tuple #[.int .i64 V.1, .int .i64 V.2]) ∧ Below w.heap.size w w' := by
  have hb := bnd_le bs 0 0 n (Nat.le_refl _)
  have hcn : bs.count 10 ≤ bs.length := List.count_le_length
  have hbo := bounds_any ao cap bs n w hB hn h1 (by omega)
  have hcv := fun dst hd => (hB.part cap (bnd bs 0 0 n).1 (bnd bs 0 0 n).2 hcap).conv (P := Tryd.prog) ((bnd bs 0 0 n).2 - (bnd bs 0 0 n).1) (cap - (bnd bs 0 0 n).1) (seg_length bs n).symm 22 dst 5 Tryd.underlying22 Tryd.underlying5 hd
  rw [show str ((bs.take (bnd bs 0 0 n).2).drop (bnd bs 0 0 n).1) = str (seg bs n) from rfl] at hcv
  have hsl := starts_length (str (seg bs n))
  have hss : (str (seg bs n)).size = (bnd bs 0 0 n).2 - (bnd bs 0 0 n).1 := by rw [str_size, seg_length]
  generalize (bnd bs 0 0 n).1 = f at *
  generalize (bnd bs 0 0 n).2 = t at *
  generalize str (seg bs n) = s at *
  have hfc : f ≤ cap := by omega
  have hs40 : s.size ≤ 1099511627776 := by omega
  have hts : Hid (t = f + s.size) := Lib.hid (by omega)
  obtain ⟨V1, V2⟩ := V
  have HV := Lib.hid hV
  clear hV hss
  go_enter Tryd.func23, Tryd.ntmps23
  go_wp2_with (first | (go_at_call 16; refine (lines_any _ _ _ _ hB hn).mono ?_; rintro e w' ⟨rfl, rfl⟩) | (go_at_call 37; refine hbo.mono ?_; rintro e w' ⟨rfl, rfl⟩))
  all_goals
    go_loopw [2] (fun cc wr => ∃ (pos fuel : Nat) (acc : List Nat) (m : Int), wr.heap[w.heap.size]? = some (.stringIter s pos) ∧ Below w.heap.size w wr ∧ Hid (acc ++ startsF s fuel pos = starts s) ∧ Hid (s.size ≤ pos + fuel) ∧ 1 ≤ m ∧ m ≤ c ∧ Hid (m + acc.length = c) ∧ cc = .int .i64 m) (fun _ wr => s.size - wr.iterPos w.heap.size)
    case atStart =>
      refine ⟨0, s.size, [], c, ?_, (Below.refl _ w).alloc (Nat.le_refl _) _, Lib.hid rfl, Lib.hid (by omega), h3, Int.le_refl _, Lib.hid (by simp), rfl⟩
      have := World.iter_heap w s 0
      simpa using this
    case round =>
      obtain ⟨pos, fuel, acc, m, hit, hbw, hacc, hfu, hm1, hm2, hmc, rfl⟩ := hrel
      have hsz : w.heap.size < wr.heap.size := (Array.getElem?_eq_some_iff.1 hit).1
      by_cases hp : pos < s.size
      · have hnx : ∀ ty, (Instr.next (.pointer (some ⟨w.heap.size, 0, none⟩)) true ty).run Tryd.prog wr = _ := fun ty => Lib.run_next_any_at wr w.heap.size s pos ty hit hp
        have hwd := width_pos s pos hp
        have hit2 := Lib.iterAt_heap wr w.heap.size s pos (pos + (Utf8.decode s pos).2) hit
        have hbw2 := Lib.below_iterAt hbw (k := w.heap.size) (Nat.le_refl _) s (pos + (Utf8.decode s pos).2)
        obtain ⟨fu, rfl⟩ : ∃ fu, fuel = fu + 1 := ⟨fuel - 1, by have := hfu.out; omega⟩
        have hst := startsF_step s fu pos hp
        have hacc2 : Hid ((acc ++ [pos]) ++ startsF s fu (pos + (Utf8.decode s pos).2) = starts s) := Lib.hid (by rw [← hacc.out, hst]; simp)
        have hfu2 : Hid (s.size ≤ pos + (Utf8.decode s pos).2 + fu) := Lib.hid (by have := hfu.out; omega)
        by_cases hm : m = 1
        · have hmb : (m == 1) = true := by rw [hm]; rfl
          have HF : Hid ((f : Int) + pos = V1 ∧ (0 : Int) = V2) := Lib.hid (by
            have h5 := HV.out
            have hcl : cols s = acc ++ pos :: (startsF s fu (pos + (Utf8.decode s pos).2) ++ [s.size]) := by
              unfold cols; rw [← hacc2.out]; simp
            have h6 := hmc.out
            have h7 : c.toNat - 1 = acc.length := by omega
            rw [hcl, h7, if_neg (by simp; omega)] at h5
            simp at h5
            exact ⟨by omega, by omega⟩)
          clear hst hacc hfu hm
          go_wp2
          go_ret2
          exact ⟨ret2_int HF.out.1 HF.out.2, hbw2⟩
        · have hmb : (m == 1) = false := by rw [beq_eq_false_iff_ne]; exact hm
          have hm3 : 2 ≤ m := by omega
          have hmc2 : Hid (m - 1 + ((acc ++ [pos]).length : Nat) = c) := Lib.hid (by have := hmc.out; simp; omega)
          clear hst hacc hfu hm hmc
          go_wp2
          go_roundw
          case rel => exact ⟨_, fu, acc ++ [pos], m - 1, hit2, hbw2, hacc2, hfu2, by omega, by omega, hmc2, rfl⟩
          case measure =>
            simp only [World.iterPos, hit2, hit]
            omega
      · have hnx : ∀ ty, (Instr.next (.pointer (some ⟨w.heap.size, 0, none⟩)) true ty).run Tryd.prog wr = _ := fun ty => Lib.run_next_end_at wr w.heap.size s pos ty hit hp
        have hend := startsF_end s fuel pos hp
        have hfin : Hid (acc = starts s) := Lib.hid (by have := hacc.out; rw [hend] at this; simpa using this)
        by_cases hm : m = 1
        · have hmb : ¬ 1 < m := by omega
          have HF : Hid ((t : Int) = V1 ∧ (0 : Int) = V2) := Lib.hid (by
            have h5 := HV.out
            have h6 := hmc.out
            have h7 : c.toNat - 1 = acc.length := by omega
            have h8 := hts.out
            unfold cols at h5
            rw [← hfin.out, h7, if_neg (by simp; omega)] at h5
            simp at h5
            exact ⟨by omega, by omega⟩)
          clear hend hacc hfu hm
          go_wp2
          go_ret2
          exact ⟨ret2_int HF.out.1 HF.out.2, hbw⟩
        · have hmb : 1 < m := by omega
          have HF : Hid ((0 : Int) = V1 ∧ (1 : Int) = V2) := Lib.hid (by
            have h5 := HV.out
            have h6 := hmc.out
            unfold cols at h5
            rw [← hfin.out, if_pos (by simp; omega)] at h5
            simp at h5
            exact ⟨by omega, by omega⟩)
          clear hend hacc hfu hm
          go_wp2
          go_ret2
          exact ⟨ret2_int HF.out.1 HF.out.2, hbw⟩

theorem place_any (ao : Option Addr) (cap : Nat) (bs : List UInt8) (n c : Int) (w : World) (hB : BAt w ao bs) (hcap : bs.length ≤ cap) (hn : bs.length ≤ 1099511627776) (hc63 : c ≤ 9223372036854775807) :
    Calls Tryd.prog 23 #[.slice ao bs.length cap, .int .i64 n, .int .i64 c] w fun e w' => e = .returned (.tuple #[.int .i64 (rPlace bs n c).1, .int .i64 (rPlace bs n c).2]) ∧ Below w.heap.size w w' := by
  by_cases h : n < 1 ∨ ((bs.count 10 : Nat) : Int) + 1 < n ∨ c < 1
  · have e1 : rPlace bs n c = (0, 1) := if_pos h
    rw [e1]
    exact place_out ao cap bs n c w hB hn h
  · exact place_in ao cap bs n c w hB hcap hn (by omega) (by omega) (by omega) hc63 _ (by unfold rPlace; rw [if_neg h])
end Go.Proofs.YtdmdfcdfmedhcaaDoor
