/-
  What is proved here: a text's Mark answers what the reference's Mark answers. Conditions: the text lies in memory ('TextAt'); fewer than 2^31 bytes.
-/
import Derived.Test.YtdmdfcdfmedhcaaDoorMark2
import Derived.Test.YtdmdfcdfmedhcaaDoorRune
namespace Go.Proofs.YtdmdfcdfmedhcaaDoor
open Go.RowKit

theorem mark_str (l acc : List UInt8) : str l ++ (⟨#[10]⟩ : ByteArray) ++ (⟨acc.toArray⟩ : ByteArray) ++ (⟨#[94]⟩ : ByteArray) = str (l ++ ([10] ++ (acc ++ [94]))) := by
  apply ByteArray.ext
  simp [str]

theorem builder_iter {b : Nat} {bs : List Value} {w : World} (h : Lib.IsBuilder 76 5 b b bs w) {k : Nat} {s : ByteArray} {pos : Nat} (hk : w.heap[k]? = some (.stringIter s pos)) (pos' : Nat) : Lib.IsBuilder 76 5 b b bs (w.iterAt k s pos') := by
  have key : ∀ p, Lib.BuilderAt 76 5 b b p bs w → Lib.BuilderAt 76 5 b b p bs (w.iterAt k s pos') := by
    rintro p ⟨hB, v, hb, hown, hne⟩
    have hkb : b ≠ k := by intro e; rw [e, hk] at hb; cases hb
    refine ⟨hB, v, (Lib.iterAt_other w k b s pos' hkb).trans hb, ⟨hown.1, ?_⟩, hne⟩
    rcases hown.2 with hn | ⟨g, cap, cur, hv, hbg, hg, rest⟩
    · exact .inl hn
    · have hkg : g ≠ k := by intro e; rw [e, hk] at hg; cases hg
      exact .inr ⟨g, cap, cur, hv, hbg, (Lib.iterAt_other w k g s pos' hkg).trans hg, rest⟩
  exact h.elim (fun x => .inl (key _ x)) (fun x => .inr (key _ x))

theorem builder_alloc {b : Nat} {bs : List Value} {w : World} (h : Lib.IsBuilder 76 5 b b bs w) (o : Obj) : Lib.IsBuilder 76 5 b b bs (w.alloc o) := by
  have key : ∀ p, Lib.BuilderAt 76 5 b b p bs w → Lib.BuilderAt 76 5 b b p bs (w.alloc o) := by
    rintro p ⟨hB, v, hb, hown, hne⟩
    exact ⟨hB, v, (Below.heap_alloc w o b (Array.getElem?_eq_some_iff.1 hb).1).trans hb, hown.alloc o, hne⟩
  exact h.elim (fun x => .inl (key _ x)) (fun x => .inr (key _ x))

theorem rune9 (b : Nat) (bs : List Value) (w : World) (h : Lib.IsBuilder 76 5 b b bs w) (hlen : bs.length + 4 ≤ 140737488355328) (hB : b ≤ w.heap.size) :
    Calls Tryd.prog 39 #[.pointer (some ⟨b, 0, none⟩), .int .i32 9] w fun e w' => e = .returned (.tuple #[.int .i64 1, .nilIface]) ∧ Lib.BuilderAt 76 5 b b (.pointer (some ⟨b, 0, none⟩)) (bs ++ [.int .u8 9]) w' ∧ Below b w w' ∧ Lib.OthersKept 5 (some b) w w' :=
  rune_any b b bs 9 (by decide) w h hlen hB
theorem rune32 (b : Nat) (bs : List Value) (w : World) (h : Lib.IsBuilder 76 5 b b bs w) (hlen : bs.length + 4 ≤ 140737488355328) (hB : b ≤ w.heap.size) :
    Calls Tryd.prog 39 #[.pointer (some ⟨b, 0, none⟩), .int .i32 32] w fun e w' => e = .returned (.tuple #[.int .i64 1, .nilIface]) ∧ Lib.BuilderAt 76 5 b b (.pointer (some ⟨b, 0, none⟩)) (bs ++ [.int .u8 32]) w' ∧ Below b w w' ∧ Lib.OthersKept 5 (some b) w w' :=
  rune_any b b bs 32 (by decide) w h hlen hB

set_option maxHeartbeats 400000 in
set_option maxRecDepth 100000 in
theorem tMark_out (p : Nat) (bs : List UInt8) (n : Int) (w : World) (hT : TextAt w p bs) (hn : bs.length ≤ 2147483647) (h : n < 0 ∨ (bs.length : Int) < n) :
    Calls Tryd.prog 26 #[.pointer (some ⟨p, 0, none⟩), .int .i64 n] w fun e w' => e = .returned (.tuple #[.string ByteArray.empty, .int .i64 1]) ∧ Below w.heap.size w w' := by
  have hsp := tSpot_any p bs n w hT hn
  rw [show rSpot bs n = (0, 0, 1) from if_pos h] at hsp
  clear h
  go_enter Tryd.func26, Tryd.ntmps26
  go_wp2_with fail
  refine hsp.mono ?_
  rintro e w' ⟨rfl, hb⟩
  go_wp2
  go_ret2
  exact ⟨rfl, hb⟩

set_option maxHeartbeats 2000000 in
set_option maxRecDepth 100000 in
theorem tMark_in (p : Nat) (bs : List UInt8) (k : Nat) (w : World) (hT : TextAt w p bs) (hn : bs.length ≤ 2147483647) (hk : k ≤ bs.length) (hC : 1 ≤ colAt bs k) :
    Calls Tryd.prog 26 #[.pointer (some ⟨p, 0, none⟩), .int .i64 (k : Int)] w fun e w' => e = .returned (.tuple #[.string (str (markOf (seg bs (rowOf bs k : Nat)) (colAt bs k))), .int .i64 0]) ∧ Below w.heap.size w w' := by
  have hsp := tSpot_any p bs k w hT hn
  have hsp2 : rSpot bs (k : Int) = (((rowOf bs k : Nat) : Int), ((colAt bs k : Nat) : Int), 0) := by
    unfold rSpot
    rw [if_neg (by omega)]
    simp
  rw [hsp2] at hsp
  have hll := lns_length bs
  have hrow := row_le bs k hk
  have hr1 : 1 ≤ rowOf bs k := by unfold rowOf; omega
  obtain ⟨r, hr⟩ : ∃ r, rowOf bs k = r + 1 := ⟨rowOf bs k - 1, by omega⟩
  have hrl : r < (lns bs).length := by omega
  have hsg : seg bs ((rowOf bs k : Nat) : Int) = (lns bs)[r] := by rw [hr]; exact seg_line bs r hrl
  have hlb := off_line bs r hrl
  have HT := Lib.hid hT
  have hcl : bs.count 10 ≤ bs.length := List.count_le_length
  rw [hsg]
  rw [hr] at hsp
  have hcell : ∀ w', TextAt w' p bs → ∃ g1 c1, w'.cell? ⟨p, 0, none⟩ = some (.slice (some ⟨g1, 0, none⟩) (lns bs).length c1) ∧ w'.cell? ⟨g1, r, none⟩ = some (.string (str ((lns bs)[r]))) := by
    intro w' h
    obtain ⟨g1, c1, g2, c2, h0, _, _, hS, _⟩ := h.open
    exact ⟨g1, c1, h0, hS r _ (by simp [linesOf, hrl])⟩
  have HCE := Lib.hid hcell
  have hL : ((lns bs)[r]).length ≤ 2147483647 := by omega
  have hN : (lns bs).length ≤ 2147483648 := by omega
  clear hsp2 hsg hlb hr hcell hr1 hrow hT
  generalize (lns bs)[r] = l at *
  generalize colAt bs k = C at *
  go_enter Tryd.func26, Tryd.ntmps26
  go_wp2_with fail
  refine hsp.mono ?_
  rintro e w1 ⟨rfl, hb1⟩
  obtain ⟨g1, c1, h0, hS⟩ := HCE.out w1 (HT.out.below hb1)
  clear HCE HT hsp
  have hs1 := hb1.size
  have hbu0 : Lib.IsBuilder 76 5 w1.heap.size w1.heap.size (Lib.byteCells []) (w1.alloc (.cells #[.pointer none, .slice none 0 0] 76)) := Lib.fresh_isBuilder 76 5 w1
  have hz0 : (w1.alloc (.cells #[.pointer none, .slice none 0 0] 76)).heap.size = w1.heap.size + 1 := by simp
  have hb0 : Below w.heap.size w (w1.alloc (.cells #[.pointer none, .slice none 0 0] 76)) := hb1.alloc hs1 _
  go_wp2
  generalize w1.alloc (.cells #[.pointer none, .slice none 0 0] 76) = wA at *
  go_loopw [11] (fun nn wr => ∃ (pos fuel : Nat) (acc : List UInt8), nn = .int .i64 ((acc.length + 1 : Nat) : Int) ∧ wr.heap[w1.heap.size + 1]? = some (.stringIter (str l) pos) ∧ Below w.heap.size w wr ∧ Hid (acc ++ padF (str l) fuel pos = pads (str l)) ∧ Hid ((str l).size ≤ pos + fuel) ∧ acc.length + 1 ≤ C ∧ Lib.IsBuilder 76 5 w1.heap.size w1.heap.size (Lib.byteCells acc) wr) (fun _ wr => (str l).size - wr.iterPos (w1.heap.size + 1))
  case atStart =>
    refine ⟨0, (str l).size, [], rfl, ?_, hb0.alloc (by omega) _, Lib.hid rfl, Lib.hid (by omega), hC, ?_⟩
    · have := World.iter_heap wA (str l) 0
      rw [hz0] at this
      simpa using this
    · exact builder_alloc hbu0 _
  case round =>
    obtain ⟨pos, fuel, acc, rfl, hit, hbw, hacc, hfu, hac, hbu⟩ := hrel
    have hsz : w1.heap.size + 1 < wr.heap.size := (Array.getElem?_eq_some_iff.1 hit).1
    have hal : acc.length ≤ l.length := by
      have h1 := congrArg List.length hacc.out
      rw [List.length_append, pads_length] at h1
      have h2 := starts_length (str l)
      rw [str_size] at h2
      omega
    clear hbu0 hb0
    by_cases hp : pos < (str l).size
    · have hnx : ∀ ty, (Instr.next (.pointer (some ⟨w1.heap.size + 1, 0, none⟩)) true ty).run Tryd.prog wr = _ := fun ty => Lib.run_next_any_at wr (w1.heap.size + 1) (str l) pos ty hit hp
      have hwd := width_pos (str l) pos hp
      have hit2 := Lib.iterAt_heap wr (w1.heap.size + 1) (str l) pos (pos + (Utf8.decode (str l) pos).2) hit
      have hbw2 := Lib.below_iterAt hbw (k := w1.heap.size + 1) (by omega) (str l) (pos + (Utf8.decode (str l) pos).2)
      have hsz2 : (wr.iterAt (w1.heap.size + 1) (str l) (pos + (Utf8.decode (str l) pos).2)).heap.size = wr.heap.size := Lib.iterAt_size ..
      have hbu2 := builder_iter hbu hit (pos + (Utf8.decode (str l) pos).2)
      obtain ⟨fu, rfl⟩ : ∃ fu, fuel = fu + 1 := ⟨fuel - 1, by have := hfu.out; omega⟩
      have hst := padF_step (str l) fu pos hp
      have hfu2 : Hid ((str l).size ≤ pos + (Utf8.decode (str l) pos).2 + fu) := Lib.hid (by have := hfu.out; omega)
      have hacc2 : Hid ((acc ++ [if (Utf8.decode (str l) pos).1 = 9 then (9 : UInt8) else 32]) ++ padF (str l) fu (pos + (Utf8.decode (str l) pos).2) = pads (str l)) := Lib.hid (by rw [← hacc.out, hst]; simp)
      generalize (Utf8.decode (str l) pos).2 = wd at *
      generalize (Utf8.decode (str l) pos).1 = cc at *
      generalize wr.iterAt (w1.heap.size + 1) (str l) (pos + wd) = w2 at *
      have H2 := Lib.hid hit2
      clear hst hfu hit2 hbu
      by_cases hm : acc.length + 1 = C
      · have hmb : ((((acc.length + 1 : Nat) : Int) == (C : Int)) = true) := by rw [beq_iff_eq]; omega
        have hfin : Hid (l ++ ([10] ++ (acc ++ [94])) = markOf l C) := Lib.hid (by
          unfold markOf
          rw [← hacc.out, List.take_left' (by omega)])
        clear hacc hacc2 hfu2
        have hs2 : (str l).size = l.length := str_size l
        have hs3 : (str l ++ (⟨#[10]⟩ : ByteArray)).size = l.length + 1 := by rw [ByteArray.size_append, hs2]; rfl
        have hs4 : (⟨acc.toArray⟩ : ByteArray).size = acc.length := rfl
        have hs5 : (str l ++ (⟨#[10]⟩ : ByteArray) ++ (⟨acc.toArray⟩ : ByteArray)).size = l.length + 1 + acc.length := by rw [ByteArray.size_append, hs3, hs4]
        have hst := Tryd.Builder_String_any w1.heap.size w1.heap.size acc w2 hbu2 (by omega)
        go_wp2_with fail
        refine hst.mono ?_
        rintro e w5 ⟨rfl, hb5⟩
        have hbw5 : Below w.heap.size w w5 := hbw2.trans (hb5.mono hs1)
        clear hst hb5
        go_wp2
        go_ret2
        exact ⟨ret2_str (by rw [← hfin.out]; exact mark_str l acc) rfl, hbw5⟩
      · have hmb : ((((acc.length + 1 : Nat) : Int) == (C : Int)) = false) := by rw [beq_eq_false_iff_ne]; omega
        clear hacc
        by_cases h9 : cc = 9
        · subst h9
          have hru := rune9 w1.heap.size (Lib.byteCells acc) w2 hbu2 (by simp [Lib.byteCells]; omega) (by omega)
          go_wp2_with fail
          refine hru.mono ?_
          rintro e w3 ⟨rfl, hbu3, hb3, hk3⟩
          have hbw3 : Below w.heap.size w w3 := hbw2.trans (hb3.mono hs1)
          have hit3 : Hid (w3.heap[w1.heap.size + 1]? = some (.stringIter (str l) (pos + wd))) := Lib.hid (hk3.iter H2.out (by omega))
          have HU : Hid (Lib.IsBuilder 76 5 w1.heap.size w1.heap.size (Lib.byteCells (acc ++ [9])) w3) := Lib.hid (.inr (by have := hbu3; simpa [Lib.byteCells] using this))
          have hacc3 : Hid ((acc ++ [9]) ++ padF (str l) fu (pos + wd) = pads (str l)) := Lib.hid (by have := hacc2.out; simpa using this)
          clear hbu3 hb3 hk3 hbu2 hbw2 hacc2 hru
          go_wp2
          go_roundw
          case rel => exact ⟨pos + wd, fu, acc ++ [9], by simp, hit3.out, hbw3, hacc3, hfu2, by first | omega | (simp; omega) | simp, HU.out⟩
          case measure =>
            simp only [World.iterPos, hit3.out, hit]
            omega
        · have h9b : (((cc : Int) == 9) = false) := by rw [beq_eq_false_iff_ne]; omega
          have hru := rune32 w1.heap.size (Lib.byteCells acc) w2 hbu2 (by simp [Lib.byteCells]; omega) (by omega)
          go_wp2_with fail
          refine hru.mono ?_
          rintro e w3 ⟨rfl, hbu3, hb3, hk3⟩
          have hbw3 : Below w.heap.size w w3 := hbw2.trans (hb3.mono hs1)
          have hit3 : Hid (w3.heap[w1.heap.size + 1]? = some (.stringIter (str l) (pos + wd))) := Lib.hid (hk3.iter H2.out (by omega))
          have HU : Hid (Lib.IsBuilder 76 5 w1.heap.size w1.heap.size (Lib.byteCells (acc ++ [32])) w3) := Lib.hid (.inr (by have := hbu3; simpa [Lib.byteCells] using this))
          have hacc3 : Hid ((acc ++ [32]) ++ padF (str l) fu (pos + wd) = pads (str l)) := Lib.hid (by have := hacc2.out; simpa [h9] using this)
          clear hbu3 hb3 hk3 hbu2 hbw2 hacc2 hru
          go_wp2
          go_roundw
          case rel => exact ⟨pos + wd, fu, acc ++ [32], by simp, hit3.out, hbw3, hacc3, hfu2, by first | omega | (simp; omega) | simp, HU.out⟩
          case measure =>
            simp only [World.iterPos, hit3.out, hit]
            omega
    · have hnx : ∀ ty, (Instr.next (.pointer (some ⟨w1.heap.size + 1, 0, none⟩)) true ty).run Tryd.prog wr = _ := fun ty => Lib.run_next_end_at wr (w1.heap.size + 1) (str l) pos ty hit hp
      have hend := padF_end (str l) fuel pos hp
      have hfin : Hid (l ++ ([10] ++ (acc ++ [94])) = markOf l C) := Lib.hid (by
        unfold markOf
        have h1 := hacc.out
        rw [hend, List.append_nil] at h1
        rw [← h1, List.take_of_length_le (by omega)])
      clear hend hacc hfu
      have hs2 : (str l).size = l.length := str_size l
      have hs3 : (str l ++ (⟨#[10]⟩ : ByteArray)).size = l.length + 1 := by rw [ByteArray.size_append, hs2]; rfl
      have hs4 : (⟨acc.toArray⟩ : ByteArray).size = acc.length := rfl
      have hs5 : (str l ++ (⟨#[10]⟩ : ByteArray) ++ (⟨acc.toArray⟩ : ByteArray)).size = l.length + 1 + acc.length := by rw [ByteArray.size_append, hs3, hs4]
      have hst := Tryd.Builder_String_any w1.heap.size w1.heap.size acc wr hbu (by omega)
      go_wp2_with fail
      refine hst.mono ?_
      rintro e w5 ⟨rfl, hb5⟩
      have hbw5 : Below w.heap.size w w5 := hbw.trans (hb5.mono hs1)
      clear hst hb5
      go_wp2
      go_ret2
      exact ⟨ret2_str (by rw [← hfin.out]; exact mark_str l acc) rfl, hbw5⟩

theorem tMark_any (p : Nat) (bs : List UInt8) (n : Int) (w : World) (hT : TextAt w p bs) (hn : bs.length ≤ 2147483647) (hC : ∀ k, k ≤ bs.length → 1 ≤ colAt bs k) :
    Calls Tryd.prog 26 #[.pointer (some ⟨p, 0, none⟩), .int .i64 n] w fun e w' => e = .returned (.tuple #[.string (rMark bs n).1, .int .i64 (rMark bs n).2]) ∧ Below w.heap.size w w' := by
  by_cases h : n < 0 ∨ (bs.length : Int) < n
  · rw [show rMark bs n = (ByteArray.empty, 1) from if_pos h]
    exact tMark_out p bs n w hT hn h
  · obtain ⟨k, rfl⟩ : ∃ k : Nat, n = (k : Int) := ⟨n.toNat, by omega⟩
    have e1 : rMark bs (k : Int) = (str (markOf (seg bs (rowOf bs k : Nat)) (colAt bs k)), 0) := by
      unfold rMark
      rw [if_neg h]
      simp
    rw [e1]
    exact tMark_in p bs k w hT hn (by omega) (hC k (by omega))
end Go.Proofs.YtdmdfcdfmedhcaaDoor
