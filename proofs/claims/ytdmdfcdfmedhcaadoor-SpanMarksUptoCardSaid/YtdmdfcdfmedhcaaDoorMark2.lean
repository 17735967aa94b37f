/-
  What is proved here: the reference's Mark answers the mark of a place ('rMark'). Conditions: the bytes lie in memory; fewer than 2^40 of them.
-/
import Derived.Test.YtdmdfcdfmedhcaaDoorMark1
import Derived.Lib.ConvBytes
namespace Go.Proofs.YtdmdfcdfmedhcaaDoor
open Go.RowKit

/-- What the reference's Mark answers. -/
def rMark (bs : List UInt8) (n : Int) : ByteArray × Int :=
  if n < 0 ∨ (bs.length : Int) < n then (ByteArray.empty, 1) else (str (markOf (seg bs (rowOf bs n.toNat : Nat)) (colAt bs n.toNat)), 0)

theorem bytes_own (w : World) (l : List UInt8) (hl : l.length ≤ 1099511627776) : OwnB (Lib.bytesWorld w 5 (str l)) w.heap.size (.slice (some ⟨w.heap.size, 0, none⟩) l.length (grownCap w l.length 0 5)) l := by
  have hge := grownCap_ge w l.length 0 5
  have hn := Lib.bytesWorld_at_new w 5 (str l)
  have hsz : (Lib.bytesCells w 5 (str l)).size = grownCap w l.length 0 5 := by
    simp [Lib.bytesCells, str_size]
    have : (str l).data.size = l.length := rfl
    omega
  refine ⟨w.heap.size, _, _, _, rfl, Nat.le_refl _, hn, .inr ?_, hge, grownCap_le_maxLen w l.length 0 5 (by unfold maxLen; omega), hsz, ?_⟩
  · rw [hsz]; exact Nat.le_refl _
  · simp only [Lib.bytesCells, Array.toList_append]
    rw [List.take_left' (by simp [str])]
    simp [Lib.byteCells, str]

theorem bytes_below {B : Nat} {w w' : World} (hb : Below B w w') (s : ByteArray) (hB : B ≤ w'.heap.size) : Below B w (Lib.bytesWorld w' 5 s) := by
  refine hb.grown (row := none) ⟨rfl, rfl, rfl, by rw [Lib.bytesWorld_size]; omega, fun k hk _ => Lib.bytesWorld_at_old w' 5 s k hk⟩ hB (fun k hk => by cases hk)

theorem row_line (bs : List UInt8) (k : Nat) : rLine bs ((rowOf bs k : Nat) : Int) = (str (seg bs (rowOf bs k : Nat)), 0) := by
  have h1 : rowOf bs k = (bs.take k).count 10 + 1 := rfl
  have h2 : (bs.take k).count 10 ≤ bs.count 10 := (List.take_sublist k bs).count_le 10
  exact if_neg (by omega)

set_option maxHeartbeats 400000 in
set_option maxRecDepth 100000 in
theorem mark_out (ao : Option Addr) (cap : Nat) (bs : List UInt8) (n : Int) (w : World) (hB : BAt w ao bs) (hcap : bs.length ≤ cap) (hn : bs.length ≤ 1099511627776) (h : n < 0 ∨ (bs.length : Int) < n) :
    Calls Tryd.prog 27 #[.slice ao bs.length cap, .int .i64 n] w fun e w' => e = .returned (.tuple #[.string ByteArray.empty, .int .i64 1]) ∧ Below w.heap.size w w' := by
  have hsp := spot_any ao cap bs n w hB hcap hn
  rw [show rSpot bs n = (0, 0, 1) from if_pos h] at hsp
  clear h
  go_enter Tryd.func27, Tryd.ntmps27
  go_wp2_with fail
  refine hsp.mono ?_
  rintro e w' ⟨rfl, hb⟩
  go_wp2
  go_ret2
  exact ⟨rfl, hb⟩

set_option maxHeartbeats 2000000 in
set_option maxRecDepth 100000 in
theorem mark_in (ao : Option Addr) (cap : Nat) (bs : List UInt8) (k : Nat) (w : World) (hB : BAt w ao bs) (hcap : bs.length ≤ cap) (hn : bs.length ≤ 1099511627776) (hk : k ≤ bs.length) (hC : 1 ≤ colAt bs k) :
    Calls Tryd.prog 27 #[.slice ao bs.length cap, .int .i64 (k : Int)] w fun e w' => e = .returned (.tuple #[.string (str (markOf (seg bs (rowOf bs k : Nat)) (colAt bs k))), .int .i64 0]) ∧ Below w.heap.size w w' := by
  have hsp := spot_any ao cap bs k w hB hcap hn
  have hsp2 : rSpot bs (k : Int) = (((rowOf bs k : Nat) : Int), ((colAt bs k : Nat) : Int), 0) := by
    unfold rSpot
    rw [if_neg (by omega)]
    simp
  rw [hsp2] at hsp
  have hli := fun (wx : World) (h : BAt wx ao bs) => line_any ao cap bs ((rowOf bs k : Nat) : Int) wx h hcap hn
  rw [row_line bs k] at hli
  have HLI := Lib.hid hli
  have HB := Lib.hid hB
  have hbl := bnd_le bs 0 0 (rowOf bs k : Nat) (Nat.le_refl _)
  have hsl := seg_length bs (rowOf bs k : Nat)
  have hL : (seg bs (rowOf bs k : Nat)).length ≤ 1099511627776 := by omega
  clear hli hB hsp2 hbl hsl
  generalize seg bs (rowOf bs k : Nat) = l at *
  generalize rowOf bs k = R at *
  generalize colAt bs k = C at *
  have hcv := fun (wx : World) => Lib.run_convert_string_bytes (P := Tryd.prog) wx 9 22 5 (str l) Tryd.underlying9 Tryd.underlying22 Tryd.underlying5
  go_enter Tryd.func27, Tryd.ntmps27
  go_wp2_with fail
  refine hsp.mono ?_
  rintro e w1 ⟨rfl, hb1⟩
  go_wp2_with fail
  refine (HLI.out _ (HB.out.below hb1)).mono ?_
  rintro e w2 ⟨rfl, rfl⟩
  clear hsp HLI HB
  have hs1 := hb1.size
  go_wp2_with (at_builtin; go_loud (refine wpList_appendB rfl _ _ rfl w1.heap.size _ l rfl (bytes_own w1 l hL) _ ?n1 10 rfl ?n2 ?n3 ?_))
  case n1 => rfl
  case n2 => omega
  case n3 => rw [Lib.bytesWorld_size]; omega
  intro g4 cp4 w4 hown4 hgr4
  have hb4 : Below w.heap.size w w4 := (bytes_below hb1 (str l) hs1).grown hgr4 (by rw [Lib.bytesWorld_size]; omega) (fun j hj => by have := Option.some.inj hj; simp only at this; omega)
  clear hgr4 hb1 hcv
  go_wp2
  have hC1 : 1 ≤ C := hC
  go_loopw [11, 12] (fun out nn wr => ∃ (pos fuel : Nat) (acc : List UInt8), nn = .int .i64 ((acc.length + 1 : Nat) : Int) ∧ wr.heap[w4.heap.size]? = some (.stringIter (str l) pos) ∧ Below w.heap.size w wr ∧ Hid (acc ++ padF (str l) fuel pos = pads (str l)) ∧ Hid ((str l).size ≤ pos + fuel) ∧ acc.length + 1 ≤ C ∧ OwnB wr w.heap.size out (l ++ ([10] ++ acc))) (fun _ _ wr => (str l).size - wr.iterPos w4.heap.size)
  case atStart =>
    refine ⟨0, (str l).size, [], rfl, ?_, hb4.alloc (by have := hb4.size; omega) _, Lib.hid rfl, Lib.hid (by omega), hC1, ?_⟩
    · have := World.iter_heap w4 (str l) 0
      simpa using this
    · obtain ⟨g, cp, hv, hBg, hgl, _⟩ := hown4.at
      refine OwnB.kept (w := w4) ?_ (g := g) (by rw [hv]; rfl) ?_
      · obtain ⟨g', cap', cur, fz, h1, h2, h3⟩ := hown4
        exact ⟨g', cap', cur, fz, h1, by omega, h3⟩
      · exact Below.heap_alloc w4 _ g hgl
  case round =>
    obtain ⟨pos, fuel, acc, rfl, hit, hbw, hacc, hfu, hac, hown⟩ := hrel
    have hsz : w4.heap.size < wr.heap.size := (Array.getElem?_eq_some_iff.1 hit).1
    obtain ⟨g, cp, rfl, hBg, hgl, hba⟩ := hown.at
    have hgk : g ≠ w4.heap.size := by
      obtain ⟨g', cap', cur, fz, h1, h2, h3, _⟩ := hown
      intro e
      simp only [Value.slice.injEq, Option.some.injEq, Addr.mk.injEq] at h1
      rw [← h1.1.1, e, hit] at h3
      cases h3
    have hal : acc.length ≤ l.length := by
      have h1 := congrArg List.length hacc.out
      rw [List.length_append, pads_length] at h1
      have h2 := starts_length (str l)
      rw [str_size] at h2
      omega
    by_cases hp : pos < (str l).size
    · have hnx : ∀ ty, (Instr.next (.pointer (some ⟨w4.heap.size, 0, none⟩)) true ty).run Tryd.prog wr = _ := fun ty => Lib.run_next_any_at wr w4.heap.size (str l) pos ty hit hp
      have hwd := width_pos (str l) pos hp
      have hit2 := Lib.iterAt_heap wr w4.heap.size (str l) pos (pos + (Utf8.decode (str l) pos).2) hit
      have hbw2 := Lib.below_iterAt hbw (k := w4.heap.size) (by have := hb4.size; omega) (str l) (pos + (Utf8.decode (str l) pos).2)
      have hsz2 : (wr.iterAt w4.heap.size (str l) (pos + (Utf8.decode (str l) pos).2)).heap.size = wr.heap.size := Lib.iterAt_size ..
      have hown2 : OwnB (wr.iterAt w4.heap.size (str l) (pos + (Utf8.decode (str l) pos).2)) w.heap.size (.slice (some ⟨g, 0, none⟩) (l ++ ([10] ++ acc)).length cp) (l ++ ([10] ++ acc)) := hown.kept rfl (Lib.iterAt_other wr w4.heap.size g (str l) _ hgk)
      obtain ⟨fu, rfl⟩ : ∃ fu, fuel = fu + 1 := ⟨fuel - 1, by have := hfu.out; omega⟩
      have hst := padF_step (str l) fu pos hp
      have hfu2 : Hid ((str l).size ≤ pos + (Utf8.decode (str l) pos).2 + fu) := Lib.hid (by have := hfu.out; omega)
      have hacc2 : Hid ((acc ++ [if (Utf8.decode (str l) pos).1 = 9 then (9 : UInt8) else 32]) ++ padF (str l) fu (pos + (Utf8.decode (str l) pos).2) = pads (str l)) := Lib.hid (by rw [← hacc.out, hst]; simp)
      generalize (Utf8.decode (str l) pos).2 = wd at *
      generalize (Utf8.decode (str l) pos).1 = cc at *
      generalize wr.iterAt w4.heap.size (str l) (pos + wd) = w2 at *
      have HSZ := Lib.hid hsz2
      have H2 := Lib.hid hit2
      have hg2 : w.heap.size ≤ w2.heap.size := hbw2.size
      clear hst hfu hsz2 hit2 hown hba
      by_cases hm : acc.length + 1 = C
      · have hmb : ((((acc.length + 1 : Nat) : Int) == (C : Int)) = true) := by rw [beq_iff_eq]; omega
        have hfin : Hid (l ++ ([10] ++ acc) ++ [94] = markOf l C) := Lib.hid (by
          unfold markOf
          rw [← hacc.out, List.take_left' (by omega)]
          simp)
        clear hacc hacc2 hfu2
        go_wp2_with (at_builtin; go_loud (refine wpList_appendB rfl _ _ rfl w.heap.size _ (l ++ ([10] ++ acc)) rfl hown2 _ ?a1 94 rfl ?a2 ?a3 ?_))
        try (any_goals first | rfl | omega | (simp; omega))
        intro g3 cp3 w3 hown3 hgr3
        have hbw3 : Below w.heap.size w w3 := hbw2.grown hgr3 hg2 (fun j hj => by have := Option.some.inj hj; simp only at this; omega)
        obtain ⟨g5, cp5, hv5, _, _, hba5⟩ := hown3.at
        have hfe : l ++ 10 :: (acc ++ [94]) = markOf l C := by rw [← hfin.out]; simp
        rw [hfe] at hv5 hba5
        simp only [Value.slice.injEq, Option.some.injEq, Addr.mk.injEq] at hv5
        obtain ⟨⟨rfl, -⟩, hlen, rfl⟩ := hv5
        have hcv := fun dst hd => hba5.conv (P := Tryd.prog) _ cp3 hlen 22 dst 5 Tryd.underlying22 Tryd.underlying5 hd
        obtain ⟨M, hM⟩ : ∃ M, M = str (markOf l C) := ⟨_, rfl⟩
        rw [← hM] at hcv
        have HM := Lib.hid hM
        clear hown3 hgr3 hba5 hfe hfin hlen hM
        go_wp2
        go_ret2
        exact ⟨ret2_str HM.out rfl, hbw3⟩
      · have hmb : ((((acc.length + 1 : Nat) : Int) == (C : Int)) = false) := by rw [beq_eq_false_iff_ne]; omega
        clear hacc
        by_cases h9 : cc = 9
        · subst h9
          go_wp2_with (at_builtin; go_loud (refine wpList_appendB rfl _ _ rfl w.heap.size _ (l ++ ([10] ++ acc)) rfl hown2 _ ?p1 9 rfl ?p2 ?p3 ?_))
          try (any_goals first | rfl | omega | (simp; omega))
          intro g3 cp3 w3 hown3 hgr3
          have hbw3 : Below w.heap.size w w3 := hbw2.grown hgr3 hg2 (fun j hj => by have := Option.some.inj hj; simp only at this; omega)
          have hit3 : Hid (w3.heap[w4.heap.size]? = some (.stringIter (str l) (pos + wd))) := Lib.hid (by
            rw [hgr3.block _ (by have := HSZ.out; omega) (fun e => hgk (Option.some.inj e).symm)]
            exact H2.out)
          have HO : Hid (OwnB w3 w.heap.size (.slice (some ⟨g3, 0, none⟩) (l.length + (acc.length + 1) + 1) cp3) (l ++ ([10] ++ (acc ++ [9])))) := Lib.hid hown3
          have hacc3 : Hid ((acc ++ [9]) ++ padF (str l) fu (pos + wd) = pads (str l)) := Lib.hid (by have := hacc2.out; simpa using this)
          clear hown3 hgr3 hown2 hbw2 hacc2
          go_wp2
          go_roundw
          case rel => exact ⟨pos + wd, fu, acc ++ [9], by simp, hit3.out, hbw3, hacc3, hfu2, by first | omega | (simp; omega) | simp, HO.out⟩
          case measure =>
            simp only [World.iterPos, hit3.out, hit]
            omega
        · have h9b : (((cc : Int) == 9) = false) := by rw [beq_eq_false_iff_ne]; omega
          go_wp2_with (at_builtin; go_loud (refine wpList_appendB rfl _ _ rfl w.heap.size _ (l ++ ([10] ++ acc)) rfl hown2 _ ?q1 32 rfl ?q2 ?q3 ?_))
          try (any_goals first | rfl | omega | (simp; omega))
          intro g3 cp3 w3 hown3 hgr3
          have hbw3 : Below w.heap.size w w3 := hbw2.grown hgr3 hg2 (fun j hj => by have := Option.some.inj hj; simp only at this; omega)
          have hit3 : Hid (w3.heap[w4.heap.size]? = some (.stringIter (str l) (pos + wd))) := Lib.hid (by
            rw [hgr3.block _ (by have := HSZ.out; omega) (fun e => hgk (Option.some.inj e).symm)]
            exact H2.out)
          have HO : Hid (OwnB w3 w.heap.size (.slice (some ⟨g3, 0, none⟩) (l.length + (acc.length + 1) + 1) cp3) (l ++ ([10] ++ (acc ++ [32])))) := Lib.hid hown3
          have hacc3 : Hid ((acc ++ [32]) ++ padF (str l) fu (pos + wd) = pads (str l)) := Lib.hid (by have := hacc2.out; simpa [h9] using this)
          clear hown3 hgr3 hown2 hbw2 hacc2
          go_wp2
          go_roundw
          case rel => exact ⟨pos + wd, fu, acc ++ [32], by simp, hit3.out, hbw3, hacc3, hfu2, by first | omega | (simp; omega) | simp, HO.out⟩
          case measure =>
            simp only [World.iterPos, hit3.out, hit]
            omega
    · have hnx : ∀ ty, (Instr.next (.pointer (some ⟨w4.heap.size, 0, none⟩)) true ty).run Tryd.prog wr = _ := fun ty => Lib.run_next_end_at wr w4.heap.size (str l) pos ty hit hp
      have hend := padF_end (str l) fuel pos hp
      have hfin : Hid (l ++ ([10] ++ acc) ++ [94] = markOf l C) := Lib.hid (by
        unfold markOf
        have h1 := hacc.out
        rw [hend, List.append_nil] at h1
        rw [← h1, List.take_of_length_le (by omega)]
        simp)
      clear hend hacc hfu
      go_wp2_with (at_builtin; go_loud (refine wpList_appendB rfl _ _ rfl w.heap.size _ (l ++ ([10] ++ acc)) rfl hown _ ?b1 94 rfl ?b2 ?b3 ?_))
      try (any_goals first | rfl | omega | (simp; omega))
      intro g3 cp3 w3 hown3 hgr3
      have hbw3 : Below w.heap.size w w3 := hbw.grown hgr3 hbw.size (fun j hj => by have := Option.some.inj hj; simp only at this; omega)
      obtain ⟨g5, cp5, hv5, _, _, hba5⟩ := hown3.at
      have hfe : l ++ 10 :: (acc ++ [94]) = markOf l C := by rw [← hfin.out]; simp
      rw [hfe] at hv5 hba5
      simp only [Value.slice.injEq, Option.some.injEq, Addr.mk.injEq] at hv5
      obtain ⟨⟨rfl, -⟩, hlen, rfl⟩ := hv5
      have hcv := fun dst hd => hba5.conv (P := Tryd.prog) _ cp3 hlen 22 dst 5 Tryd.underlying22 Tryd.underlying5 hd
      obtain ⟨M, hM⟩ : ∃ M, M = str (markOf l C) := ⟨_, rfl⟩
      rw [← hM] at hcv
      have HM := Lib.hid hM
      clear hown3 hgr3 hba5 hfe hfin hlen hM
      go_wp2
      go_ret2
      exact ⟨ret2_str HM.out rfl, hbw3⟩

theorem mark_any (ao : Option Addr) (cap : Nat) (bs : List UInt8) (n : Int) (w : World) (hB : BAt w ao bs) (hcap : bs.length ≤ cap) (hn : bs.length ≤ 1099511627776) (hC : ∀ k, k ≤ bs.length → 1 ≤ colAt bs k) :
    Calls Tryd.prog 27 #[.slice ao bs.length cap, .int .i64 n] w fun e w' => e = .returned (.tuple #[.string (rMark bs n).1, .int .i64 (rMark bs n).2]) ∧ Below w.heap.size w w' := by
  by_cases h : n < 0 ∨ (bs.length : Int) < n
  · rw [show rMark bs n = (ByteArray.empty, 1) from if_pos h]
    exact mark_out ao cap bs n w hB hcap hn h
  · obtain ⟨k, rfl⟩ : ∃ k : Nat, n = (k : Int) := ⟨n.toNat, by omega⟩
    have e1 : rMark bs (k : Int) = (str (markOf (seg bs (rowOf bs k : Nat)) (colAt bs k)), 0) := by
      unfold rMark
      rw [if_neg h]
      simp
    rw [e1]
    exact mark_in ao cap bs k w hB hcap hn (by omega) (hC k (by omega))
end Go.Proofs.YtdmdfcdfmedhcaaDoor
