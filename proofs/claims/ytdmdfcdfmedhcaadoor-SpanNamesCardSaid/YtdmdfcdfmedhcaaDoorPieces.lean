/-
  What is proved here: span.pieces answers the places at which a line's pieces begin, and its end ('cols'). Conditions: the line has fewer than 2^40 bytes.
-/
import Derived.Test.YtdmdfcdfmedhcaaDoorRows
import Derived.Test.YtdmdfcdfmedhcaaDoorComm
import Derived.Lib.OthersKept
namespace Go.Proofs.YtdmdfcdfmedhcaaDoor
open Go.RowKit

theorem info3 : (Tryd.prog.info? 3).map (fun i => (i.zero, i.size, i.bytes)) = some (some (.int .i64 0), 1, 8) := by kernel_rfl

set_option maxHeartbeats 1000000 in
set_option maxRecDepth 100000 in
theorem pieces_any (s : ByteArray) (w : World) (hs : s.size ≤ 1099511627776) :
    Calls Tryd.prog 38 #[.string s] w fun e w' => ∃ g cap, e = .returned (.slice (some ⟨g, 0, none⟩) (cols s).length cap) ∧ Nums w' g (cols s) ∧ w.heap.size ≤ g ∧ g < w'.heap.size ∧ (cols s).length ≤ cap ∧ cap ≤ maxLen ∧ Below w.heap.size w w' := by
  go_enter Tryd.func38, Tryd.ntmps38
  go_wp2
  go_loopw [3] (fun v wr => ∃ (pos fuel : Nat) (acc : List Nat), wr.heap[w.heap.size]? = some (.stringIter s pos) ∧ Below w.heap.size w wr ∧ Hid (acc ++ startsF s fuel pos = starts s) ∧ Hid (s.size ≤ pos + fuel) ∧ acc.length ≤ pos ∧ wr.ownsRow (w.heap.size + 1) 3 1 v acc.length (ints acc)) (fun _ wr => s.size - wr.iterPos w.heap.size)
  case atStart =>
    refine ⟨0, s.size, [], ?_, (Below.refl _ w).alloc (Nat.le_refl _) _, Lib.hid rfl, Lib.hid (by omega), by simp, World.ownsRow_nil _ _ _ _⟩
    have := World.iter_heap w s 0
    simpa using this
  case round =>
    obtain ⟨pos, fuel, acc, hit, hbw, hacc, hfu, hal, hown⟩ := hrel
    have hsz : w.heap.size < wr.heap.size := (Array.getElem?_eq_some_iff.1 hit).1
    by_cases hp : pos < s.size
    · have hnx : ∀ ty, (Instr.next (.pointer (some ⟨w.heap.size, 0, none⟩)) true ty).run Tryd.prog wr = _ := fun ty => Lib.run_next_any_at wr w.heap.size s pos ty hit hp
      have hwd := width_pos s pos hp
      have hit2 := Lib.iterAt_heap wr w.heap.size s pos (pos + (Utf8.decode s pos).2) hit
      have hbw2 := Lib.below_iterAt hbw (k := w.heap.size) (Nat.le_refl _) s (pos + (Utf8.decode s pos).2)
      have hown2 := ownsRow_iterAt hown (k := w.heap.size) (by omega) s (pos + (Utf8.decode s pos).2)
      have hsz2 : (wr.iterAt w.heap.size s (pos + (Utf8.decode s pos).2)).heap.size = wr.heap.size := Lib.iterAt_size ..
      obtain ⟨fu, rfl⟩ : ∃ fu, fuel = fu + 1 := ⟨fuel - 1, by have := hfu.out; omega⟩
      have hst := startsF_step s fu pos hp
      have hacc2 : Hid ((acc ++ [pos]) ++ startsF s fu (pos + (Utf8.decode s pos).2) = starts s) := Lib.hid (by rw [← hacc.out, hst]; simp)
      have hfu2 : Hid (s.size ≤ pos + (Utf8.decode s pos).2 + fu) := Lib.hid (by have := hfu.out; omega)
      generalize (Utf8.decode s pos).2 = wd at *
      generalize wr.iterAt w.heap.size s (pos + wd) = w2 at *
      have HSZ := Lib.hid hsz2
      have H2 := Lib.hid hit2
      clear hst hacc hfu hsz2 hit2
      go_wp2_with (at_builtin; refine wpList_append1 rfl _ _ 23 rfl (w.heap.size + 1) 3 (.int .i64 0) 8 Tryd.underlying23 info3 rfl _ _ _ rfl hown2 w2.heap.size rfl (.int .i64 (pos : Int)) rfl rfl ?c1 ?c2 ?c3 ?_)
      case c1 => unfold maxLen; omega
      case c2 => omega
      case c3 => have := HSZ.out; omega
      intro g cp w3 hown3 hgr hg
      rw [ints_snoc] at hown3
      have hbw3 : Below w.heap.size w w3 := hbw2.grown hgr (by have := HSZ.out; omega) (fun k hk => by have := (hown2.lt k hk).1; omega)
      have hit3 : Hid (w3.heap[w.heap.size]? = some (.stringIter s (pos + wd))) := Lib.hid (by
        rw [hgr.block _ (by have := HSZ.out; omega) (fun h => by have := (hown2.lt _ h.symm).1; omega)]
        exact H2.out)
      clear hown2 hown hgr
      go_wp2
      go_roundw
      case rel => exact ⟨_, fu, acc ++ [pos], hit3.out, hbw3, hacc2, hfu2, by simp; omega, by simpa using hown3⟩
      case measure =>
        simp only [World.iterPos, hit3.out, hit]
        omega
    · have hnx : ∀ ty, (Instr.next (.pointer (some ⟨w.heap.size, 0, none⟩)) true ty).run Tryd.prog wr = _ := fun ty => Lib.run_next_end_at wr w.heap.size s pos ty hit hp
      have hend := startsF_end s fuel pos hp
      have hfin : Hid (acc = starts s) := Lib.hid (by have := hacc.out; rw [hend] at this; simpa using this)
      have hal2 : acc.length ≤ 1099511627776 := by rw [hfin.out]; have := starts_length s; omega
      clear hend hacc hfu
      go_wp2_with (at_builtin; refine wpList_append1 rfl _ _ 23 rfl (w.heap.size + 1) 3 (.int .i64 0) 8 Tryd.underlying23 info3 rfl _ _ _ rfl hown wr.heap.size rfl (.int .i64 (s.size : Int)) rfl rfl ?d1 ?d2 ?d3 ?_)
      case d1 => unfold maxLen; omega
      case d2 => omega
      case d3 => omega
      intro g cp w3 hown3 hgr hg
      rw [ints_snoc] at hown3
      have hbw3 : Below w.heap.size w w3 := hbw.grown hgr (by omega) (fun k hk => by have := (hown.lt k hk).1; omega)
      have hcl : Hid (acc ++ [s.size] = cols s) := Lib.hid (by rw [hfin.out]; rfl)
      clear hown hgr
      go_wp2
      go_ret
      obtain ⟨g', cap', he, _, hlt, hnc, hcm⟩ := own_shape hown3 (by omega)
      cases he
      have hN := own_nums hown3
      rw [hcl.out] at hN
      have hln : acc.length + 1 = (cols s).length := by rw [← hcl.out]; simp
      rw [← hln]
      exact ⟨g, cp, rfl, hN, by omega, hlt, hnc, hcm, hbw3⟩
end Go.Proofs.YtdmdfcdfmedhcaaDoor
