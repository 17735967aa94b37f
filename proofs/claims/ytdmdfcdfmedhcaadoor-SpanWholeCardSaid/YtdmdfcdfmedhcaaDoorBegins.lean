/-
  What is proved here: begins answers of each place of a text whether a piece begins there or a line ends ('isBeg'). Conditions: the bytes lie in memory; fewer than 2^31 of them.
-/
import Derived.Test.YtdmdfcdfmedhcaaDoorBackMath
import Derived.Test.YtdmdfcdfmedhcaaDoorLend
namespace Go.Proofs.YtdmdfcdfmedhcaaDoor
open Go.RowKit

def flags (n : Nat) (A : Nat → Bool) : List Value := (List.range n).map fun k => Value.bool (A k)
theorem flags_set (n : Nat) (A : Nat → Bool) (i : Nat) : (flags n A).set i (.bool true) = flags n (fun k => A k || decide (k = i)) := by
  unfold flags
  apply List.ext_getElem
  · simp
  · intro j h1 h2
    rw [List.getElem_set]
    by_cases h : i = j
    · subst h; simp
    · simp [h, Ne.symm h]
theorem flags_congr {n : Nat} {A B : Nat → Bool} (h : ∀ k, k < n → A k = B k) : flags n A = flags n B := by
  unfold flags
  refine List.map_congr_left fun k hk => ?_
  rw [h k (List.mem_range.1 hk)]
theorem flags_get (n : Nat) (A : Nat → Bool) (i : Nat) (h : i < n) : (flags n A)[i]? = some (.bool (A i)) := by
  simp [flags, h]
theorem flags_made (n : Nat) : List.replicate n (Value.bool false) = flags n (fun _ => false) := by
  apply List.ext_getElem
  · simp [flags]
  · intro i h1 h2; simp [flags]

theorem info4 : (Tryd.prog.info? 4).map (fun i => (i.zero, i.size, i.bytes)) = some (some (.bool false), 1, 1) := by kernel_rfl

/-- The flags lie in block g. -/
def FlagsAt (w : World) (g n : Nat) (A : Nat → Bool) : Prop := w.heap[g]? = some (.cells (flags n A).toArray 4 (0, 0))
theorem FlagsAt.cell {w : World} {g n : Nat} {A : Nat → Bool} (h : FlagsAt w g n A) (i : Nat) (hi : i < n) : w.cell? ⟨g, i, none⟩ = some (.bool (A i)) := by
  rw [block_cell h, List.getElem?_toArray, flags_get n A i hi]
theorem FlagsAt.free {w : World} {g n : Nat} {A : Nat → Bool} (h : FlagsAt w g n A) (i : Nat) : w.frozen? ⟨g, i, none⟩ = false := block_free h i
theorem FlagsAt.set {w : World} {g n : Nat} {A : Nat → Bool} (h : FlagsAt w g n A) (i : Nat) : FlagsAt (w.setCell ⟨g, i, none⟩ (.bool true)) g n (fun k => A k || decide (k = i)) := by
  unfold FlagsAt
  rw [setCell_block h, ← flags_set]
  simp
theorem FlagsAt.congr {w : World} {g n : Nat} {A B : Nat → Bool} (h : FlagsAt w g n A) (hAB : ∀ k, k < n → A k = B k) : FlagsAt w g n B := by
  unfold FlagsAt at h ⊢
  rw [h, flags_congr hAB]

theorem line_flags (bs : List UInt8) (i f k : Nat) (hi : i ≤ bs.length) (hf : f = fromOf bs i) (hfi : f ≤ i) (hs : (segOf bs i).size = i - f) :
    ((decide (k < f) && isBeg bs k || (starts (segOf bs i)).contains (k - f) && decide (f ≤ k)) || decide (k = i)) = (decide (k < i + 1) && isBeg bs k) := by
  by_cases h1 : k < f
  · have : ¬ k = i := by omega
    have h2 : ¬ f ≤ k := by omega
    have h3 : k < i + 1 := by omega
    simp [h1, h2, h3, this]
  · have h2 : f ≤ k := by omega
    by_cases h3 : k ≤ i
    · have hb := beg_within bs k i hi (by omega) h3
      rw [← hf] at hb
      have h4 : k < i + 1 := by omega
      rw [hb]
      unfold cols
      by_cases hki : k = i
      · subst hki; simp [hs]
      · have hne : ¬ k - f = i - f := by omega
        simp [h1, h2, h4, hki, hs, hne]
    · have h4 : ¬ k < i + 1 := by omega
      have h5 : ¬ k = i := by omega
      have h6 : ¬ (k - f) ∈ starts (segOf bs i) := by
        intro hm
        have := startsF_mem _ _ _ _ hm
        omega
      simp [h1, h4, h5, h6]

set_option maxHeartbeats 4000000 in
set_option maxRecDepth 100000 in
theorem begins_any (ao : Option Addr) (cap : Nat) (bs : List UInt8) (w : World) (hB : BAt w ao bs) (hcap : bs.length ≤ cap) (hn : bs.length ≤ 2147483647) :
    Calls Tryd.prog 25 #[.slice ao bs.length cap] w fun e w' => e = .returned (.slice (some ⟨w.heap.size, 0, none⟩) (bs.length + 1) (bs.length + 1)) ∧ FlagsAt w' w.heap.size (bs.length + 1) (isBeg bs) ∧ w.heap.size < w'.heap.size ∧ Below w.heap.size w w' := by
  obtain ⟨i0, hi, hz0, hz1, hz2⟩ := info_parts info4
  go_enter Tryd.func25, Tryd.ntmps25
  go_wp2_with (at_make; refine wpList_make_full _ rfl _ _ 44 rfl w.heap.size 4 i0 (.bool false) 1 Tryd.underlying44 hi hz0 hz1 .i64 .i64 _ _ (bs.length + 1) rfl rfl ?l1 ?l2 ?b2 ?b3 ?b4 ?_)
  case l1 => omega
  case l2 => omega
  case b2 => rw [hz2]; omega
  case b3 => unfold maxLen; omega
  case b4 => exact Nat.le_refl _
  intro w1 hown hgr
  have HF0 : Hid (FlagsAt w1 w.heap.size (bs.length + 1) (fun k => decide (k < 0) && isBeg bs k)) := Lib.hid (by
    have h1 := made_block hown
    rw [flags_made] at h1
    exact FlagsAt.congr h1 (fun k _ => by simp))
  have hb1 : Below w.heap.size w w1 := (Below.refl _ w).grown hgr (Nat.le_refl _) (fun k hk => by cases hk)
  have HB := Lib.hid hB
  clear hown hgr hB hi hz0 hz1 hz2
  go_wp2
  go_loopw [4, 5] (fun fv iv wr => ∃ i f : Nat, i ≤ bs.length + 1 ∧ f ≤ i ∧ iv = .int .i64 i ∧ fv = .int .i64 f ∧ Hid (FlagsAt wr w.heap.size (bs.length + 1) (fun k => decide (k < f) && isBeg bs k)) ∧ Hid (i ≤ bs.length → f = fromOf bs i) ∧ Hid (i = bs.length + 1 → f = bs.length + 1) ∧ w.heap.size < wr.heap.size ∧ Below w.heap.size w wr) (fun _ iv _ => bs.length + 1 - (intOf iv).toNat)
  case atStart =>
    exact ⟨0, 0, by omega, by omega, rfl, rfl, HF0, Lib.hid (fun _ => (from_zero bs).2.symm), Lib.hid (fun h => by omega), (Array.getElem?_eq_some_iff.1 HF0.out).1, hb1⟩
  case round =>
    obtain ⟨i, f, hi1, hfi, rfl, rfl, HF, HFR, HFE, hsz, hbr⟩ := hrel
    obtain ⟨wo, rfl⟩ : ∃ wo : World, wo = wr := ⟨_, rfl⟩
    clear HF0 hb1
    have HB1 : Hid (BAt wo ao bs) := Lib.hid (HB.out.below hbr)
    by_cases hin : i ≤ bs.length
    · have hfr := HFR.out hin
      by_cases hct : ∃ h : i < bs.length, bs[i] ≠ 10
      · obtain ⟨hlt, h10⟩ := hct
        obtain ⟨a, rfl, hc⟩ := HB1.out.at i hlt
        have hsm := (from_succ_same bs i hlt h10).2.1
        have ht : (((bs[i]).toNat : Int) != 10) = true := by rw [bne_iff_ne]; exact ten_int h10
        have HFR2 : Hid (i + 1 ≤ bs.length → f = fromOf bs (i + 1)) := Lib.hid (fun _ => by rw [hsm]; exact hfr)
        have HFE2 : Hid (i + 1 = bs.length + 1 → f = bs.length + 1) := Lib.hid (fun h => by omega)
        clear h10 hfr hsm HFR HFE
        go_wp2
        go_roundw
        case rel => exact ⟨i + 1, f, by omega, by omega, by go_num, rfl, HF, HFR2, HFE2, hsz, hbr⟩
        case measure => simp [intOf]; omega
      · have hto : i = toOf bs i := by
          have hs3 := (row_seg bs i hin (by have := row_le bs i hin; omega)).2.2
          by_cases hlt : i < bs.length
          · have h10 : bs[i] = 10 := by
              by_cases h : bs[i] = 10
              · exact h
              · exact absurd ⟨hlt, h⟩ hct
            exact (from_succ_ten bs i hlt h10).2.2
          · have hb := (bnd_le bs 0 0 (rowOf bs i : Nat) (Nat.le_refl _)).2
            unfold toOf at hs3 ⊢
            omega
        have hcv := fun dst hd => (HB1.out.part cap f i hcap).conv (P := Tryd.prog) (i - f) (cap - f) (by simp; omega) 22 dst 5 Tryd.underlying22 Tryd.underlying5 hd
        have hseg : str ((bs.take i).drop f) = segOf bs i := by
          have : segOf bs i = str ((bs.take (toOf bs i)).drop (fromOf bs i)) := rfl
          rw [this, ← hto, ← hfr]
        rw [hseg] at hcv
        have hss : (segOf bs i).size = i - f := by rw [← hseg, str_size]; simp; omega
        have HLF : Hid (∀ k, ((decide (k < f) && isBeg bs k || (starts (segOf bs i)).contains (k - f) && decide (f ≤ k)) || decide (k = i)) = (decide (k < i + 1) && isBeg bs k)) := Lib.hid (fun k => line_flags bs i f k hin hfr hfi hss)
        have HT10 : Hid (∀ h : i < bs.length, bs[i] = 10) := Lib.hid (fun h => by
          by_cases h10 : bs[i] = 10
          · exact h10
          · exact absurd ⟨h, h10⟩ hct)
        have HNX : Hid (i + 1 ≤ bs.length → i + 1 = fromOf bs (i + 1)) := Lib.hid (fun h => (from_succ_ten bs i (by omega) (HT10.out (by omega))).2.1.symm)
        generalize segOf bs i = s at *
        have hs31 : s.size ≤ 2147483647 := by omega
        have hfs : f + s.size ≤ i := by omega
        have hfc : f ≤ cap := by omega
        clear hseg hct hto hfr hss HFR HFE
        rcases (show (∃ c : UInt8, i < bs.length ∧ (∃ a, ao = some a ∧ wo.cell? (a.add i) = some (.int .u8 c.toNat)) ∧ ((c.toNat : Int) != 10) = false) ∨ (¬ i < bs.length ∧ f = cap) ∨ (¬ i < bs.length ∧ ¬ cap = f) from by
          by_cases h : i < bs.length
          · exact .inl ⟨bs[i], h, HB1.out.at i h, by rw [HT10.out h]; rfl⟩
          · by_cases h2 : cap = f
            · exact .inr (.inl ⟨h, h2.symm⟩)
            · exact .inr (.inr ⟨h, h2⟩)) with ⟨c, hlt, ⟨a, rfl, hc⟩, hcb⟩ | ⟨hlt, rfl⟩ | ⟨hlt, hne⟩
        all_goals
          clear HT10
          first | simp only [if_neg (show ¬ cap = f from by omega), Option.map_some] at hcv | simp only [if_neg (show ¬ cap = f from by omega)] at hcv | simp only [if_true, Nat.sub_self] at hcv
          go_wp2
          all_goals
            go_loopw [] (fun wr => ∃ (pos fuel : Nat) (acc : List Nat), wr.heap[wo.heap.size]? = some (.stringIter s pos) ∧ Below w.heap.size w wr ∧ Hid (acc ++ startsF s fuel pos = starts s) ∧ Hid (s.size ≤ pos + fuel) ∧ Hid (FlagsAt wr w.heap.size (bs.length + 1) (fun k => decide (k < f) && isBeg bs k || acc.contains (k - f) && decide (f ≤ k)))) (fun wr => s.size - wr.iterPos wo.heap.size)
            case atStart =>
              refine ⟨0, s.size, [], ?_, hbr.alloc (by omega) _, Lib.hid rfl, Lib.hid (by omega), Lib.hid ?_⟩
              · have := World.iter_heap wo s 0
                simpa using this
              · have h1 : FlagsAt (wo.alloc (.stringIter s 0)) w.heap.size (bs.length + 1) (fun k => decide (k < f) && isBeg bs k) := (Below.heap_alloc wo _ _ hsz).trans HF.out
                exact h1.congr (fun k _ => by simp)
            case round =>
              obtain ⟨pos, fuel, acc, hit, hbw, hacc, hfu, HA⟩ := hrel
              have hsz2 : wo.heap.size < wr.heap.size := (Array.getElem?_eq_some_iff.1 hit).1
              by_cases hp : pos < s.size
              · try (exfalso; omega)
                all_goals
                  have hnx : ∀ ty, (Instr.next (.pointer (some ⟨wo.heap.size, 0, none⟩)) true ty).run Tryd.prog wr = _ := fun ty => Lib.run_next_any_at wr wo.heap.size s pos ty hit hp
                  have hwd := width_pos s pos hp
                  have hit2 := Lib.iterAt_heap wr wo.heap.size s pos (pos + (Utf8.decode s pos).2) hit
                  have hbw2 := Lib.below_iterAt hbw (k := wo.heap.size) (by omega) s (pos + (Utf8.decode s pos).2)
                  have HA2 : Hid (FlagsAt (wr.iterAt wo.heap.size s (pos + (Utf8.decode s pos).2)) w.heap.size (bs.length + 1) (fun k => decide (k < f) && isBeg bs k || acc.contains (k - f) && decide (f ≤ k))) := Lib.hid ((Lib.iterAt_other wr wo.heap.size w.heap.size s _ (by omega)).trans HA.out)
                  obtain ⟨fu, rfl⟩ : ∃ fu, fuel = fu + 1 := ⟨fuel - 1, by have := hfu.out; omega⟩
                  have hst := startsF_step s fu pos hp
                  have hacc2 : Hid ((acc ++ [pos]) ++ startsF s fu (pos + (Utf8.decode s pos).2) = starts s) := Lib.hid (by rw [← hacc.out, hst]; simp)
                  have hfu2 : Hid (s.size ≤ pos + (Utf8.decode s pos).2 + fu) := Lib.hid (by have := hfu.out; omega)
                  generalize (Utf8.decode s pos).2 = wd at *
                  generalize wr.iterAt wo.heap.size s (pos + wd) = w2 at *
                  have H2 := Lib.hid hit2
                  have hcell := HA2.out.cell (f + pos) (by omega)
                  have hfree := HA2.out.free (f + pos)
                  generalize (decide (f + pos < f) && isBeg bs (f + pos) || acc.contains (f + pos - f) && decide (f ≤ f + pos)) = v0 at *
                  have HA3 : Hid (FlagsAt (w2.setCell ⟨w.heap.size, f + pos, none⟩ (.bool true)) w.heap.size (bs.length + 1) (fun k => decide (k < f) && isBeg bs k || (acc ++ [pos]).contains (k - f) && decide (f ≤ k))) := Lib.hid ((HA2.out.set (f + pos)).congr (fun k _ => by
                    by_cases h1 : f ≤ k
                    · have h2 : ¬ k < f := by omega
                      have h3 : (k = f + pos) ↔ (k - f = pos) := by omega
                      simp [h1, h2, h3]
                    · have h2 : k < f := by omega
                      have h3 : ¬ k = f + pos := by omega
                      simp [h1, h2, h3]))
                  have hbw3 : Below w.heap.size w (w2.setCell ⟨w.heap.size, f + pos, none⟩ (.bool true)) := hbw2.setCell (Nat.le_refl _) _
                  have H3 : Hid ((w2.setCell ⟨w.heap.size, f + pos, none⟩ (.bool true)).heap[wo.heap.size]? = some (.stringIter s (pos + wd))) := Lib.hid ((setCell_other _ _ (by omega)).trans H2.out)
                  clear hst hacc hfu hit2 HA HA2 hbw2
                  go_wp2
                  go_roundw
                  case rel => exact ⟨_, fu, acc ++ [pos], H3.out, hbw3, hacc2, hfu2, HA3⟩
                  case measure =>
                    simp only [World.iterPos, H3.out, hit]
                    omega
              · have hnx : ∀ ty, (Instr.next (.pointer (some ⟨wo.heap.size, 0, none⟩)) true ty).run Tryd.prog wr = _ := fun ty => Lib.run_next_end_at wr wo.heap.size s pos ty hit hp
                have hend := startsF_end s fuel pos hp
                have hfin : Hid (acc = starts s) := Lib.hid (by have := hacc.out; rw [hend] at this; simpa using this)
                have hcell := HA.out.cell i (by omega)
                have hfree := HA.out.free i
                generalize (decide (i < f) && isBeg bs i || acc.contains (i - f) && decide (f ≤ i)) = v0 at *
                have HA3 : Hid (FlagsAt (wr.setCell ⟨w.heap.size, i, none⟩ (.bool true)) w.heap.size (bs.length + 1) (fun k => decide (k < i + 1) && isBeg bs k)) := Lib.hid ((HA.out.set i).congr (fun k _ => by rw [hfin.out]; exact HLF.out k))
                have hbw3 : Below w.heap.size w (wr.setCell ⟨w.heap.size, i, none⟩ (.bool true)) := hbw.setCell (Nat.le_refl _) _
                have HFE2 : Hid (i + 1 = bs.length + 1 → i + 1 = bs.length + 1) := Lib.hid (fun h => h)
                clear hend hacc hfu HA
                go_wp2
                go_roundw
                case rel => first | exact ⟨i + 1, i + 1, by omega, by omega, by go_num, by go_num, HA3, HNX, HFE2, by simp; omega, hbw3⟩ | ((repeat apply Exists.intro); exact ⟨⟨i + 1, i + 1, by omega, by omega, by go_num, by go_num, HA3, HNX, HFE2, by simp; omega, hbw3⟩, rfl⟩)
                case measure => simp [intOf]; omega
    · obtain rfl : i = bs.length + 1 := by omega
      have hfe := HFE.out rfl
      have HFIN : Hid (FlagsAt wo w.heap.size (bs.length + 1) (isBeg bs)) := Lib.hid (HF.out.congr (fun k hk => by
        have : k < f := by omega
        simp [this]))
      clear hfe HFE HFR HF
      go_wp2
      go_ret
      exact ⟨rfl, HFIN.out, hsz, hbr⟩
end Go.Proofs.YtdmdfcdfmedhcaaDoor
