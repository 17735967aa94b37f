/-
  What is proved here: lendBytes answers new bytes, the same as those handed in, with five marks behind them in their spare room. Conditions: the bytes lie in memory; fewer than 2^31 of them.
-/
import Derived.Test.YtfjiikadnlhekaaDoorKnown
import Derived.Laws.CopyOwn
import Derived.Laws.NewBlocks
namespace Go.Proofs.YtfjiikadnlhekaaDoor
open Go.RowKit

/-- Cells, j marks behind them, then zeros. -/
def marked (x : List Value) (j m : Nat) (u z : Value) : List Value := x ++ (List.replicate j u ++ List.replicate (m - j) z)
theorem marked_length (x : List Value) (j m : Nat) (u z : Value) (h : j ≤ m) : (marked x j m u z).length = x.length + m := by simp [marked]; omega
theorem marked_next (x : List Value) (j m : Nat) (u z : Value) (h : j < m) : (marked x j m u z).set (x.length + j) u = marked x (j + 1) m u z := by
  unfold marked
  rw [List.set_append_right _ _ (by omega)]
  congr 1
  rw [List.set_append_right _ _ (by simp)]
  have e : x.length + j - x.length - (List.replicate j u).length = 0 := by simp
  rw [e]
  obtain ⟨r, hr⟩ : ∃ r, m - j = r + 1 := ⟨m - j - 1, by omega⟩
  rw [hr, List.replicate_succ, List.set_cons_zero, List.replicate_succ', show m - (j + 1) = r from by omega]
  simp
theorem marked_end (x : List Value) (m : Nat) (u z : Value) : marked x m m u z = x ++ List.replicate m u := by simp [marked]

theorem madeCells_list (z : Value) (n : Nat) : (madeCells #[z] n).toList = List.replicate n z := by
  apply List.ext_getElem
  · simp [madeCells]
  · intro i h1 h2
    simp [madeCells, Nat.mod_one]

/-- A row that make has laid is known whole. -/
theorem made_block {w : World} {base g n : Nat} {e : TypeId} {z : Value} (h : w.ownsRow base e 1 (.slice (some ⟨g, 0, none⟩) n n) n (madeCells #[z] n).toList) :
    w.heap[g]? = some (.cells (List.replicate n z).toArray e (0, 0)) := by
  rcases h.2 with ⟨h', _⟩ | ⟨g', cap', cur, h', _, hg, _, _, hcs, htake⟩
  · simp at h'
  · simp only [Value.slice.injEq, Option.some.injEq, Addr.mk.injEq, and_true, true_and] at h'
    obtain ⟨rfl, rfl⟩ := h'
    rw [madeCells_list] at htake
    rw [hg]
    have : cur = (List.replicate n z).toArray := by
      rw [← htake, List.take_of_length_le (by simp; omega)]
    rw [this]

theorem info5 : (Tryd.prog.info? 5).map (fun i => (i.zero, i.size, i.bytes)) = some (some (.int .u8 0), 1, 1) := by kernel_rfl
theorem size5 : (Tryd.prog.info? 5).map (·.size) = some 1 := by kernel_rfl

/-- What Lend hands out lies so. -/
def LentB (w : World) (g : Nat) (bs : List UInt8) : Prop := w.heap[g]? = some (.cells (bcells bs ++ List.replicate 5 (Value.int .u8 201)).toArray 5 (0, 0))

set_option maxHeartbeats 1000000 in
set_option maxRecDepth 100000 in
theorem lend_bytes (ao : Option Addr) (cap : Nat) (bs : List UInt8) (w : World) (hB : Lies w ao (bcells bs)) (hn : bs.length ≤ 2147483647) :
    Calls Tryd.prog 19 #[.slice ao bs.length cap] w fun e w' => ∃ g, e = .returned (.slice (some ⟨g, 0, none⟩) bs.length (bs.length + 5)) ∧ LentB w' g bs ∧ w.heap.size ≤ g ∧ Below w.heap.size w w' := by
  obtain ⟨i0, hi, hz0, hz1, hz2⟩ := info_parts info5
  go_enter Tryd.func19, Tryd.ntmps19
  go_wp2_with (at_make; refine wpList_make_full _ rfl _ _ 32 rfl w.heap.size 5 i0 (.int .u8 0) 1 Tryd.underlying32 hi hz0 hz1 .i64 .i64 _ _ (bs.length + 5) rfl rfl ?l1 ?l2 ?b2 ?b3 ?b4 ?_)
  case l1 => omega
  case l2 => omega
  case b2 => rw [hz2]; omega
  case b3 => unfold maxLen; omega
  case b4 => exact Nat.le_refl _
  intro w1 hown hgr
  have HG := Lib.hid (made_block hown)
  have hb1 : Below w.heap.size w w1 := (Below.refl _ w).grown hgr (Nat.le_refl _) (fun k hk => by cases hk)
  have hB1 := hB.below hb1
  have hsz1 := hgr.size
  have hlen : (bcells bs).length = Nat.min bs.length (bs.length + 5) := by rw [bcells_length]; exact (Nat.min_eq_left (by omega)).symm
  have hsrc : 0 < (bcells bs).length → (some (⟨w.heap.size, 0, none⟩ : Addr)) = some ⟨w.heap.size, 0, none⟩ ∧ ∃ ad, ao = some ad ∧ ∀ j v, (bcells bs)[j]? = some v → w1.cell? (ad.add j) = some v := by
    intro hp
    obtain ⟨ad, had, _⟩ := hB1.at 0 hp
    refine ⟨rfl, ad, had, fun j v hv => ?_⟩
    obtain ⟨a', ha', hc⟩ := hB1 j v hv
    rw [had] at ha'
    cases ha'
    exact hc
  have HL := Lib.hid hlen
  have HS := Lib.hid hsrc
  have HO := Lib.hid hown
  clear hlen hsrc hown hgr
  go_wp2_with (with_reducible refine wpList_copy_splice rfl (.tmp 9) (.tmp 10) 32 32 rfl 5 Tryd.underlying32 size5 (some ⟨w.heap.size, 0, none⟩) ao (bs.length + 5) (bs.length + 5) bs.length cap rfl rfl w.heap.size 0 (List.replicate (bs.length + 5) (.int .u8 0)) 5 HG.out (bcells bs) HL.out HS.out ?q1 ?q2 w.heap.size w hb1 (Nat.le_refl _) ?_)
  case q1 => rw [bcells_length]; simp
  case q2 => intro v hv; simp [bcells] at hv; obtain ⟨c, _, rfl⟩ := hv; rfl
  intro w2 HG2 hb2
  have HG3 : Hid (w2.heap[w.heap.size]? = some (.cells (marked (bcells bs) 0 5 (.int .u8 201) (.int .u8 0)).toArray 5 (0, 0))) := Lib.hid (by
    rw [HG2.out]
    congr 3
    simp [splice, marked, bcells_length])
  clear HG2 HG HL HS HO hB1
  go_wp2
  go_loopw [4] (fun i wr => ∃ j : Nat, j ≤ 5 ∧ i = .int .i64 ((bs.length + j : Nat) : Int) ∧ Hid (wr.heap[w.heap.size]? = some (.cells (marked (bcells bs) j 5 (.int .u8 201) (.int .u8 0)).toArray 5 (0, 0))) ∧ Below w.heap.size w wr) (fun i _ => bs.length + 5 - (intOf i).toNat)
  case atStart => exact ⟨0, by omega, rfl, HG3, hb2⟩
  case round =>
    obtain ⟨j, hj, rfl, HJ, hbr⟩ := hrel
    by_cases hlt : j < 5
    · have hc : ∃ v, wr.cell? ⟨w.heap.size, bs.length + j, none⟩ = some v := by
        have hl : bs.length + j < (marked (bcells bs) j 5 (.int .u8 201) (.int .u8 0)).length := by rw [marked_length _ _ _ _ _ (by omega), bcells_length]; omega
        rw [cell_at HJ.out, List.getElem?_toArray]
        exact ⟨_, List.getElem?_eq_getElem hl⟩
      obtain ⟨v0, hc⟩ := hc
      have hf := free_at HJ.out (bs.length + j)
      have hnx := marked_next (bcells bs) j 5 (.int .u8 201) (.int .u8 0) hlt
      rw [bcells_length] at hnx
      have HN : Hid ((wr.setCell ⟨w.heap.size, bs.length + j, none⟩ (.int .u8 201)).heap[w.heap.size]? = some (.cells (marked (bcells bs) (j + 1) 5 (.int .u8 201) (.int .u8 0)).toArray 5 (0, 0))) := Lib.hid (by
        rw [set_block HJ.out, ← hnx]
        simp)
      have hbn : Below w.heap.size w (wr.setCell ⟨w.heap.size, bs.length + j, none⟩ (.int .u8 201)) := hbr.setCell (Nat.le_refl _) _
      clear hnx
      go_wp2
      go_roundw
      case rel => exact ⟨j + 1, by omega, by go_num, HN, hbn⟩
      case measure => simp [intOf]; omega
    · obtain rfl : j = 5 := by omega
      clear hj hlt
      go_wp2
      go_ret
      exact ⟨w.heap.size, rfl, by unfold LentB; rw [HJ.out, marked_end], Nat.le_refl _, hbr⟩
end Go.Proofs.YtfjiikadnlhekaaDoor
