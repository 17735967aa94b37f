/-
  What is proved here: plain facts on a text's lines one behind the other, with bytes 10 between: no program in sight. Conditions: none beyond each lemma's own.
-/
import Derived.Test.YtdmdfcdfmedhcaaDoorAsk3
namespace Go.Proofs.YtdmdfcdfmedhcaaDoor
open Go.RowKit

theorem line_take (l : List UInt8) (k : Nat) (h : k < (lns l).length) : l.take (off (lns l) k + ((lns l)[k]).length) = l.take (off (lns l) k) ++ (lns l)[k] := by
  have h1 := take_drop_line l k h
  have h2 := List.take_append_drop (off (lns l) k) (l.take (off (lns l) k + ((lns l)[k]).length))
  rw [h1, List.take_take, Nat.min_eq_left (by omega)] at h2
  exact h2.symm

/-- Behind a line that is not the last one stands a byte 10. -/
theorem sep_ten : ∀ (l : List UInt8) (k : Nat) (h : k + 1 < (lns l).length), l[off (lns l) k + ((lns l)[k]).length]? = some 10
  | [], k, h => by simp [lns] at h
  | c :: r, k, h => by
    by_cases hc : c = 10
    · subst hc
      simp only [lns_ten] at h ⊢
      cases k with
      | zero => simp [off]
      | succ k =>
        have ih := sep_ten r k (by simpa using h)
        rw [off_cons]
        simp only [List.length_nil, List.getElem_cons_succ]
        have e : 0 + 1 + off (lns r) k + ((lns r)[k]'(by simp at h; omega)).length = (off (lns r) k + ((lns r)[k]'(by simp at h; omega)).length) + 1 := by omega
        rw [e, List.getElem?_cons_succ]
        exact ih
    · obtain ⟨a, t, h1, h2⟩ := lns_other c r hc
      simp only [h2] at h ⊢
      have ih := sep_ten r
      simp only [h1] at ih
      cases k with
      | zero =>
        have := ih 0 (by simpa using h)
        simp only [off_zero, List.getElem_cons_zero, Nat.zero_add] at this ⊢
        rw [List.length_cons, List.getElem?_cons_succ, this]
      | succ k =>
        have := ih (k + 1) (by simpa using h)
        rw [off_cons] at this ⊢
        simp only [List.getElem_cons_succ] at this ⊢
        have e : (c :: a).length + 1 + off t k + (t[k]'(by simp at h; omega)).length = (a.length + 1 + off t k + (t[k]'(by simp at h; omega)).length) + 1 := by simp; omega
        rw [e, List.getElem?_cons_succ, this]

theorem line_sep (l : List UInt8) (k : Nat) (h : k + 1 < (lns l).length) : l.take (off (lns l) (k + 1)) = l.take (off (lns l) k) ++ ((lns l)[k] ++ [10]) := by
  have h1 := sep_ten l k h
  have h2 := off_succ (lns l) k (by omega)
  obtain ⟨hl, he⟩ := List.getElem?_eq_some_iff.1 h1
  rw [h2, List.take_succ_eq_append_getElem hl, line_take l k (by omega), he, List.append_assoc]

theorem line_last (l : List UInt8) (k : Nat) (h : k + 1 = (lns l).length) : l.take (off (lns l) (k + 1)) = l.take (off (lns l) k) ++ (lns l)[k] ∧ l.take (off (lns l) (k + 1)) = l := by
  have h2 := off_succ (lns l) k (by omega)
  have h3 := off_total l
  rw [← h] at h3
  have e : off (lns l) k + ((lns l)[k]).length = l.length := by omega
  have h4 := line_take l k (by omega)
  rw [e, List.take_of_length_le (Nat.le_refl _)] at h4
  rw [h3, List.take_of_length_le (by omega)]
  exact ⟨h4, rfl⟩

theorem line_told (bs : List UInt8) (k : Nat) (hk : k < (lns bs).length) : rLine bs ((k : Int) + 1) = (str ((lns bs)[k]), 0) := by
  have hll := lns_length bs
  have : rLine bs ((k : Int) + 1) = (str (seg bs ((k : Int) + 1)), 0) := if_neg (by omega)
  rw [this, seg_line bs k hk]

theorem cols_first (s : ByteArray) : (cols s).getD 0 0 = 0 := by
  by_cases h : 0 < s.size
  · obtain ⟨n, hn⟩ : ∃ n, s.size = n + 1 := ⟨s.size - 1, by omega⟩
    have h1 : starts s = startsF s (n + 1) 0 := by unfold starts; rw [hn]
    rw [startsF_step s n 0 h] at h1
    unfold cols
    rw [h1]
    rfl
  · have h0 : s.size = 0 := by omega
    have h1 : starts s = [] := startsF_end s s.size 0 h
    unfold cols
    rw [h1, h0]
    rfl

theorem cols_len (s : ByteArray) : 1 ≤ (cols s).length ∧ (cols s).length ≤ s.size + 1 := by
  have := starts_length s
  unfold cols
  simp
  omega

theorem place_first (bs : List UInt8) (k : Nat) (hk : k < (lns bs).length) : rPlace bs ((k : Int) + 1) 1 = (((off (lns bs) k : Nat) : Int), 0) := by
  have hll := lns_length bs
  have hb := bnd_line bs k hk
  have hc := cols_len (str ((lns bs)[k]))
  unfold rPlace
  rw [seg_line bs k hk, show ((k : Int) + 1) = ((k + 1 : Nat) : Int) from by omega, hb, if_neg (by omega), if_neg (by omega)]
  have e : ((1 : Int).toNat - 1) = 0 := rfl
  rw [e, cols_first]
  rfl

theorem place_behind (bs : List UInt8) (k : Nat) (hk : k < (lns bs).length) : rPlace bs ((k : Int) + 1) (((str ((lns bs)[k])).size : Int) + 2) = (0, 1) := by
  have hll := lns_length bs
  have hc := cols_len (str ((lns bs)[k]))
  unfold rPlace
  rw [seg_line bs k hk, if_neg (by omega), if_pos (by omega)]

theorem line_past (bs : List UInt8) : rLine bs ((bs.count 10 : Nat) + 1 + 1 : Int) = (ByteArray.empty, 1) ∧ rPlace bs ((bs.count 10 : Nat) + 1 + 1 : Int) 1 = (0, 1) :=
  ⟨if_pos (by omega), if_pos (by omega)⟩

/-- An owned row stays when memory is only made. -/
theorem own_below {w w' : World} {base : Nat} {e : TypeId} {size : Nat} {v : Value} {n : Nat} {xs : List Value} (h : w.ownsRow base e size v n xs) (hb : Below w.heap.size w w') : w'.ownsRow base e size v n xs := by
  refine ⟨h.1, ?_⟩
  rcases h.2 with hn | ⟨g, cap, cur, hv, hg, hh, hr⟩
  · exact .inl hn
  · exact .inr ⟨g, cap, cur, hv, hg, (hb.block g (Array.getElem?_eq_some_iff.1 hh).1).trans hh, hr⟩

/-- An owned row of bytes, as bytes in memory. -/
theorem own_bytes {w : World} {base : Nat} {e : TypeId} {v : Value} {bs : List UInt8} (h : w.ownsRow base e 1 v bs.length (Lib.byteCells bs)) : ∃ o cap, v = .slice o bs.length cap ∧ BAt w o bs := by
  rcases h.2 with ⟨hv, hn⟩ | ⟨g, cap, cur, hv, hg, hh, hr⟩
  · refine ⟨none, 0, by rw [hv, hn], fun i c hc => ?_⟩
    have : bs = [] := List.eq_nil_of_length_eq_zero hn
    subst this
    simp at hc
  · refine ⟨some ⟨g, 0, none⟩, cap, hv, fun i c hc => ⟨_, rfl, ?_⟩⟩
    refine h.cells (g := g) (by rw [hv]; rfl) i _ ?_
    simp [Lib.byteCells, hc]
theorem byteCells_app (a b : List UInt8) : Lib.byteCells a ++ Lib.byteCells b = Lib.byteCells (a ++ b) := by simp [Lib.byteCells]
theorem strCells_str (l : List UInt8) : Lib.strCells (str l) = Lib.byteCells l := rfl
theorem ten_cells : [Value.int .u8 10] = Lib.byteCells [10] := rfl
end Go.Proofs.YtdmdfcdfmedhcaaDoor
