/-
  What is proved here: plain facts on how the line and the column of a place turn from a place to the next. Conditions: the places lie in the text.
-/
import Derived.Test.YtdmdfcdfmedhcaaDoorSpotLaw
namespace Go.Proofs.YtdmdfcdfmedhcaaDoor

/-- Does a piece begin there, or is it a line's end? -/
def isBeg (bs : List UInt8) (k : Nat) : Bool := (cols (segOf bs k)).contains (k - fromOf bs k)
/-- The place that the place's spot tells. -/
def lastOf (bs : List UInt8) (k : Nat) : Nat := fromOf bs k + (cols (segOf bs k)).getD (colAt bs k - 1) 0

def upto (l : List Nat) (d : Nat) : Nat := l.countP (fun x => decide (x ≤ d))

theorem upto_succ : ∀ (l : List Nat) (d : Nat), l.Pairwise (· < ·) → upto l (d + 1) = upto l d + if (d + 1) ∈ l then 1 else 0
  | [], d, _ => by simp [upto]
  | x :: l, d, h => by
    rw [List.pairwise_cons] at h
    have ih := upto_succ l d h.2
    unfold upto at ih ⊢
    by_cases h1 : x ≤ d
    · rw [List.countP_cons_of_pos (by simp; omega), List.countP_cons_of_pos (by simpa using h1), ih]
      have : (d + 1 ∈ x :: l) ↔ (d + 1 ∈ l) := by
        rw [List.mem_cons]
        constructor
        · rintro (e | e)
          · omega
          · exact e
        · exact Or.inr
      simp only [this]; omega
    · by_cases h2 : x = d + 1
      · subst h2
        have hz : ∀ e, e ≤ d + 1 → l.countP (fun y => decide (y ≤ e)) = 0 := fun e he => by
          rw [List.countP_eq_zero]; intro y hy; have := h.1 y hy; simp; omega
        rw [List.countP_cons_of_pos (by simp), List.countP_cons_of_neg (by simp), hz _ (Nat.le_refl _), hz d (by omega), if_pos (by simp)]
      · have hz : ∀ e, e ≤ d + 1 → l.countP (fun y => decide (y ≤ e)) = 0 := fun e he => by
          rw [List.countP_eq_zero]; intro y hy; have := h.1 y hy; simp; omega
        rw [List.countP_cons_of_neg (by simp; omega), List.countP_cons_of_neg (by simpa using h1), hz _ (Nat.le_refl _), hz d (by omega), if_neg]
        intro hm
        rcases List.mem_cons.1 hm with e | e
        · omega
        · have := h.1 _ e; omega

theorem upto_at : ∀ (l : List Nat) (d : Nat), l.Pairwise (· < ·) → d ∈ l → l.getD (upto l d - 1) 0 = d ∧ 1 ≤ upto l d
  | [], d, _, hm => by simp at hm
  | x :: l, d, h, hm => by
    rw [List.pairwise_cons] at h
    unfold upto
    rcases List.mem_cons.1 hm with rfl | hm
    · have hz : l.countP (fun y => decide (y ≤ d)) = 0 := by
        rw [List.countP_eq_zero]; intro y hy; have := h.1 y hy; simp; omega
      rw [List.countP_cons_of_pos (by simp), hz]
      simp
    · have hxd := h.1 d hm
      obtain ⟨ih1, ih2⟩ := upto_at l d h.2 hm
      unfold upto at ih1 ih2
      rw [List.countP_cons_of_pos (by simp; omega)]
      refine ⟨?_, by omega⟩
      have e : l.countP (fun x => decide (x ≤ d)) + 1 - 1 = (l.countP (fun x => decide (x ≤ d)) - 1) + 1 := by omega
      rw [e, List.getD_cons_succ, ih1]

theorem cols_zero (s : ByteArray) : 0 ∈ cols s := by
  unfold cols starts
  by_cases h : s.size = 0
  · rw [h]; simp
  · obtain ⟨n, hn⟩ : ∃ n, s.size = n + 1 := ⟨s.size - 1, by omega⟩
    have : startsF s s.size 0 = 0 :: startsF s n (0 + (Utf8.decode s 0).2) := by
      rw [hn]
      exact startsF_step s n 0 (by omega)
    rw [this]; simp

theorem upto_zero (s : ByteArray) : upto (cols s) 0 = 1 := by
  have h := upto_at (cols s) 0 (cols_sorted s) (cols_zero s)
  have hle : ∀ (l : List Nat), l.Pairwise (· < ·) → upto l 0 ≤ 1 := by
    intro l hl
    induction l with
    | nil => simp [upto]
    | cons x l _ =>
      rw [List.pairwise_cons] at hl
      unfold upto
      have hz : l.countP (fun y => decide (y ≤ 0)) = 0 := by
        rw [List.countP_eq_zero]; intro y hy; have := hl.1 y hy; simp; omega
      by_cases hx : x ≤ 0
      · rw [List.countP_cons_of_pos (by simpa using hx), hz]; omega
      · rw [List.countP_cons_of_neg (by simpa using hx), hz]; omega
  have := hle _ (cols_sorted s)
  omega

theorem col_upto (bs : List UInt8) (k : Nat) (hk : k ≤ bs.length) : colAt bs k = upto (cols (segOf bs k)) (k - fromOf bs k) := by
  rw [col_take bs k hk, takeWhile_sorted _ _ (cols_sorted _)]
  rfl

theorem row_succ (bs : List UInt8) (k : Nat) (hk : k < bs.length) : rowOf bs (k + 1) = rowOf bs k + if bs[k] = 10 then 1 else 0 := by
  unfold rowOf
  rw [take_count_succ bs k hk]; omega

theorem from_succ_same (bs : List UInt8) (k : Nat) (hk : k < bs.length) (h : bs[k] ≠ 10) : rowOf bs (k + 1) = rowOf bs k ∧ fromOf bs (k + 1) = fromOf bs k ∧ segOf bs (k + 1) = segOf bs k := by
  have hr := row_succ bs k hk
  rw [if_neg h] at hr
  replace hr : rowOf bs (k + 1) = rowOf bs k := hr
  have e : ((rowOf bs (k + 1) : Nat) : Int) = ((rowOf bs k : Nat) : Int) := by rw [hr]
  exact ⟨hr, by unfold fromOf; rw [e], by unfold segOf; rw [e]⟩

theorem from_succ_ten (bs : List UInt8) (k : Nat) (hk : k < bs.length) (h : bs[k] = 10) : rowOf bs (k + 1) = rowOf bs k + 1 ∧ fromOf bs (k + 1) = k + 1 ∧ k = toOf bs k := by
  have hr := row_succ bs k hk
  rw [if_pos h] at hr
  have hle := row_le bs (k + 1) (by omega)
  have h1 := row_from bs (k + 1) (by omega)
  have h2 := row_out bs k (by omega) (by omega)
  rw [hr, Nat.add_sub_cancel] at h1
  have hrk := row_le bs k (by omega)
  obtain ⟨hs1, hs2, hs3⟩ := row_seg bs k (by omega) (by omega)
  have hsu := off_succ (lns bs) (rowOf bs k - 1) (by omega)
  have e3 : rowOf bs k - 1 + 1 = rowOf bs k := by omega
  rw [e3] at hsu
  have hf := (row_from bs k (by omega)).1
  rw [hs1, str_size] at hs2
  exact ⟨hr, by omega, by omega⟩

theorem from_zero (bs : List UInt8) : rowOf bs 0 = 1 ∧ fromOf bs 0 = 0 := by
  have h1 : rowOf bs 0 = 1 := by simp [rowOf]
  have := row_from bs 0 (Nat.zero_le _)
  exact ⟨h1, by omega⟩

/-- How the spot turns from a place to the next. -/
theorem spot_next (bs : List UInt8) (k : Nat) (hk : k < bs.length) :
    (isBeg bs (k + 1) = true ∧ ((rowOf bs (k + 1) = rowOf bs k ∧ colAt bs (k + 1) = colAt bs k + 1) ∨ (rowOf bs (k + 1) = rowOf bs k + 1 ∧ colAt bs (k + 1) = 1)) ∧ lastOf bs (k + 1) = k + 1) ∨
    (isBeg bs (k + 1) = false ∧ rowOf bs (k + 1) = rowOf bs k ∧ colAt bs (k + 1) = colAt bs k ∧ lastOf bs (k + 1) = lastOf bs k) := by
  have hc1 := col_upto bs (k + 1) (by omega)
  have hc0 := col_upto bs k (by omega)
  by_cases h : bs[k] = 10
  · obtain ⟨h1, h2, _⟩ := from_succ_ten bs k hk h
    left
    rw [h2, Nat.sub_self, upto_zero] at hc1
    have hb : isBeg bs (k + 1) = true := by unfold isBeg; rw [h2, Nat.sub_self]; simpa using cols_zero _
    refine ⟨hb, Or.inr ⟨h1, hc1⟩, ?_⟩
    unfold lastOf
    rw [hc1, h2]
    have := (upto_at _ 0 (cols_sorted (segOf bs (k + 1))) (cols_zero _)).1
    rw [upto_zero] at this
    rw [this]
  · obtain ⟨h1, h2, h3⟩ := from_succ_same bs k hk h
    have hf := (row_from bs k (by omega)).2
    have e : k + 1 - fromOf bs k = (k - fromOf bs k) + 1 := by omega
    rw [h2, h3, e] at hc1
    have hu := upto_succ (cols (segOf bs k)) (k - fromOf bs k) (cols_sorted _)
    by_cases hm : (k - fromOf bs k) + 1 ∈ cols (segOf bs k)
    · left
      rw [if_pos hm] at hu
      have hb : isBeg bs (k + 1) = true := by unfold isBeg; rw [h2, h3, e]; simpa using hm
      refine ⟨hb, Or.inl ⟨h1, by omega⟩, ?_⟩
      unfold lastOf
      rw [h2, h3, hc1, (upto_at _ _ (cols_sorted _) hm).1]
      omega
    · right
      rw [if_neg hm] at hu
      have hb : isBeg bs (k + 1) = false := by unfold isBeg; rw [h2, h3, e]; simpa using hm
      refine ⟨hb, h1, by omega, ?_⟩
      unfold lastOf
      rw [h2, h3, hc1, hc0, hu, Nat.add_zero]

theorem spot_first (bs : List UInt8) : isBeg bs 0 = true ∧ rowOf bs 0 = 1 ∧ colAt bs 0 = 1 ∧ lastOf bs 0 = 0 := by
  obtain ⟨h1, h2⟩ := from_zero bs
  have hc := col_upto bs 0 (Nat.zero_le _)
  rw [h2, Nat.sub_self, upto_zero] at hc
  refine ⟨?_, h1, hc, ?_⟩
  · unfold isBeg; rw [h2]; simpa using cols_zero _
  · unfold lastOf
    rw [hc, h2]
    have := (upto_at _ 0 (cols_sorted (segOf bs 0)) (cols_zero _)).1
    rw [upto_zero] at this
    rw [this]

/-- The place of a place's spot. -/
theorem place_last (bs : List UInt8) (k : Nat) (hk : k ≤ bs.length) : rPlace bs (rowOf bs k : Nat) (colAt bs k : Nat) = (((lastOf bs k : Nat) : Int), (0 : Int)) := by
  have hr := row_le bs k hk
  have hll := lns_length bs
  have hc := col_upto bs k hk
  have h1 : 1 ≤ colAt bs k := by
    rw [hc]
    have h0 := upto_zero (segOf bs k)
    have : ∀ d, upto (cols (segOf bs k)) 0 ≤ upto (cols (segOf bs k)) d := fun d => by
      refine List.countP_mono_left fun x _ hx => ?_
      simp at hx ⊢; omega
    have := this (k - fromOf bs k)
    omega
  have h2 : colAt bs k ≤ (cols (segOf bs k)).length := by rw [hc]; exact List.countP_le_length
  unfold rPlace
  rw [if_neg (by omega)]
  rw [show str (seg bs (rowOf bs k : Nat)) = segOf bs k from rfl, if_neg (by omega)]
  unfold lastOf
  have e : ((colAt bs k : Nat) : Int).toNat - 1 = colAt bs k - 1 := by omega
  rw [e]
  rfl

/-- All places of a line have its row. -/
theorem row_within (bs : List UInt8) (k i : Nat) (hi : i ≤ bs.length) (h1 : fromOf bs i ≤ k) (h2 : k ≤ i) : rowOf bs k = rowOf bs i := by
  have hle : rowOf bs k ≤ rowOf bs i := by
    unfold rowOf
    have : (bs.take k).count 10 ≤ (bs.take i).count 10 := by
      have e : bs.take k = (bs.take i).take k := by rw [List.take_take, Nat.min_eq_left h2]
      rw [e]
      exact List.Sublist.count_le _ (List.take_sublist _ _)
    omega
  rcases Nat.lt_or_ge (rowOf bs k) (rowOf bs i) with hlt | hge
  · exfalso
    have hr := row_le bs i hi
    have ho := row_out bs k (by omega) (by omega)
    have hm := off_mono (lns bs) (rowOf bs i - 1 - rowOf bs k) (rowOf bs k) (by omega)
    have e : rowOf bs k + (rowOf bs i - 1 - rowOf bs k) = rowOf bs i - 1 := by omega
    rw [e] at hm
    have := (row_from bs i hi).1
    omega
  · omega
theorem beg_within (bs : List UInt8) (k i : Nat) (hi : i ≤ bs.length) (h1 : fromOf bs i ≤ k) (h2 : k ≤ i) : isBeg bs k = (cols (segOf bs i)).contains (k - fromOf bs i) := by
  have hr := row_within bs k i hi h1 h2
  unfold isBeg segOf fromOf
  rw [hr]
end Go.Proofs.YtdmdfcdfmedhcaaDoor
