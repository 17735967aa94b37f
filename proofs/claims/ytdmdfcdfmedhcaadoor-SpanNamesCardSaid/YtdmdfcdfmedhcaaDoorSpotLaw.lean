/-
  What is proved here: plain facts on the line and the column of a place, as the reference's search and as the text's rows tell them. Conditions: the place lies in the text.
-/
import Derived.Test.YtdmdfcdfmedhcaaDoorAsk1
namespace Go.Proofs.YtdmdfcdfmedhcaaDoor

theorem takeWhile_in {α : Type} (q : α → Bool) : ∀ (l : List α) (j : Nat), j < (l.takeWhile q).length → ∃ x, l[j]? = some x ∧ q x = true
  | [], j, h => by simp at h
  | y :: l, j, h => by
    by_cases hy : q y = true
    · rw [List.takeWhile_cons_of_pos hy] at h
      cases j with
      | zero => exact ⟨y, rfl, hy⟩
      | succ j => exact takeWhile_in q l j (by simpa using h)
    · rw [List.takeWhile_cons_of_neg hy] at h
      simp at h
theorem takeWhile_out {α : Type} (q : α → Bool) : ∀ (l : List α) (x : α), l[(l.takeWhile q).length]? = some x → q x = false
  | [], x, h => by simp at h
  | y :: l, x, h => by
    by_cases hy : q y = true
    · rw [List.takeWhile_cons_of_pos hy] at h
      exact takeWhile_out q l x (by simpa using h)
    · rw [List.takeWhile_cons_of_neg hy] at h
      simp at h
      subst h
      simpa using hy
theorem takeWhile_le {α : Type} (q : α → Bool) (l : List α) : (l.takeWhile q).length ≤ l.length := by
  have := List.takeWhile_prefix (l := l) q
  exact this.length_le

theorem row_take (bs : List UInt8) (k : Nat) (hk : k ≤ bs.length) : rowOf bs k = ((begs 0 (lns bs)).takeWhile (fun x => decide (x ≤ k))).length := by
  have := begs_upto bs 0 k hk
  rw [Nat.zero_add] at this
  exact this.symm

theorem row_le (bs : List UInt8) (k : Nat) (hk : k ≤ bs.length) : 1 ≤ rowOf bs k ∧ rowOf bs k ≤ (lns bs).length := by
  constructor
  · unfold rowOf; omega
  · rw [row_take bs k hk]
    have := takeWhile_le (fun x => decide (x ≤ k)) (begs 0 (lns bs))
    rwa [begs_length] at this

/-- Ahead of the place's line each line begins at or ahead of the place. -/
theorem row_in (bs : List UInt8) (k j : Nat) (hk : k ≤ bs.length) (hj : j < rowOf bs k) : off (lns bs) j ≤ k := by
  have h1 := (row_le bs k hk).2
  rw [row_take bs k hk] at hj
  obtain ⟨x, hx, hq⟩ := takeWhile_in _ _ j hj
  have := begs_get (lns bs) 0 j (by rw [row_take bs k hk] at h1; omega)
  rw [hx, Nat.zero_add] at this
  have e := Option.some.inj this
  subst e
  simpa using hq
theorem row_out (bs : List UInt8) (k : Nat) (hk : k ≤ bs.length) (hj : rowOf bs k < (lns bs).length) : k < off (lns bs) (rowOf bs k) := by
  have h := begs_get (lns bs) 0 (rowOf bs k) hj
  rw [Nat.zero_add] at h
  have h2 := takeWhile_out (fun x => decide (x ≤ k)) (begs 0 (lns bs)) (off (lns bs) (rowOf bs k)) (by rw [← row_take bs k hk]; exact h)
  simpa using h2

theorem row_from (bs : List UInt8) (k : Nat) (hk : k ≤ bs.length) : fromOf bs k = off (lns bs) (rowOf bs k - 1) ∧ fromOf bs k ≤ k := by
  have h := row_le bs k hk
  have hb := bnd_line bs (rowOf bs k - 1) (by omega)
  have e : ((rowOf bs k - 1 + 1 : Nat) : Int) = ((rowOf bs k : Nat) : Int) := by omega
  rw [e] at hb
  have h1 : fromOf bs k = off (lns bs) (rowOf bs k - 1) := by unfold fromOf; rw [hb]
  exact ⟨h1, by rw [h1]; exact row_in bs k _ hk (by omega)⟩

theorem row_seg (bs : List UInt8) (k : Nat) (hk : k ≤ bs.length) (h : rowOf bs k - 1 < (lns bs).length) :
    segOf bs k = str ((lns bs)[rowOf bs k - 1]) ∧ toOf bs k = fromOf bs k + (segOf bs k).size ∧ k ≤ toOf bs k := by
  have hr := row_le bs k hk
  have hb := bnd_line bs (rowOf bs k - 1) h
  have e : ((rowOf bs k - 1 + 1 : Nat) : Int) = ((rowOf bs k : Nat) : Int) := by omega
  rw [e] at hb
  have hs := seg_line bs (rowOf bs k - 1) h
  have e2 : (((rowOf bs k - 1 : Nat) : Int) + 1) = ((rowOf bs k : Nat) : Int) := by omega
  rw [e2] at hs
  have h1 : segOf bs k = str ((lns bs)[rowOf bs k - 1]) := by unfold segOf; rw [hs]
  have h2 : toOf bs k = off (lns bs) (rowOf bs k - 1) + ((lns bs)[rowOf bs k - 1]).length := by unfold toOf; rw [hb]
  have hf := (row_from bs k hk).1
  refine ⟨h1, by rw [h1, str_size, h2, hf], ?_⟩
  have hsu := off_succ (lns bs) (rowOf bs k - 1) h
  have e3 : rowOf bs k - 1 + 1 = rowOf bs k := by omega
  rw [e3] at hsu
  rcases Nat.lt_or_ge (rowOf bs k) (lns bs).length with hlt | hge
  · have := row_out bs k hk hlt
    omega
  · have hN : rowOf bs k = (lns bs).length := by omega
    have ht := off_total bs
    have hNo : off (lns bs) (rowOf bs k) = off (lns bs) (lns bs).length := congrArg (off (lns bs)) hN
    omega

/-- The column by the rising list of places. -/
theorem col_take (bs : List UInt8) (k : Nat) (hk : k ≤ bs.length) : colAt bs k = ((cols (segOf bs k)).takeWhile (fun x => decide (x ≤ k - fromOf bs k))).length := by
  have hr := row_le bs k hk
  have hf := (row_from bs k hk).2
  obtain ⟨_, h2, h3⟩ := row_seg bs k hk (by omega)
  rw [takeWhile_sorted _ _ (cols_sorted _)]
  unfold colAt colOf cols
  rw [List.countP_append]
  congr 1
  · refine List.countP_congr fun x _ => ?_
    simp; omega
  · by_cases hkt : k = toOf bs k
    · rw [if_pos hkt, List.countP_cons_of_pos (by simp; omega)]; simp
    · rw [if_neg hkt, List.countP_cons_of_neg (by simp; omega)]; simp
end Go.Proofs.YtdmdfcdfmedhcaaDoor
