/-
  What is proved here: plain facts on where the lines of a text begin; no program in sight. Conditions: none beyond each lemma's own.
-/
import Derived.Test.YtdmdfcdfmedhcaaDoorMath
namespace Go.Proofs.YtdmdfcdfmedhcaaDoor

/-- How many bytes stand ahead of the k-th line (lines counted from 0). -/
def off (ls : List (List UInt8)) (k : Nat) : Nat := ((ls.take k).map (fun l => l.length + 1)).sum

theorem off_zero (ls : List (List UInt8)) : off ls 0 = 0 := by simp [off]
theorem off_cons (l : List UInt8) (ls : List (List UInt8)) (k : Nat) : off (l :: ls) (k + 1) = l.length + 1 + off ls k := by simp [off]
theorem off_succ (ls : List (List UInt8)) (k : Nat) (h : k < ls.length) : off ls (k + 1) = off ls k + ls[k].length + 1 := by
  unfold off
  rw [List.take_succ_eq_append_getElem h, List.map_append, List.sum_append]
  simp; omega

theorem begs_get : ∀ (ls : List (List UInt8)) (a k : Nat), k < ls.length → (begs a ls)[k]? = some (a + off ls k)
  | [], _, _, h => by simp at h
  | l :: ls, a, 0, _ => by simp [begs, off_zero]
  | l :: ls, a, k + 1, h => by
    have := begs_get ls (a + l.length + 1) k (by simpa using h)
    rw [begs, List.getElem?_cons_succ, this, off_cons]
    congr 1; omega

theorem off_total : ∀ l : List UInt8, off (lns l) (lns l).length = l.length + 1
  | [] => by simp [lns, off]
  | c :: r => by
    have ih := off_total r
    by_cases hc : c = 10
    · subst hc
      rw [lns_ten, List.length_cons, off_cons, ih]
      simp; omega
    · obtain ⟨a, t, h1, h2⟩ := lns_other c r hc
      rw [h1, List.length_cons, off_cons] at ih
      rw [h2, List.length_cons, off_cons]
      simp; omega

theorem off_mono (ls : List (List UInt8)) : ∀ (d k : Nat), k + d ≤ ls.length → off ls k ≤ off ls (k + d)
  | 0, _, _ => Nat.le_refl _
  | d + 1, k, h => by
    have h1 := off_mono ls d k (by omega)
    have h2 := off_succ ls (k + d) (by omega)
    have e : k + (d + 1) = k + d + 1 := by omega
    rw [e]; omega

/-- A line and what stands ahead of it lie in the text. -/
theorem off_line (l : List UInt8) (k : Nat) (h : k < (lns l).length) : off (lns l) k + ((lns l)[k]).length ≤ l.length := by
  have h1 := off_succ (lns l) k h
  have h2 := off_mono (lns l) ((lns l).length - (k + 1)) (k + 1) (by omega)
  have e : k + 1 + ((lns l).length - (k + 1)) = (lns l).length := by omega
  rw [e, off_total] at h2
  omega

theorem off_le (l : List UInt8) (k : Nat) (h : k ≤ (lns l).length) : off (lns l) k ≤ l.length + 1 := by
  have h2 := off_mono (lns l) ((lns l).length - k) k (by omega)
  have e : k + ((lns l).length - k) = (lns l).length := by omega
  rw [e, off_total] at h2
  exact h2

theorem begs_take_succ (l : List UInt8) (k : Nat) (h : k < (lns l).length) : (begs 0 (lns l)).take (k + 1) = (begs 0 (lns l)).take k ++ [off (lns l) k] := by
  have hl : k < (begs 0 (lns l)).length := by rw [begs_length]; exact h
  have := begs_get (lns l) 0 k h
  rw [List.getElem?_eq_getElem hl, Nat.zero_add] at this
  rw [List.take_succ_eq_append_getElem hl, Option.some.inj this]

/-- The n-th line's bounds by the reference's search: where it begins, and that and its length. -/
theorem bnd_line (l : List UInt8) (k : Nat) (h : k < (lns l).length) : bnd l 0 0 (k + 1 : Nat) = (off (lns l) k, off (lns l) k + ((lns l)[k]).length) := by
  obtain ⟨a, t, hl⟩ : ∃ a t, lns l = a :: t := by
    rcases hl : lns l with _ | ⟨a, t⟩
    · exact absurd hl (lns_ne l)
    · exact ⟨a, t, rfl⟩
  · simp only [hl] at h ⊢
    have hk : k ≤ t.length := by simpa [Nat.lt_succ_iff] using h
    rw [bnd_spec l 0 0 k a t hl hk]
    cases k with
    | zero => simp [off]
    | succ k =>
      have hg := begs_get t (0 + a.length + 1) k (by omega)
      have e1 : (begs (0 + a.length + 1) t).getD k 0 = 0 + a.length + 1 + off t k := by rw [List.getD_eq_getElem?_getD, hg]; rfl
      have e2 : (t.getD k []) = t[k] := by simp [List.getD, List.getElem?_eq_getElem (show k < t.length by omega)]
      rw [if_neg (by omega), off_cons]
      simp only [Nat.add_sub_cancel, e1, e2, List.getElem_cons_succ]
      have e3 : 0 + a.length + 1 + off t k = a.length + 1 + off t k := by omega
      rw [e3]

/-- The bytes between a line's bounds are the line. -/
theorem take_drop_line : ∀ (l : List UInt8) (k : Nat) (h : k < (lns l).length), (l.take (off (lns l) k + ((lns l)[k]).length)).drop (off (lns l) k) = (lns l)[k]
  | [], k, h => by
    have : k = 0 := by simpa [lns] using h
    subst this
    simp [lns, off]
  | c :: r, k, h => by
    by_cases hc : c = 10
    · subst hc
      simp only [lns_ten] at h ⊢
      cases k with
      | zero => simp [off]
      | succ k =>
        have ih := take_drop_line r k (by simpa using h)
        rw [off_cons]
        simp only [List.length_nil, List.getElem_cons_succ]
        have e : 0 + 1 + off (lns r) k + ((lns r)[k]'(by simpa using h)).length = (off (lns r) k + ((lns r)[k]'(by simpa using h)).length) + 1 := by omega
        have e2 : 0 + 1 + off (lns r) k = off (lns r) k + 1 := by omega
        rw [e, e2, List.take_succ_cons, List.drop_succ_cons, ih]
    · obtain ⟨a, t, h1, h2⟩ := lns_other c r hc
      simp only [h2] at h ⊢
      have ih := take_drop_line r
      simp only [h1] at ih
      cases k with
      | zero =>
        have := ih 0 (by simp)
        simp only [off_zero, List.getElem_cons_zero, Nat.zero_add, List.drop_zero] at this ⊢
        rw [List.length_cons, List.take_succ_cons, this]
      | succ k =>
        have := ih (k + 1) (by simpa using h)
        rw [off_cons] at this ⊢
        simp only [List.getElem_cons_succ] at this ⊢
        have e : (c :: a).length + 1 + off t k + (t[k]'(by simpa using h)).length = (a.length + 1 + off t k + (t[k]'(by simpa using h)).length) + 1 := by simp; omega
        have e2 : (c :: a).length + 1 + off t k = (a.length + 1 + off t k) + 1 := by simp; omega
        rw [e, e2, List.take_succ_cons, List.drop_succ_cons, this]
end Go.Proofs.YtdmdfcdfmedhcaaDoor
