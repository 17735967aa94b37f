/-
  What is proved here: plain facts on lists of bytes, their lines, where these begin, and the pieces of a line; no program in sight. Conditions: none beyond each lemma's own.
-/
import Derived.Lib.SplitLaws
import Derived.Laws.RangeAny
namespace Go.Proofs.YtdmdfcdfmedhcaaDoor
open Go.Lib

/-- The lines of a text: parted by the byte 10. -/
def lns : List UInt8 → List (List UInt8)
  | [] => [[]]
  | c :: r => if c = 10 then [] :: lns r else match lns r with
    | [] => [[c]]
    | h :: t => (c :: h) :: t

/-- Where lines begin, the first one at a. -/
def begs (a : Nat) : List (List UInt8) → List Nat
  | [] => []
  | l :: ls => a :: begs (a + l.length + 1) ls

/-- The reference's search of a line's bounds, from place i on. -/
def bnd : List UInt8 → Nat → Nat → Int → Nat × Nat
  | [], i, from0, _ => (from0, i)
  | c :: r, i, from0, n => if c = 10 then (if n = 1 then (from0, i) else bnd r (i + 1) (i + 1) (n - 1)) else bnd r (i + 1) from0 n

theorem lns_ne : ∀ l : List UInt8, lns l ≠ []
  | [] => by simp [lns]
  | c :: r => by
    unfold lns
    split
    · simp
    · split <;> simp

theorem lns_ten (r : List UInt8) : lns (10 :: r) = [] :: lns r := by simp [lns]
theorem lns_other (c : UInt8) (r : List UInt8) (h : c ≠ 10) : ∃ a t, lns r = a :: t ∧ lns (c :: r) = (c :: a) :: t := by
  rcases hr : lns r with _ | ⟨a, t⟩
  · exact absurd hr (lns_ne r)
  · exact ⟨a, t, rfl, by simp [lns, h, hr]⟩

theorem lns_length : ∀ l : List UInt8, (lns l).length = l.count 10 + 1
  | [] => rfl
  | c :: r => by
    by_cases h : c = 10
    · subst h; rw [lns_ten, List.length_cons, lns_length r]; simp
    · obtain ⟨a, t, h1, h2⟩ := lns_other c r h
      have := lns_length r
      rw [h1] at this
      rw [h2, List.count_cons_of_ne (by simpa using h)]
      simpa using this

theorem begs_length : ∀ (ls : List (List UInt8)) (a : Nat), (begs a ls).length = ls.length
  | [], _ => rfl
  | l :: ls, a => by simp [begs, begs_length ls]

/-- A text without a byte 10 is one line. -/
theorem lns_one : ∀ l : List UInt8, l.count 10 = 0 → lns l = [l]
  | [], _ => rfl
  | c :: r, h => by
    have hc : c ≠ 10 := by intro e; subst e; simp at h
    rw [List.count_cons_of_ne (by simpa using hc)] at h
    simp [lns, hc, lns_one r h]

theorem lns_split : ∀ (p r : List UInt8), p.count 10 = 0 → lns (p ++ 10 :: r) = p :: lns r
  | [], r, _ => lns_ten r
  | c :: p, r, h => by
    have hc : c ≠ 10 := by intro e; subst e; simp at h
    rw [List.count_cons_of_ne (by simpa using hc)] at h
    simp [lns, hc, lns_split p r h]

theorem count_ten (l : List UInt8) : Lib.count l [10] = l.count 10 := Lib.count_one 10 l

/-- What the library's split at the byte 10 gives are the lines. -/
theorem splitK_lns : ∀ (k : Nat) (l : List UInt8), l.count 10 = k → Lib.splitK [10] 0 k l = lns l
  | 0, l, h => by rw [lns_one l h]; rfl
  | k + 1, l, h => by
    have hsp := Lib.index_spec l [10]
    rcases hsp with ⟨_, hnone⟩ | ⟨i, hi, hil, hocc, hbef⟩
    · exfalso
      have hm : (10 : UInt8) ∈ l := by
        rw [← List.count_pos_iff]; omega
      obtain ⟨j, hj, he⟩ := List.getElem_of_mem hm
      have := hnone j (by omega)
      rw [Lib.occAt_iff_take l [10] j (by simp; omega)] at this
      rw [List.drop_eq_getElem_cons hj, he] at this
      simp at this
    · have hroom : i + 1 ≤ l.length := by
        rcases Lib.occAt_room hocc with h1 | h1
        · simpa using h1
        · simp at h1
      have hat : l[i]? = some 10 := Lib.occAt_head rfl hocc
      have hge : l[i] = 10 := by
        rw [List.getElem?_eq_getElem (by omega)] at hat
        exact Option.some.inj hat
      have hcut : l = l.take i ++ 10 :: l.drop (i + 1) := by
        conv => lhs; rw [← List.take_append_drop i l, List.drop_eq_getElem_cons (by omega : i < l.length), hge]
      have hpre : (l.take i).count 10 = 0 := by
        rw [List.count_eq_zero]
        intro hm
        obtain ⟨j, hj, he⟩ := List.getElem_of_mem hm
        have hji : j < i := by simp at hj; omega
        have hb := hbef j hji
        rw [Lib.occAt_iff_take l [10] j (by simp; omega), List.drop_eq_getElem_cons (by omega : j < l.length)] at hb
        have he' : l[j] = 10 := by rw [List.getElem_take] at he; exact he
        rw [he'] at hb
        simp at hb
      have hcnt : (l.drop (i + 1)).count 10 = k := by
        have h1 : l.count 10 = (l.take i).count 10 + ((10 : UInt8) :: l.drop (i + 1)).count 10 := by
          conv => lhs; rw [hcut]
          rw [List.count_append]
        rw [hpre, List.count_cons_self] at h1
        omega
      rw [Lib.splitK, if_neg (by rw [hi]; simp), hi]
      have e1 : ((i : Int)).toNat = i := by omega
      simp only [e1, Nat.add_zero, List.length_cons, List.length_nil, Nat.zero_add]
      rw [splitK_lns k _ hcnt]
      conv => rhs; rw [hcut, lns_split _ _ hpre]

/-- The k-th line and where it begins, by the reference's search. -/
theorem bnd_spec : ∀ (l : List UInt8) (i s : Nat) (n : Nat) (h t : _), lns l = h :: t → n ≤ t.length →
    bnd l i s (n + 1 : Nat) = (if n = 0 then (s, i + h.length) else ((begs (i + h.length + 1) t).getD (n - 1) 0, (begs (i + h.length + 1) t).getD (n - 1) 0 + (t.getD (n - 1) []).length))
  | [], i, s, n, h, t, hl, hn => by
    simp only [lns, List.cons.injEq] at hl
    obtain ⟨rfl, rfl⟩ := hl
    have : n = 0 := by simpa using hn
    subst this
    simp [bnd]
  | c :: r, i, s, n, h, t, hl, hn => by
    by_cases hc : c = 10
    · subst hc
      rw [lns_ten, List.cons.injEq] at hl
      obtain ⟨rfl, rfl⟩ := hl
      rcases hr : lns r with _ | ⟨h', t'⟩
      · exact absurd hr (lns_ne r)
      · cases n with
        | zero => simp [bnd]
        | succ n =>
          have ih := bnd_spec r (i + 1) (i + 1) n h' t' hr (by rw [hr] at hn; simpa using hn)
          have e : ((n + 1 + 1 : Nat) : Int) - 1 = ((n + 1 : Nat) : Int) := by omega
          have hne : ¬ ((n + 1 + 1 : Nat) : Int) = 1 := by omega
          rw [bnd, if_pos rfl, if_neg hne, e, ih]
          cases n with
          | zero => simp [begs]
          | succ m => simp [begs]
    · obtain ⟨h', t', h1, h2⟩ := lns_other c r hc
      rw [h2, List.cons.injEq] at hl
      obtain ⟨rfl, rfl⟩ := hl
      have ih := bnd_spec r (i + 1) s n h' t' h1 hn
      rw [bnd, if_neg hc, ih]
      have e1 : i + 1 + h'.length = i + (c :: h').length := by simp; omega
      rw [e1]

/-- How many lines begin at or ahead of a place: one more than there are bytes 10 ahead of it. -/
theorem begs_upto : ∀ (l : List UInt8) (a k : Nat), k ≤ l.length → ((begs a (lns l)).takeWhile (fun x => decide (x ≤ a + k))).length = (l.take k).count 10 + 1
  | [], a, k, hk => by
    have : k = 0 := by simpa using hk
    subst this
    simp [lns, begs]
  | c :: r, a, k, hk => by
    have key : ∀ (b : Nat) (q : List (List UInt8)), (∀ x, (begs b q).head? = some x → x = b) := by
      intro b q x hx
      cases q with
      | nil => simp [begs] at hx
      | cons y ys => simp [begs] at hx; exact hx.symm
    by_cases hc : c = 10
    · subst hc
      rw [lns_ten]
      cases k with
      | zero =>
        rcases hr : lns r with _ | ⟨h', t'⟩
        · exact absurd hr (lns_ne r)
        · simp [begs]
      | succ k =>
        have ih := begs_upto r (a + 1) k (by simpa using hk)
        have e : a + 1 + k = a + (k + 1) := by omega
        rw [e] at ih
        simp only [begs, List.length_nil, Nat.add_zero]
        rw [List.takeWhile_cons_of_pos (by simp), List.length_cons, ih]
        simp
    · obtain ⟨h', t', h1, h2⟩ := lns_other c r hc
      rw [h2]
      cases k with
      | zero =>
        simp only [begs, List.length_cons]
        rw [List.takeWhile_cons_of_pos (by simp)]
        cases t' with
        | nil => simp [begs]
        | cons y ys => simp only [begs]; rw [List.takeWhile_cons_of_neg (by simp; omega)]; simp
      | succ k =>
        have ih := begs_upto r (a + 1) k (by simpa using hk)
        rw [h1] at ih
        simp only [begs] at ih ⊢
        have e : a + 1 + k = a + (k + 1) := by omega
        rw [e] at ih
        rw [List.takeWhile_cons_of_pos (by simp), List.length_cons] at ih
        rw [List.takeWhile_cons_of_pos (by simp), List.length_cons, List.take_succ_cons, List.count_cons_of_ne (by simpa using hc)]
        have e2 : a + (c :: h').length + 1 = a + 1 + h'.length + 1 := by simp; omega
        rw [e2]
        omega

/-! ### The pieces of a line: where Go's range over it stands -/

def startsF (s : ByteArray) : Nat → Nat → List Nat
  | 0, _ => []
  | f + 1, p => if p < s.size then p :: startsF s f (p + (Utf8.decode s p).2) else []
def starts (s : ByteArray) : List Nat := startsF s s.size 0

theorem width_pos (s : ByteArray) (p : Nat) (h : p < s.size) : 1 ≤ (Utf8.decode s p).2 := by
  by_cases ha : (s[p]'h).toNat < 128
  · rw [decode_ascii s p h ha]
    exact Nat.le_refl _
  · exact (decode_high s p h (by omega)).2

theorem startsF_end (s : ByteArray) (f p : Nat) (h : ¬ p < s.size) : startsF s f p = [] := by
  cases f with
  | zero => rfl
  | succ f => simp [startsF, h]

theorem startsF_step (s : ByteArray) (f p : Nat) (h : p < s.size) : startsF s (f + 1) p = p :: startsF s f (p + (Utf8.decode s p).2) := by
  simp [startsF, h]

/-- Pieces begin at rising places below the line's end. -/
theorem startsF_mem (s : ByteArray) : ∀ (f p x : Nat), x ∈ startsF s f p → p ≤ x ∧ x < s.size
  | 0, _, _, h => by simp [startsF] at h
  | f + 1, p, x, h => by
    unfold startsF at h
    split at h
    · rename_i hp
      rcases List.mem_cons.1 h with rfl | h'
      · exact ⟨Nat.le_refl _, hp⟩
      · have := startsF_mem s f _ x h'
        exact ⟨by omega, this.2⟩
    · simp at h

theorem startsF_sorted (s : ByteArray) : ∀ (f p : Nat), (startsF s f p).Pairwise (· < ·)
  | 0, _ => by simp [startsF]
  | f + 1, p => by
    unfold startsF
    split
    · rename_i hp
      refine List.Pairwise.cons (fun x hx => ?_) (startsF_sorted s f _)
      have := startsF_mem s f _ x hx
      have hw := width_pos s p hp
      omega
    · exact List.Pairwise.nil

theorem startsF_length (s : ByteArray) : ∀ (f p : Nat), (startsF s f p).length ≤ s.size - p
  | 0, _ => by simp [startsF]
  | f + 1, p => by
    unfold startsF
    split
    · rename_i hp
      have h1 := startsF_length s f (p + (Utf8.decode s p).2)
      have hw := width_pos s p hp
      have hd := decode_le s p
      simp only [List.length_cons]
      omega
    · simp

theorem starts_length (s : ByteArray) : (starts s).length ≤ s.size := by
  have := startsF_length s s.size 0
  unfold starts
  omega

/-- All the places of a line's pieces, and its end. -/
def cols (s : ByteArray) : List Nat := starts s ++ [s.size]

theorem cols_sorted (s : ByteArray) : (cols s).Pairwise (· < ·) := by
  unfold cols
  rw [List.pairwise_append]
  refine ⟨startsF_sorted s _ _, by simp, fun x hx y hy => ?_⟩
  have := startsF_mem s _ _ x hx
  simp only [List.mem_singleton] at hy
  omega

/-- Of a rising list the front that is at most k is what is at most k. -/
theorem takeWhile_sorted (k : Nat) : ∀ l : List Nat, l.Pairwise (· < ·) → (l.takeWhile (fun x => decide (x ≤ k))).length = l.countP (fun x => decide (x ≤ k))
  | [], _ => rfl
  | x :: l, h => by
    rw [List.pairwise_cons] at h
    by_cases hx : x ≤ k
    · rw [List.takeWhile_cons_of_pos (by simpa using hx), List.countP_cons_of_pos (by simpa using hx), List.length_cons, takeWhile_sorted k l h.2]
    · rw [List.takeWhile_cons_of_neg (by simpa using hx), List.countP_cons_of_neg (by simpa using hx)]
      symm
      rw [List.length_nil, List.countP_eq_zero]
      intro y hy
      have := h.1 y hy
      simp; omega

end Go.Proofs.YtdmdfcdfmedhcaaDoor
