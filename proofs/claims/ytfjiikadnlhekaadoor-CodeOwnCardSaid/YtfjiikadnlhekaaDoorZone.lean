/-
  What is proved here: a program whose lists lie in a zone of blocks: what a change to one of the lists leaves. Conditions: none.
-/
import Derived.Test.YtfjiikadnlhekaaDoorPush
import Derived.Test.YtfjiikadnlhekaaDoorTwinO
namespace Go.Proofs.YtfjiikadnlhekaaDoor
open Go.RowKit

/-- A program whose lists are rows of the zone's own, each in a stretch of its own. -/
def PIn (w : World) (B E : Nat) (s : Spots) (P : Prg) : Prop := ∃ B1 B2 B3 B4, B ≤ B1 ∧ B1 ≤ B2 ∧ B2 ≤ B3 ∧ B3 ≤ B4 ∧ B4 ≤ E ∧
  OwnL w B B1 4 1 (.slice s.a0 P.ghost.length s.c0) P.ghost.length (bools P.ghost) ∧
  OwnL w B1 B2 70 3 (.slice s.a1 P.vars.length s.c1) P.vars.length (flat var3 P.vars) ∧
  OwnL w B2 B3 3 1 (.slice s.a2 P.tags.length s.c2) P.tags.length (nums P.tags) ∧
  OwnL w B3 B4 3 1 (.slice s.a3 P.on.length s.c3) P.on.length (nums P.on) ∧
  OwnL w B4 E 57 5 (.slice s.a4 P.code.length s.c4) P.code.length (flat ins5 P.code)

theorem POwn.zone {w : World} {B : Nat} {s : Spots} {P : Prg} (h : POwn w B s P) : PIn w B w.heap.size s P := by
  obtain ⟨B1, B2, B3, B4, B5, h0, h1, h2, h3, h4, h5, p0, p1, p2, p3, p4⟩ := h
  exact ⟨B1, B2, B3, B4, h0, h1, h2, h3, by omega, p0, p1, p2, p3, p4.1, fun j hj => by have := p4.2 j hj; omega⟩

theorem PIn.at {w : World} {B E : Nat} {s : Spots} {P : Prg} (h : PIn w B E s P) : PAt w s P := by
  obtain ⟨B1, B2, B3, B4, _, _, _, _, _, h0, h1, h2, h3, h4⟩ := h
  exact ⟨(own_at h0.1).1, (own_at h1.1).1, (own_at h2.1).1, (own_at h3.1).1, (own_at h4.1).1, own_len h0.1, own_len h1.1, own_len h2.1, own_len h3.1, own_len h4.1, (own_at h0.1).2, (own_at h1.1).2, (own_at h2.1).2, (own_at h3.1).2, (own_at h4.1).2⟩

theorem ownL_keep {w w' : World} {B B' : Nat} {e : TypeId} {sz : Nat} {v : Value} {n : Nat} {xs : List Value} (h : OwnL w B B' e sz v n xs) (hf : ∀ j, B ≤ j → j < B' → w'.heap[j]? = w.heap[j]?) : OwnL w' B B' e sz v n xs :=
  ⟨own_keep h.1 (fun j hj => hf j (h.1.lt j hj).1 (h.2 j hj)), h.2⟩

theorem PIn.keep {w w' : World} {B E : Nat} {s : Spots} {P : Prg} (h : PIn w B E s P) (hf : ∀ j, B ≤ j → j < E → w'.heap[j]? = w.heap[j]?) : PIn w' B E s P := by
  obtain ⟨B1, B2, B3, B4, h0, h1, h2, h3, h4, p0, p1, p2, p3, p4⟩ := h
  refine ⟨B1, B2, B3, B4, h0, h1, h2, h3, h4, ownL_keep p0 ?_, ownL_keep p1 ?_, ownL_keep p2 ?_, ownL_keep p3 ?_, ownL_keep p4 ?_⟩ <;> (intro j hj hj'; exact hf j (by omega) (by omega))

theorem PIn.vars_own {w : World} {B E : Nat} {s : Spots} {P : Prg} (h : PIn w B E s P) : ∃ C D, B ≤ C ∧ D ≤ E ∧ OwnL w C D 70 3 (.slice s.a1 P.vars.length s.c1) P.vars.length (flat var3 P.vars) := by
  obtain ⟨B1, B2, B3, B4, h0, h1, h2, h3, h4, p0, p1, p2, p3, p4⟩ := h
  exact ⟨B1, B2, by omega, by omega, p1⟩
/-- A list of the program is written over; nothing else of the zone is. -/
theorem PIn.vars_upd {w w' : World} {B E : Nat} {s : Spots} {P : Prg} (h : PIn w B E s P) (l : List _) (hn : l.length = P.vars.length)
    (ho : ∀ C, w.ownsRow C 70 3 (.slice s.a1 P.vars.length s.c1) P.vars.length (flat var3 P.vars) → w'.ownsRow C 70 3 (.slice s.a1 P.vars.length s.c1) P.vars.length (flat var3 l))
    (hf : ∀ j, B ≤ j → j < E → (Value.slice s.a1 P.vars.length s.c1).ownBlock ≠ some j → w'.heap[j]? = w.heap[j]?) : PIn w' B E s { P with vars := l } := by
  obtain ⟨B1, B2, B3, B4, h0, h1, h2, h3, h4, p0, p1, p2, p3, p4⟩ := h
  have hlt := p1.1.lt
  have hlt2 := p1.2
  refine ⟨B1, B2, B3, B4, h0, h1, h2, h3, h4, ownL_keep p0 (fun j hj hj' => hf j (by omega) (by omega) (fun hb => by have := hlt j hb; have := hlt2 j hb; omega)), ?_, ownL_keep p2 (fun j hj hj' => hf j (by omega) (by omega) (fun hb => by have := hlt j hb; have := hlt2 j hb; omega)), ownL_keep p3 (fun j hj hj' => hf j (by omega) (by omega) (fun hb => by have := hlt j hb; have := hlt2 j hb; omega)), ownL_keep p4 (fun j hj hj' => hf j (by omega) (by omega) (fun hb => by have := hlt j hb; have := hlt2 j hb; omega))⟩
  simp only [hn]
  exact ⟨ho _ p1.1, p1.2⟩
/-- The row behind a list that is not empty. -/
theorem PIn.vars_some {w : World} {B E : Nat} {s : Spots} {P : Prg} (h : PIn w B E s P) (hn : 0 < P.vars.length) : ∃ g, s.a1 = some ⟨g, 0, none⟩ ∧ B ≤ g ∧ g < E ∧ g < w.heap.size ∧ w.there g 0 (P.vars.length * 3) := by
  obtain ⟨C, D, hC, hD, hl⟩ := h.vars_own
  rcases hl.1.2 with ⟨_, h0⟩ | ⟨g, cap, cur, hv, hb, hgg, hnc, hcm, hcs, ht⟩
  · omega
  · injection hv with hv1 hv2 hv3
    have h1 := hl.2 g (by rw [hv1]; rfl)
    refine ⟨g, hv1, by omega, by omega, (Array.getElem?_eq_some_iff.1 hgg).1, fun j hj => ?_⟩
    have : P.vars.length * 3 ≤ cap * 3 := Nat.mul_le_mul_right _ hnc
    simp [World.cell?, World.frozen?, hgg]
    omega

theorem PIn.tags_own {w : World} {B E : Nat} {s : Spots} {P : Prg} (h : PIn w B E s P) : ∃ C D, B ≤ C ∧ D ≤ E ∧ OwnL w C D 3 1 (.slice s.a2 P.tags.length s.c2) P.tags.length (nums P.tags) := by
  obtain ⟨B1, B2, B3, B4, h0, h1, h2, h3, h4, p0, p1, p2, p3, p4⟩ := h
  exact ⟨B2, B3, by omega, by omega, p2⟩
/-- A list of the program is written over; nothing else of the zone is. -/
theorem PIn.tags_upd {w w' : World} {B E : Nat} {s : Spots} {P : Prg} (h : PIn w B E s P) (l : List _) (hn : l.length = P.tags.length)
    (ho : ∀ C, w.ownsRow C 3 1 (.slice s.a2 P.tags.length s.c2) P.tags.length (nums P.tags) → w'.ownsRow C 3 1 (.slice s.a2 P.tags.length s.c2) P.tags.length (nums l))
    (hf : ∀ j, B ≤ j → j < E → (Value.slice s.a2 P.tags.length s.c2).ownBlock ≠ some j → w'.heap[j]? = w.heap[j]?) : PIn w' B E s { P with tags := l } := by
  obtain ⟨B1, B2, B3, B4, h0, h1, h2, h3, h4, p0, p1, p2, p3, p4⟩ := h
  have hlt := p2.1.lt
  have hlt2 := p2.2
  refine ⟨B1, B2, B3, B4, h0, h1, h2, h3, h4, ownL_keep p0 (fun j hj hj' => hf j (by omega) (by omega) (fun hb => by have := hlt j hb; have := hlt2 j hb; omega)), ownL_keep p1 (fun j hj hj' => hf j (by omega) (by omega) (fun hb => by have := hlt j hb; have := hlt2 j hb; omega)), ?_, ownL_keep p3 (fun j hj hj' => hf j (by omega) (by omega) (fun hb => by have := hlt j hb; have := hlt2 j hb; omega)), ownL_keep p4 (fun j hj hj' => hf j (by omega) (by omega) (fun hb => by have := hlt j hb; have := hlt2 j hb; omega))⟩
  simp only [hn]
  exact ⟨ho _ p2.1, p2.2⟩
/-- The row behind a list that is not empty. -/
theorem PIn.tags_some {w : World} {B E : Nat} {s : Spots} {P : Prg} (h : PIn w B E s P) (hn : 0 < P.tags.length) : ∃ g, s.a2 = some ⟨g, 0, none⟩ ∧ B ≤ g ∧ g < E ∧ g < w.heap.size ∧ w.there g 0 (P.tags.length * 1) := by
  obtain ⟨C, D, hC, hD, hl⟩ := h.tags_own
  rcases hl.1.2 with ⟨_, h0⟩ | ⟨g, cap, cur, hv, hb, hgg, hnc, hcm, hcs, ht⟩
  · omega
  · injection hv with hv1 hv2 hv3
    have h1 := hl.2 g (by rw [hv1]; rfl)
    refine ⟨g, hv1, by omega, by omega, (Array.getElem?_eq_some_iff.1 hgg).1, fun j hj => ?_⟩
    have : P.tags.length * 1 ≤ cap * 1 := Nat.mul_le_mul_right _ hnc
    simp [World.cell?, World.frozen?, hgg]
    omega

theorem PIn.on_own {w : World} {B E : Nat} {s : Spots} {P : Prg} (h : PIn w B E s P) : ∃ C D, B ≤ C ∧ D ≤ E ∧ OwnL w C D 3 1 (.slice s.a3 P.on.length s.c3) P.on.length (nums P.on) := by
  obtain ⟨B1, B2, B3, B4, h0, h1, h2, h3, h4, p0, p1, p2, p3, p4⟩ := h
  exact ⟨B3, B4, by omega, by omega, p3⟩
/-- A list of the program is written over; nothing else of the zone is. -/
theorem PIn.on_upd {w w' : World} {B E : Nat} {s : Spots} {P : Prg} (h : PIn w B E s P) (l : List _) (hn : l.length = P.on.length)
    (ho : ∀ C, w.ownsRow C 3 1 (.slice s.a3 P.on.length s.c3) P.on.length (nums P.on) → w'.ownsRow C 3 1 (.slice s.a3 P.on.length s.c3) P.on.length (nums l))
    (hf : ∀ j, B ≤ j → j < E → (Value.slice s.a3 P.on.length s.c3).ownBlock ≠ some j → w'.heap[j]? = w.heap[j]?) : PIn w' B E s { P with on := l } := by
  obtain ⟨B1, B2, B3, B4, h0, h1, h2, h3, h4, p0, p1, p2, p3, p4⟩ := h
  have hlt := p3.1.lt
  have hlt2 := p3.2
  refine ⟨B1, B2, B3, B4, h0, h1, h2, h3, h4, ownL_keep p0 (fun j hj hj' => hf j (by omega) (by omega) (fun hb => by have := hlt j hb; have := hlt2 j hb; omega)), ownL_keep p1 (fun j hj hj' => hf j (by omega) (by omega) (fun hb => by have := hlt j hb; have := hlt2 j hb; omega)), ownL_keep p2 (fun j hj hj' => hf j (by omega) (by omega) (fun hb => by have := hlt j hb; have := hlt2 j hb; omega)), ?_, ownL_keep p4 (fun j hj hj' => hf j (by omega) (by omega) (fun hb => by have := hlt j hb; have := hlt2 j hb; omega))⟩
  simp only [hn]
  exact ⟨ho _ p3.1, p3.2⟩
/-- The row behind a list that is not empty. -/
theorem PIn.on_some {w : World} {B E : Nat} {s : Spots} {P : Prg} (h : PIn w B E s P) (hn : 0 < P.on.length) : ∃ g, s.a3 = some ⟨g, 0, none⟩ ∧ B ≤ g ∧ g < E ∧ g < w.heap.size ∧ w.there g 0 (P.on.length * 1) := by
  obtain ⟨C, D, hC, hD, hl⟩ := h.on_own
  rcases hl.1.2 with ⟨_, h0⟩ | ⟨g, cap, cur, hv, hb, hgg, hnc, hcm, hcs, ht⟩
  · omega
  · injection hv with hv1 hv2 hv3
    have h1 := hl.2 g (by rw [hv1]; rfl)
    refine ⟨g, hv1, by omega, by omega, (Array.getElem?_eq_some_iff.1 hgg).1, fun j hj => ?_⟩
    have : P.on.length * 1 ≤ cap * 1 := Nat.mul_le_mul_right _ hnc
    simp [World.cell?, World.frozen?, hgg]
    omega

theorem PIn.code_own {w : World} {B E : Nat} {s : Spots} {P : Prg} (h : PIn w B E s P) : ∃ C D, B ≤ C ∧ D ≤ E ∧ OwnL w C D 57 5 (.slice s.a4 P.code.length s.c4) P.code.length (flat ins5 P.code) := by
  obtain ⟨B1, B2, B3, B4, h0, h1, h2, h3, h4, p0, p1, p2, p3, p4⟩ := h
  exact ⟨B4, E, by omega, by omega, p4⟩
/-- A list of the program is written over; nothing else of the zone is. -/
theorem PIn.code_upd {w w' : World} {B E : Nat} {s : Spots} {P : Prg} (h : PIn w B E s P) (l : List _) (hn : l.length = P.code.length)
    (ho : ∀ C, w.ownsRow C 57 5 (.slice s.a4 P.code.length s.c4) P.code.length (flat ins5 P.code) → w'.ownsRow C 57 5 (.slice s.a4 P.code.length s.c4) P.code.length (flat ins5 l))
    (hf : ∀ j, B ≤ j → j < E → (Value.slice s.a4 P.code.length s.c4).ownBlock ≠ some j → w'.heap[j]? = w.heap[j]?) : PIn w' B E s { P with code := l } := by
  obtain ⟨B1, B2, B3, B4, h0, h1, h2, h3, h4, p0, p1, p2, p3, p4⟩ := h
  have hlt := p4.1.lt
  have hlt2 := p4.2
  refine ⟨B1, B2, B3, B4, h0, h1, h2, h3, h4, ownL_keep p0 (fun j hj hj' => hf j (by omega) (by omega) (fun hb => by have := hlt j hb; have := hlt2 j hb; omega)), ownL_keep p1 (fun j hj hj' => hf j (by omega) (by omega) (fun hb => by have := hlt j hb; have := hlt2 j hb; omega)), ownL_keep p2 (fun j hj hj' => hf j (by omega) (by omega) (fun hb => by have := hlt j hb; have := hlt2 j hb; omega)), ownL_keep p3 (fun j hj hj' => hf j (by omega) (by omega) (fun hb => by have := hlt j hb; have := hlt2 j hb; omega)), ?_⟩
  simp only [hn]
  exact ⟨ho _ p4.1, p4.2⟩
/-- The row behind a list that is not empty. -/
theorem PIn.code_some {w : World} {B E : Nat} {s : Spots} {P : Prg} (h : PIn w B E s P) (hn : 0 < P.code.length) : ∃ g, s.a4 = some ⟨g, 0, none⟩ ∧ B ≤ g ∧ g < E ∧ g < w.heap.size ∧ w.there g 0 (P.code.length * 5) := by
  obtain ⟨C, D, hC, hD, hl⟩ := h.code_own
  rcases hl.1.2 with ⟨_, h0⟩ | ⟨g, cap, cur, hv, hb, hgg, hnc, hcm, hcs, ht⟩
  · omega
  · injection hv with hv1 hv2 hv3
    have h1 := hl.2 g (by rw [hv1]; rfl)
    refine ⟨g, hv1, by omega, by omega, (Array.getElem?_eq_some_iff.1 hgg).1, fun j hj => ?_⟩
    have : P.code.length * 5 ≤ cap * 5 := Nat.mul_le_mul_right _ hnc
    simp [World.cell?, World.frozen?, hgg]
    omega

/-- The marks of spoil. -/
def mCode (m k : Nat) : Ins5 := (500 + (m : Int), (k : Int), 0, 0, 0)
def mOn (m k : Nat) : Int := (100 * (m : Int) + (k : Int))
def mTag (m k : Nat) : Int := -(100 * (m : Int)) - (k : Int)
def mVar (m k : Nat) : Var3 := ((m : Int), (k : Int), 0)
/-- The front of a list written over. -/
def front {α : Type} (f : Nat → α) (k : Nat) (l : List α) : List α := (List.range k).map f ++ l.drop k
theorem front_length {α : Type} (f : Nat → α) (k : Nat) (l : List α) (h : k ≤ l.length) : (front f k l).length = l.length := by simp [front]; omega
theorem front_zero {α : Type} (f : Nat → α) (l : List α) : front f 0 l = l := by simp [front]
theorem front_set {α : Type} (f : Nat → α) (k : Nat) (l : List α) (h : k < l.length) : (front f k l).set k (f k) = front f (k + 1) l := by
  apply List.ext_getElem?
  intro i
  simp only [front, List.getElem?_set, List.getElem?_append, List.length_map, List.length_range, List.length_append, List.length_drop, List.getElem?_map, List.getElem?_drop]
  by_cases h1 : i < k
  · simp [h1, show ¬ k = i by omega, show i < k + 1 by omega]
  · by_cases h2 : i = k
    · subst h2
      simp
      omega
    · simp [h1, show ¬ k = i by omega, show ¬ i < k + 1 by omega]
      congr 1
      omega
/-- A program marked. -/
def marked (P : Prg) (m : Nat) : Prg := { P with code := front (mCode m) P.code.length P.code, on := front (mOn m) P.on.length P.on, tags := front (mTag m) P.tags.length P.tags, vars := front (mVar m) P.vars.length P.vars }

end Go.Proofs.YtfjiikadnlhekaaDoor
