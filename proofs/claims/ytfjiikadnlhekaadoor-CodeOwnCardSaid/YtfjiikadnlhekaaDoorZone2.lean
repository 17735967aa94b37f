/-
  What is proved here: spoil's stores into a program's lists, and what lies outside the zone. Conditions: none.
-/
import Derived.Test.YtfjiikadnlhekaaDoorZone
namespace Go.Proofs.YtfjiikadnlhekaaDoor
open Go.RowKit

theorem setCells_rest (g : Nat) : ∀ (vs : List Value) (o : Nat) (w : World), (w.setCells g o vs).os = w.os ∧ (w.setCells g o vs).tape = w.tape ∧ (w.setCells g o vs).output = w.output
  | [], _, _ => ⟨rfl, rfl, rfl⟩
  | v :: r, o, w => setCells_rest g r (o + 1) (w.setCell ⟨g, o, none⟩ v)
/-- What lies outside the zone is as it was. -/
structure Fr (B E : Nat) (w w' : World) : Prop where
  os : w'.os = w.os
  tape : w'.tape = w.tape
  output : w'.output = w.output
  size : w.heap.size ≤ w'.heap.size
  block : ∀ k, k < w.heap.size → (k < B ∨ E ≤ k) → w'.heap[k]? = w.heap[k]?
theorem Fr.refl (B E : Nat) (w : World) : Fr B E w w := ⟨rfl, rfl, rfl, Nat.le_refl _, fun _ _ _ => rfl⟩
theorem Fr.trans {B E : Nat} {a b c : World} (h : Fr B E a b) (h2 : Fr B E b c) : Fr B E a c := ⟨h2.os.trans h.os, h2.tape.trans h.tape, h2.output.trans h.output, Nat.le_trans h.size h2.size, fun k hk ho => (h2.block k (by have := h.size; omega) ho).trans (h.block k hk ho)⟩
theorem Fr.of_below {B E : Nat} {b c : World} (h2 : Below b.heap.size b c) : Fr B E b c := ⟨h2.os, h2.tape, h2.output, h2.size, fun k hk _ => h2.block k hk⟩
theorem Fr.below {B E : Nat} {a b c : World} (h : Fr B E a b) (h2 : Below b.heap.size b c) : Fr B E a c := h.trans (Fr.of_below h2)
theorem Fr.cells {B E : Nat} {a b : World} (h : Fr B E a b) {g : Nat} (h1 : B ≤ g) (h2 : g < E) (o : Nat) (vs : List Value) : Fr B E a (b.setCells g o vs) :=
  h.trans ⟨(setCells_rest g vs o b).1, (setCells_rest g vs o b).2.1, (setCells_rest g vs o b).2.2, Nat.le_of_eq (setCells_size g vs o b).symm, fun k _ ho => setCells_other g vs o b k (by omega)⟩
theorem Fr.cell {B E : Nat} {a b : World} (h : Fr B E a b) {g : Nat} (h1 : B ≤ g) (h2 : g < E) (o : Nat) (v : Value) : Fr B E a (b.setCell ⟨g, o, none⟩ v) := h.cells h1 h2 o [v]
theorem ins5_ones (x : Ins5) : ∀ v ∈ ins5 x, v.oneCell' = true := by intro v hv; simp [ins5] at hv; rcases hv with rfl | rfl | rfl | rfl | rfl <;> rfl
theorem var3_ones (x : Var3) : ∀ v ∈ var3 x, v.oneCell' = true := by intro v hv; simp [var3] at hv; rcases hv with rfl | rfl | rfl <;> rfl

theorem PIn.code_store {w : World} {B E : Nat} {s : Spots} {P : Prg} {f : Nat → Ins5} {j : Nat} (h : PIn w B E s { P with code := front f j P.code }) (hj : j < P.code.length) :
    ∃ g, s.a4 = some ⟨g, 0, none⟩ ∧ B ≤ g ∧ g < E ∧ g < w.heap.size ∧ w.there g (j * 5) 5 ∧ PIn (w.setCells g (j * 5) (ins5 (f j))) B E s { P with code := front f (j + 1) P.code } := by
  have hl : (front f j P.code).length = P.code.length := front_length f j _ (by omega)
  obtain ⟨g, hg, h1, h2, h3, ht⟩ := h.code_some (by show 0 < (front f j P.code).length; omega)
  have ht' : w.there g 0 (P.code.length * 5) := by rw [← hl]; exact ht
  refine ⟨g, hg, h1, h2, h3, fun i hi => ?_, ?_⟩
  · have := ht' (j * 5 + i) (by omega)
    simpa using this
  · rw [← front_set f j P.code hj]
    refine h.code_upd _ (by simp) (fun C hC => ?_) (fun i _ _ hi => setCells_other g _ _ w i (fun e => hi (by rw [hg, e]; rfl)))
    rw [hg] at hC ⊢
    exact own_elem (enc := ins5) (fun _ => rfl) ins5_ones hC j (by show j < (front f j P.code).length; omega) (f j)
theorem PIn.vars_store {w : World} {B E : Nat} {s : Spots} {P : Prg} {f : Nat → Var3} {j : Nat} (h : PIn w B E s { P with vars := front f j P.vars }) (hj : j < P.vars.length) :
    ∃ g, s.a1 = some ⟨g, 0, none⟩ ∧ B ≤ g ∧ g < E ∧ g < w.heap.size ∧ w.there g (j * 3) 3 ∧ PIn (w.setCells g (j * 3) (var3 (f j))) B E s { P with vars := front f (j + 1) P.vars } := by
  have hl : (front f j P.vars).length = P.vars.length := front_length f j _ (by omega)
  obtain ⟨g, hg, h1, h2, h3, ht⟩ := h.vars_some (by show 0 < (front f j P.vars).length; omega)
  have ht' : w.there g 0 (P.vars.length * 3) := by rw [← hl]; exact ht
  refine ⟨g, hg, h1, h2, h3, fun i hi => ?_, ?_⟩
  · have := ht' (j * 3 + i) (by omega)
    simpa using this
  · rw [← front_set f j P.vars hj]
    refine h.vars_upd _ (by simp) (fun C hC => ?_) (fun i _ _ hi => setCells_other g _ _ w i (fun e => hi (by rw [hg, e]; rfl)))
    rw [hg] at hC ⊢
    exact own_elem (enc := var3) (fun _ => rfl) var3_ones hC j (by show j < (front f j P.vars).length; omega) (f j)
theorem PIn.on_store {w : World} {B E : Nat} {s : Spots} {P : Prg} {f : Nat → Int} {j : Nat} (h : PIn w B E s { P with on := front f j P.on }) (hj : j < P.on.length) :
    ∃ g, s.a3 = some ⟨g, 0, none⟩ ∧ B ≤ g ∧ g < E ∧ g < w.heap.size ∧ (∃ u, w.cell? ⟨g, j, none⟩ = some u) ∧ w.frozen? ⟨g, j, none⟩ = false ∧ PIn (w.setCell ⟨g, j, none⟩ (.int .i64 (f j))) B E s { P with on := front f (j + 1) P.on } := by
  have hl : (front f j P.on).length = P.on.length := front_length f j _ (by omega)
  obtain ⟨g, hg, h1, h2, h3, ht⟩ := h.on_some (by show 0 < (front f j P.on).length; omega)
  have ht' : w.there g 0 (P.on.length * 1) := by rw [← hl]; exact ht
  have hc := ht' j (by omega)
  simp only [Nat.zero_add] at hc
  refine ⟨g, hg, h1, h2, h3, Option.isSome_iff_exists.1 hc.1, hc.2, ?_⟩
  rw [← front_set f j P.on hj]
  refine h.on_upd _ (by simp) (fun C hC => ?_) (fun i _ _ hi => set_other j _ (fun e => hi (by rw [hg, e]; rfl)))
  rw [hg] at hC ⊢
  exact own_num hC j (by show j < (front f j P.on).length; omega) (f j)
theorem PIn.tags_store {w : World} {B E : Nat} {s : Spots} {P : Prg} {f : Nat → Int} {j : Nat} (h : PIn w B E s { P with tags := front f j P.tags }) (hj : j < P.tags.length) :
    ∃ g, s.a2 = some ⟨g, 0, none⟩ ∧ B ≤ g ∧ g < E ∧ g < w.heap.size ∧ (∃ u, w.cell? ⟨g, j, none⟩ = some u) ∧ w.frozen? ⟨g, j, none⟩ = false ∧ PIn (w.setCell ⟨g, j, none⟩ (.int .i64 (f j))) B E s { P with tags := front f (j + 1) P.tags } := by
  have hl : (front f j P.tags).length = P.tags.length := front_length f j _ (by omega)
  obtain ⟨g, hg, h1, h2, h3, ht⟩ := h.tags_some (by show 0 < (front f j P.tags).length; omega)
  have ht' : w.there g 0 (P.tags.length * 1) := by rw [← hl]; exact ht
  have hc := ht' j (by omega)
  simp only [Nat.zero_add] at hc
  refine ⟨g, hg, h1, h2, h3, Option.isSome_iff_exists.1 hc.1, hc.2, ?_⟩
  rw [← front_set f j P.tags hj]
  refine h.tags_upd _ (by simp) (fun C hC => ?_) (fun i _ _ hi => set_other j _ (fun e => hi (by rw [hg, e]; rfl)))
  rw [hg] at hC ⊢
  exact own_num hC j (by show j < (front f j P.tags).length; omega) (f j)

end Go.Proofs.YtfjiikadnlhekaaDoor
