/-
  What is proved here: an append to one of the zone's lists, and a store behind the list, leave the program. Conditions: none.
-/
import Derived.Test.YtfjiikadnlhekaaDoorZone2
namespace Go.Proofs.YtfjiikadnlhekaaDoor
open Go.RowKit

theorem own_rebase {w w' : World} {C C' : Nat} {e : TypeId} {sz : Nat} {v : Value} {n : Nat} {xs : List Value} (h : w.ownsRow C e sz v n xs) (h' : w'.ownsRow C' e sz v n xs) : w'.ownsRow C e sz v n xs := by
  refine ⟨h.1, ?_⟩
  rcases h'.2 with hn | ⟨g, cap, cur, rfl, hb, hgg, rest⟩
  · exact .inl hn
  · exact .inr ⟨g, cap, cur, rfl, (h.lt g rfl).1, hgg, rest⟩
theorem cell_fits {w : World} {g o : Nat} (hc : (w.cell? ⟨g, o, none⟩).isSome = true) : ∀ cur t fr, w.heap[g]? = some (.cells cur t fr) → o + 1 ≤ cur.size := by
  intro cur t fr h
  simp [World.cell?, h] at hc
  omega
theorem Fr.grown {B E : Nat} {a b c : World} {row : Option Nat} (h : Fr B E a b) (hg : b.grownBy c row) (hr : ∀ g, row = some g → B ≤ g ∧ g < E) : Fr B E a c :=
  h.trans ⟨hg.os, hg.tape, hg.output, hg.size, fun k hk ho => hg.block k hk (fun e => by have := hr k e.symm; omega)⟩
theorem Fr.store {B E : Nat} {a b : World} (h : Fr B E a b) {g : Nat} (hg : (B ≤ g ∧ g < E) ∨ a.heap.size ≤ g) (o : Nat) (v : Value) : Fr B E a (b.setCell ⟨g, o, none⟩ v) :=
  ⟨h.os, h.tape, h.output, by have := h.size; simpa [World.setCell] using this, fun k hk ho => (set_other o v (by omega)).trans (h.block k hk ho)⟩
/-- The element behind the old ones. -/
theorem own_last {w : World} {B g n cap : Nat} {e : TypeId} {sz : Nat} {xs : List Value} (h : w.ownsRow B e sz (.slice (some ⟨g, 0, none⟩) (n + 1) cap) (n + 1) xs) : ∃ cur, w.heap[g]? = some (.cells cur e (0, 0)) ∧ n * sz + sz ≤ cur.size := by
  rcases h.2 with ⟨hn, _⟩ | ⟨g', cap', cur, hv, hb, hgg, hnc, hcm, hcs, ht⟩
  · cases hn
  · cases hv
    refine ⟨cur, hgg, ?_⟩
    rw [hcs]
    have := Nat.mul_le_mul_right sz hnc
    rw [Nat.add_mul] at this
    omega
theorem cell_in {w : World} {g i : Nat} {e : TypeId} {cur : Array Value} (h : w.heap[g]? = some (.cells cur e (0, 0))) (hi : i < cur.size) : (∃ u, w.cell? ⟨g, i, none⟩ = some u) ∧ w.frozen? ⟨g, i, none⟩ = false := by
  refine ⟨⟨cur[i], by simp [World.cell?, h, hi]⟩, by simp [World.frozen?, h]⟩

theorem PIn.code_zone {w : World} {B E : Nat} {s : Spots} {P : Prg} (h : PIn w B E s P) : ∀ g, (Value.slice s.a4 P.code.length s.c4).ownBlock = some g → B ≤ g ∧ g < E := by
  obtain ⟨C, D, hC, hD, hl⟩ := h.code_own
  exact fun g hg => ⟨by have := (hl.1.lt g hg).1; omega, by have := hl.2 g hg; omega⟩
theorem PIn.code_pushed {w w' : World} {B E C : Nat} {s : Spots} {P : Prg} (h : PIn w B E s P) (hE : E ≤ w.heap.size) (ho : w'.ownsRow C 57 5 (.slice s.a4 P.code.length s.c4) P.code.length (flat ins5 P.code)) (hg : w.grownBy w' (Value.slice s.a4 P.code.length s.c4).ownBlock) : PIn w' B E s P :=
  h.code_upd P.code rfl (fun _ hC => own_rebase hC ho) (fun j _ hj hne => hg.block j (by omega) (fun e => hne e.symm))
theorem PIn.code_past {w : World} {B E : Nat} {s : Spots} {P : Prg} (h : PIn w B E s P) {g o : Nat} {u : Value} (hu : u.oneCell' = true) (hc : (w.cell? ⟨g, o, none⟩).isSome = true) (ho : P.code.length * 5 ≤ o) (hz : (Value.slice s.a4 P.code.length s.c4).ownBlock = some g ∨ E ≤ g) : PIn (w.setCell ⟨g, o, none⟩ u) B E s P :=
  h.code_upd P.code rfl (fun _ hC => own_past (vs := [u]) hC ho (by simpa using hu) (cell_fits hc)) (fun j _ hj hne => set_other o u (fun e => by rcases hz with h | h; exact hne (e ▸ h); omega))
theorem PIn.on_zone {w : World} {B E : Nat} {s : Spots} {P : Prg} (h : PIn w B E s P) : ∀ g, (Value.slice s.a3 P.on.length s.c3).ownBlock = some g → B ≤ g ∧ g < E := by
  obtain ⟨C, D, hC, hD, hl⟩ := h.on_own
  exact fun g hg => ⟨by have := (hl.1.lt g hg).1; omega, by have := hl.2 g hg; omega⟩
theorem PIn.on_pushed {w w' : World} {B E C : Nat} {s : Spots} {P : Prg} (h : PIn w B E s P) (hE : E ≤ w.heap.size) (ho : w'.ownsRow C 3 1 (.slice s.a3 P.on.length s.c3) P.on.length (nums P.on)) (hg : w.grownBy w' (Value.slice s.a3 P.on.length s.c3).ownBlock) : PIn w' B E s P :=
  h.on_upd P.on rfl (fun _ hC => own_rebase hC ho) (fun j _ hj hne => hg.block j (by omega) (fun e => hne e.symm))
theorem PIn.on_past {w : World} {B E : Nat} {s : Spots} {P : Prg} (h : PIn w B E s P) {g o : Nat} {u : Value} (hu : u.oneCell' = true) (hc : (w.cell? ⟨g, o, none⟩).isSome = true) (ho : P.on.length * 1 ≤ o) (hz : (Value.slice s.a3 P.on.length s.c3).ownBlock = some g ∨ E ≤ g) : PIn (w.setCell ⟨g, o, none⟩ u) B E s P :=
  h.on_upd P.on rfl (fun _ hC => own_past (vs := [u]) hC ho (by simpa using hu) (cell_fits hc)) (fun j _ hj hne => set_other o u (fun e => by rcases hz with h | h; exact hne (e ▸ h); omega))
theorem PIn.tags_zone {w : World} {B E : Nat} {s : Spots} {P : Prg} (h : PIn w B E s P) : ∀ g, (Value.slice s.a2 P.tags.length s.c2).ownBlock = some g → B ≤ g ∧ g < E := by
  obtain ⟨C, D, hC, hD, hl⟩ := h.tags_own
  exact fun g hg => ⟨by have := (hl.1.lt g hg).1; omega, by have := hl.2 g hg; omega⟩
theorem PIn.tags_pushed {w w' : World} {B E C : Nat} {s : Spots} {P : Prg} (h : PIn w B E s P) (hE : E ≤ w.heap.size) (ho : w'.ownsRow C 3 1 (.slice s.a2 P.tags.length s.c2) P.tags.length (nums P.tags)) (hg : w.grownBy w' (Value.slice s.a2 P.tags.length s.c2).ownBlock) : PIn w' B E s P :=
  h.tags_upd P.tags rfl (fun _ hC => own_rebase hC ho) (fun j _ hj hne => hg.block j (by omega) (fun e => hne e.symm))
theorem PIn.tags_past {w : World} {B E : Nat} {s : Spots} {P : Prg} (h : PIn w B E s P) {g o : Nat} {u : Value} (hu : u.oneCell' = true) (hc : (w.cell? ⟨g, o, none⟩).isSome = true) (ho : P.tags.length * 1 ≤ o) (hz : (Value.slice s.a2 P.tags.length s.c2).ownBlock = some g ∨ E ≤ g) : PIn (w.setCell ⟨g, o, none⟩ u) B E s P :=
  h.tags_upd P.tags rfl (fun _ hC => own_past (vs := [u]) hC ho (by simpa using hu) (cell_fits hc)) (fun j _ hj hne => set_other o u (fun e => by rcases hz with h | h; exact hne (e ▸ h); omega))
theorem PIn.code_on {w : World} {B E : Nat} {s : Spots} {P : Prg} (h : PIn w B E s P) : ∀ g, (Value.slice s.a4 P.code.length s.c4).ownBlock = some g → (Value.slice s.a3 P.on.length s.c3).ownBlock ≠ some g := by
  obtain ⟨B1, B2, B3, B4, h0, h1, h2, h3, h4, p0, p1, p2, p3, p4⟩ := h
  intro g hg hg'
  have a4 := p4.1.lt
  have a3 := p3.1.lt
  have a2 := p2.1.lt
  have b3 := p3.2
  have b2 := p2.2
  first
    | (have := a4 g hg; have := b3 g hg'; omega)
    | (have := a4 g hg; have := b2 g hg'; omega)
    | (have := a3 g hg; have := b2 g hg'; omega)
theorem PIn.code_tags {w : World} {B E : Nat} {s : Spots} {P : Prg} (h : PIn w B E s P) : ∀ g, (Value.slice s.a4 P.code.length s.c4).ownBlock = some g → (Value.slice s.a2 P.tags.length s.c2).ownBlock ≠ some g := by
  obtain ⟨B1, B2, B3, B4, h0, h1, h2, h3, h4, p0, p1, p2, p3, p4⟩ := h
  intro g hg hg'
  have a4 := p4.1.lt
  have a3 := p3.1.lt
  have a2 := p2.1.lt
  have b3 := p3.2
  have b2 := p2.2
  first
    | (have := a4 g hg; have := b3 g hg'; omega)
    | (have := a4 g hg; have := b2 g hg'; omega)
    | (have := a3 g hg; have := b2 g hg'; omega)
theorem PIn.on_tags {w : World} {B E : Nat} {s : Spots} {P : Prg} (h : PIn w B E s P) : ∀ g, (Value.slice s.a3 P.on.length s.c3).ownBlock = some g → (Value.slice s.a2 P.tags.length s.c2).ownBlock ≠ some g := by
  obtain ⟨B1, B2, B3, B4, h0, h1, h2, h3, h4, p0, p1, p2, p3, p4⟩ := h
  intro g hg hg'
  have a4 := p4.1.lt
  have a3 := p3.1.lt
  have a2 := p2.1.lt
  have b3 := p3.2
  have b2 := p2.2
  first
    | (have := a4 g hg; have := b3 g hg'; omega)
    | (have := a4 g hg; have := b2 g hg'; omega)
    | (have := a3 g hg; have := b2 g hg'; omega)

end Go.Proofs.YtfjiikadnlhekaaDoor
