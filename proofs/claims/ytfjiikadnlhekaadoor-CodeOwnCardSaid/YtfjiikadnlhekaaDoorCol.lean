/-
  What is proved here: whose a block is: colours of blocks, and what a change to one colour leaves of the rest. Conditions: none.
-/
import Derived.Test.YtfjiikadnlhekaaDoorSpoil
import Derived.Test.YtfjiikadnlhekaaDoorSpoilt
import Derived.Test.YtfjiikadnlhekaaDoorRTwin
namespace Go.Proofs.YtfjiikadnlhekaaDoor
open Go.RowKit

/-- One colour alone changes; what is old keeps its colour. -/
structure Tr (c : Nat) (w : World) (col : Nat → Nat) (w' : World) (col' : Nat → Nat) : Prop where
  os : w'.os = w.os
  tape : w'.tape = w.tape
  output : w'.output = w.output
  size : w.heap.size ≤ w'.heap.size
  same : ∀ j, j < w.heap.size → col' j = col j
  kept : ∀ j, j < w.heap.size → col j ≠ c → w'.heap[j]? = w.heap[j]?
/-- What is new has one colour. -/
def paint (col : Nat → Nat) (n c : Nat) : Nat → Nat := fun j => if j < n then col j else c
theorem paint_old {col : Nat → Nat} {n c j : Nat} (h : j < n) : paint col n c j = col j := by simp [paint, h]
theorem paint_new {col : Nat → Nat} {n c j : Nat} (h : n ≤ j) : paint col n c j = c := by simp [paint, show ¬ j < n by omega]

section
variable {c d : Nat} {w w' : World} {col col' : Nat → Nat}

theorem Tr.refl (c : Nat) (w : World) (col : Nat → Nat) : Tr c w col w col := ⟨rfl, rfl, rfl, Nat.le_refl _, fun _ _ => rfl, fun _ _ _ => rfl⟩
theorem Tr.trans {w2 : World} {col2 : Nat → Nat} (h : Tr c w col w' col') (h2 : Tr c w' col' w2 col2) : Tr c w col w2 col2 :=
  ⟨h2.os.trans h.os, h2.tape.trans h.tape, h2.output.trans h.output, Nat.le_trans h.size h2.size, fun j hj => (h2.same j (by have := h.size; omega)).trans (h.same j hj), fun j hj hc => (h2.kept j (by have := h.size; omega) (by rw [h.same j hj]; exact hc)).trans (h.kept j hj hc)⟩
theorem Tr.below (h : Below w.heap.size w w') (c d : Nat) : Tr c w col w' (paint col w.heap.size d) := ⟨h.os, h.tape, h.output, h.size, fun _ hj => paint_old hj, fun j hj _ => h.block j hj⟩
theorem Tr.same_col (h : Below w.heap.size w w') (c : Nat) : Tr c w col w' col := ⟨h.os, h.tape, h.output, h.size, fun _ _ => rfl, fun j hj _ => h.block j hj⟩
theorem Tr.fr {B E : Nat} (h : Fr B E w w') (hc : ∀ j, B ≤ j → j < E → col j = c) (d : Nat) : Tr c w col w' (paint col w.heap.size d) :=
  ⟨h.os, h.tape, h.output, h.size, fun _ hj => paint_old hj, fun j hj hne => h.block j hj (by
    by_cases h1 : B ≤ j
    · by_cases h2 : j < E
      · exact absurd (hc j h1 h2) hne
      · omega
    · omega)⟩
theorem Tr.grown {row : Option Nat} (h : w.grownBy w' row) (hc : ∀ g, row = some g → col g = c) (d : Nat) : Tr c w col w' (paint col w.heap.size d) :=
  ⟨h.os, h.tape, h.output, h.size, fun _ hj => paint_old hj, fun j hj hne => h.block j hj (fun e => hne (hc j e.symm))⟩
theorem Tr.cell {g : Nat} (hc : col g = c) (o : Nat) (v : Value) : Tr c w col (w.setCell ⟨g, o, none⟩ v) col :=
  ⟨rfl, rfl, rfl, by simp [World.setCell], fun _ _ => rfl, fun j _ hne => set_other o v (fun e => hne (e ▸ hc))⟩

/-- What is known of the beginning: its blocks have colour 0 and are as they were. -/
structure Base (w0 w : World) (col : Nat → Nat) : Prop where
  below : Below w0.heap.size w0 w
  col : ∀ j, j < w0.heap.size → col j = 0
theorem Base.tr {w0 : World} (h : Base w0 w col) (t : Tr c w col w' col') (hne : 0 ≠ c) : Base w0 w' col' :=
  ⟨⟨t.os.trans h.below.os, t.tape.trans h.below.tape, t.output.trans h.below.output, Nat.le_trans h.below.size t.size, fun j hj => (t.kept j (by have := h.below.size; omega) (by rw [h.col j hj]; exact hne)).trans (h.below.block j hj)⟩,
   fun j hj => (t.same j (by have := h.below.size; omega)).trans (h.col j hj)⟩

/-- A program whose zone has one colour. -/
structure RProg (w : World) (col : Nat → Nat) (c B E : Nat) (s : Spots) (P : Prg) : Prop where
  own : PIn w B E s P
  le : E ≤ w.heap.size
  col : ∀ j, B ≤ j → j < E → col j = c
theorem RProg.tr {B E : Nat} {s : Spots} {P : Prg} (h : RProg w col d B E s P) (t : Tr c w col w' col') (hne : d ≠ c) : RProg w' col' d B E s P :=
  ⟨h.own.keep (fun j h1 h2 => t.kept j (by have := h.le; omega) (by rw [h.col j h1 h2]; exact hne)), Nat.le_trans h.le t.size, fun j h1 h2 => (t.same j (by have := h.le; omega)).trans (h.col j h1 h2)⟩
theorem RProg.new {r : Spots} {P : Prg} (h : POwn w' w.heap.size r P) (c : Nat) : RProg w' (paint col w.heap.size c) c w.heap.size w'.heap.size r P :=
  ⟨h.zone, Nat.le_refl _, fun _ h1 _ => paint_new h1⟩

/-- A row of one colour. -/
structure RRow (w : World) (col : Nat → Nat) (c : Nat) (e : TypeId) (sz : Nat) (v : Value) (n : Nat) (xs : List Value) : Prop where
  own : w.ownsRow 0 e sz v n xs
  col : ∀ j, v.ownBlock = some j → col j = c
theorem RRow.tr {e : TypeId} {sz : Nat} {v : Value} {n : Nat} {xs : List Value} (h : RRow w col d e sz v n xs) (t : Tr c w col w' col') (hne : d ≠ c) : RRow w' col' d e sz v n xs :=
  ⟨own_keep h.own (fun j hj => t.kept j (h.own.lt j hj).2 (by rw [h.col j hj]; exact hne)), fun j hj => (t.same j (h.own.lt j hj).2).trans (h.col j hj)⟩
theorem RRow.new {e : TypeId} {sz : Nat} {v : Value} {n : Nat} {xs : List Value} (h : w'.ownsRow w.heap.size e sz v n xs) (c : Nat) : RRow w' (paint col w.heap.size c) c e sz v n xs :=
  ⟨own_mono h (Nat.zero_le _), fun j hj => paint_new (h.lt j hj).1⟩
theorem RRow.grow {e : TypeId} {sz : Nat} {v : Value} {n m g cap B : Nat} {xs ys : List Value} (h : RRow w col c e sz v n xs) (h2 : w'.ownsRow B e sz (.slice (some ⟨g, 0, none⟩) m cap) m ys) (hg : v.ownBlock = some g ∨ g = w.heap.size) :
    RRow w' (paint col w.heap.size c) c e sz (.slice (some ⟨g, 0, none⟩) m cap) m ys := by
  refine ⟨own_mono h2 (Nat.zero_le _), fun j hj => ?_⟩
  obtain rfl : g = j := by simpa [Value.ownBlock] using hj
  rcases hg with hg | hg
  · rw [paint_old (h.own.lt g hg).2]; exact h.col g hg
  · exact paint_new (by omega)
theorem RRow.nil (c : Nat) (e : TypeId) (sz : Nat) : RRow w col c e sz (.slice none 0 0) 0 [] := ⟨World.ownsRow_nil w 0 e sz, fun j hj => by simp [Value.ownBlock] at hj⟩

/-- A block that is known whole. -/
structure RBox (w : World) (col : Nat → Nat) (c b : Nat) (o : Obj) : Prop where
  at_ : w.heap[b]? = some o
  col : col b = c
theorem RBox.lt {b : Nat} {o : Obj} (h : RBox w col c b o) : b < w.heap.size := (Array.getElem?_eq_some_iff.1 h.at_).1
theorem RBox.tr {b : Nat} {o : Obj} (h : RBox w col d b o) (t : Tr c w col w' col') (hne : d ≠ c) : RBox w' col' d b o :=
  ⟨(t.kept b h.lt (by rw [h.col]; exact hne)).trans h.at_, (t.same b h.lt).trans h.col⟩

/-- A list that lies in blocks of one colour. -/
structure RLies (w : World) (col : Nat → Nat) (c : Nat) (ao : Option Addr) (xs : List Value) : Prop where
  lies : Lies w ao xs
  col : ∀ a, ao = some a → xs ≠ [] → a.block < w.heap.size ∧ col a.block = c
theorem RLies.tr {ao : Option Addr} {xs : List Value} (h : RLies w col d ao xs) (t : Tr c w col w' col') (hne : d ≠ c) : RLies w' col' d ao xs := by
  refine ⟨fun i v hv => ?_, fun a ha hx => ?_⟩
  · obtain ⟨a, ha, hc⟩ := h.lies i v hv
    have hx : xs ≠ [] := fun e => by rw [e] at hv; simp at hv
    obtain ⟨h1, h2⟩ := h.col a ha hx
    refine ⟨a, ha, ?_⟩
    rw [← hc]
    have hb : (a.add i).block = a.block := by unfold Addr.add; split <;> rfl
    exact World.cell?_of_block (by rw [hb]; exact t.kept _ h1 (by rw [h2]; exact hne))
  · obtain ⟨h1, h2⟩ := h.col a ha hx
    exact ⟨Nat.lt_of_lt_of_le h1 t.size, (t.same _ h1).trans h2⟩

/-- A program that lies in blocks of one colour. -/
structure RPrg (w : World) (col : Nat → Nat) (c : Nat) (s : Spots) (P : Prg) : Prop where
  at_ : PAt w s P
  ghost : RLies w col c s.a0 (bools P.ghost)
  vars : RLies w col c s.a1 (flat var3 P.vars)
  tags : RLies w col c s.a2 (nums P.tags)
  on : RLies w col c s.a3 (nums P.on)
  code : RLies w col c s.a4 (flat ins5 P.code)
theorem RPrg.tr {s : Spots} {P : Prg} (h : RPrg w col d s P) (t : Tr c w col w' col') (hne : d ≠ c) : RPrg w' col' d s P :=
  ⟨⟨(h.ghost.tr t hne).lies, (h.vars.tr t hne).lies, (h.tags.tr t hne).lies, (h.on.tr t hne).lies, (h.code.tr t hne).lies, h.at_.lghost, h.at_.lvars, h.at_.ltags, h.at_.lon, h.at_.lcode, h.at_.n0, h.at_.n1, h.at_.n2, h.at_.n3, h.at_.n4⟩,
   h.ghost.tr t hne, h.vars.tr t hne, h.tags.tr t hne, h.on.tr t hne, h.code.tr t hne⟩
theorem lies_new {ao : Option Addr} {xs : List Value} (h : Lies w' ao xs) (hb : ∀ a, ao = some a → w.heap.size ≤ a.block) (c : Nat) : RLies w' (paint col w.heap.size c) c ao xs := by
  refine ⟨h, fun a ha hx => ⟨?_, paint_new (hb a ha)⟩⟩
  cases xs with
  | nil => exact absurd rfl hx
  | cons v l =>
    obtain ⟨a', ha', hc⟩ := h 0 v rfl
    rw [ha] at ha'
    cases ha'
    have := World.block_lt_of_cell? w' _ hc
    have hbb : (a.add 0).block = a.block := by unfold Addr.add; split <;> rfl
    rwa [hbb] at this
theorem RPrg.new {r : Spots} {P : Prg} (h : PAt w' r P) (hs : SpotsGe w.heap.size r) (c : Nat) : RPrg w' (paint col w.heap.size c) c r P :=
  ⟨h, lies_new h.ghost hs.s0 c, lies_new h.vars hs.s1 c, lies_new h.tags hs.s2 c, lies_new h.on hs.s3 c, lies_new h.code hs.s4 c⟩
end
end Go.Proofs.YtfjiikadnlhekaaDoor
