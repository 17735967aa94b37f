/-
  What is proved here: the frame of the walks of the reference's Decode: a reader and a half built program in memory. Conditions: none beyond each lemma's own.
-/
import Derived.Test.YtfjiikadnlhekaaDoorIn6
namespace Go.Proofs.YtfjiikadnlhekaaDoor
open Go.RowKit

/-- Since W the reader (block b) and the program (block pb) have turned, nothing else that was there. -/
structure ISt (W wr : World) (b pb : Nat) (ao : Option Addr) (ca : Nat) (bs : List UInt8) (k : Nat) (c p : Int) (cs : Array Value) : Prop where
  os : wr.os = W.os
  tape : wr.tape = W.tape
  output : wr.output = W.output
  chg : Chg W.heap.size b pb W wr
  reader : IAt wr b ao ca bs k c p
  cells : wr.heap[pb]? = some (.cells cs 27 (0, 0))
  blt : b < W.heap.size
  plt : pb < W.heap.size
  ne : b ≠ pb
  old : ∀ a, ao = some a → a.block < W.heap.size ∧ a.block ≠ pb

variable {W wr w' X : World} {b pb : Nat} {ao : Option Addr} {ca : Nat} {bs : List UInt8} {k k' : Nat} {c p c' p' : Int} {cs : Array Value}

theorem ISt.size (h : ISt W wr b pb ao ca bs k c p cs) : W.heap.size ≤ wr.heap.size := h.chg.size
theorem ISt.turn (h : ISt W wr b pb ao ca bs k c p cs) {row : Option Nat} (hg : wr.grownBy w' row) (hr : ∀ j, row = some j → W.heap.size ≤ j) : ISt W w' b pb ao ca bs k c p cs := by
  have hs := h.chg.size
  have hne : ∀ j, j < W.heap.size → some j ≠ row := fun j hj e => by have := hr j e.symm; omega
  have h1 := h.blt
  have h2 := h.plt
  exact ⟨hg.os.trans h.os, hg.tape.trans h.tape, hg.output.trans h.output, h.chg.turn (Nat.le_refl _) hg hr,
    h.reader.stay (hg.block _ (by omega) (hne _ h1)) (fun a ha => hg.block _ (by have := (h.old a ha).1; omega) (hne _ (h.old a ha).1)), (hg.block _ (by omega) (hne _ h2)).trans h.cells, h1, h2, h.ne, h.old⟩
theorem ISt.alloc (h : ISt W wr b pb ao ca bs k c p cs) (o : Obj) : ISt W (wr.alloc o) b pb ao ca bs k c p cs := h.turn (World.grownBy_alloc wr o none) (fun j hj => by cases hj)
theorem ISt.drew (h : ISt W wr b pb ao ca bs k c p cs) : ISt W wr.drew b pb ao ca bs k c p cs := h.turn (row := none) ⟨rfl, rfl, rfl, Nat.le_refl _, fun _ _ _ => rfl⟩ (fun j hj => by cases hj)
theorem ISt.drewN (h : ISt W wr b pb ao ca bs k c p cs) (n : Nat) : ISt W (wr.drewN n) b pb ao ca bs k c p cs := by
  obtain ⟨s1, s2, s3, s4⟩ := drewN_same wr n
  exact h.turn (row := none) ⟨s2, s3, s4, by rw [s1]; exact Nat.le_refl _, fun j _ _ => by rw [s1]⟩ (fun j hj => by cases hj)
theorem ISt.below (h : ISt W wr b pb ao ca bs k c p cs) (hb : Below wr.heap.size wr w') : ISt W w' b pb ao ca bs k c p cs := h.turn (row := none) ⟨hb.os, hb.tape, hb.output, hb.size, fun k hk _ => hb.block k hk⟩ (fun j hj => by cases hj)
theorem ISt.other (h : ISt W wr b pb ao ca bs k c p cs) (d i : Nat) (v : Value) (hd : W.heap.size ≤ d) : ISt W (wr.setCell ⟨d, i, none⟩ v) b pb ao ca bs k c p cs := h.turn (grown_set wr d i v) (fun j hj => by have := Option.some.inj hj; omega)
theorem ISt.push (h : ISt W wr b pb ao ca bs k c p cs) {B : Nat} {e : TypeId} {sz : Nat} {v : Value} {n : Nat} {xs : List Value} (hown : wr.ownsRow B e sz v n xs) (hB : W.heap.size ≤ B) (hgr : wr.grownBy w' v.ownBlock) : ISt W w' b pb ao ca bs k c p cs :=
  h.turn hgr (fun j hj => by have := (hown.lt j hj).1; omega)
theorem ISt.but (h : ISt W wr b pb ao ca bs k c p cs) (hB : But wr w' b) (hI : IAt w' b ao ca bs k' c' p') : ISt W w' b pb ao ca bs k' c' p' cs :=
  ⟨hB.os.trans h.os, hB.tape.trans h.tape, hB.output.trans h.output, h.chg.read (Nat.le_refl _) hB.grown, hI, (hB.block pb (fun e => h.ne e.symm)).trans h.cells, h.blt, h.plt, h.ne, h.old⟩
theorem ISt.store (h : ISt W wr b pb ao ca bs k c p cs) (i : Nat) (v : Value) : ISt W (wr.setCell ⟨pb, i, none⟩ v) b pb ao ca bs k c p (cs.setIfInBounds i v) :=
  ⟨h.os, h.tape, h.output, h.chg.store i v, h.reader.stay (set_other i v h.ne) (fun a ha => set_other i v (h.old a ha).2), set_block h.cells i v, h.blt, h.plt, h.ne, h.old⟩
/-- From here on anew. -/
theorem ISt.here (h : ISt W wr b pb ao ca bs k c p cs) : ISt wr wr b pb ao ca bs k c p cs := by
  have hs := h.size
  have h1 := h.blt
  have h2 := h.plt
  exact ⟨rfl, rfl, rfl, Chg.refl _ _ _ _, h.reader, h.cells, by omega, by omega, h.ne, fun a ha => ⟨by have := (h.old a ha).1; omega, (h.old a ha).2⟩⟩
theorem ISt.trans {k2 : Nat} {c2 p2 : Int} {cs2 : Array Value} (h : ISt W wr b pb ao ca bs k c p cs) (h2 : ISt wr w' b pb ao ca bs k2 c2 p2 cs2) : ISt W w' b pb ao ca bs k2 c2 p2 cs2 := by
  have hs := h.size
  exact ⟨h2.os.trans h.os, h2.tape.trans h.tape, h2.output.trans h.output, ⟨Nat.le_trans hs h2.size, fun j hj h3 h4 => (h2.chg.block j (by omega) h3 h4).trans (h.chg.block j hj h3 h4)⟩, h2.reader, h2.cells, h.blt, h.plt, h.ne, h.old⟩
theorem ISt.psize (h : ISt W wr b pb ao ca bs k c p cs) : pb < wr.heap.size := (Array.getElem?_eq_some_iff.1 h.cells).1
/-- A block of the call's own that is neither. -/
theorem ISt.kept (h : ISt W wr b pb ao ca bs k c p cs) (j : Nat) (hj : j < W.heap.size) (h1 : j ≠ b) (h2 : j ≠ pb) : wr.heap[j]? = W.heap[j]? := h.chg.block j hj h1 h2

/-- An owned row behind a reader's method. -/
theorem own_but {B : Nat} {e : TypeId} {sz : Nat} {v : Value} {n : Nat} {xs : List Value} (h : wr.ownsRow B e sz v n xs) (hB : But wr w' b) (hb : b < B) : w'.ownsRow B e sz v n xs :=
  own_keep h (fun j hj => hB.block j (by have := (h.lt j hj).1; omega))
theorem own_drewN {B : Nat} {e : TypeId} {sz : Nat} {v : Value} {n : Nat} {xs : List Value} (h : wr.ownsRow B e sz v n xs) (m : Nat) : (wr.drewN m).ownsRow B e sz v n xs :=
  own_keep h (fun j _ => by rw [(drewN_same wr m).1])
/-- A list that grows: it is whole now. -/
theorem ownL_now {B : Nat} {e : TypeId} {sz : Nat} {v : Value} {n : Nat} {xs : List Value} (h : wr.ownsRow B e sz v n xs) : OwnL wr B wr.heap.size e sz v n xs := ⟨h, fun j hj => (h.lt j hj).2⟩
theorem OwnL.since {B B' : Nat} {e : TypeId} {sz : Nat} {v : Value} {n : Nat} {xs : List Value} (h : OwnL W B B' e sz v n xs) (hi : ISt W wr b pb ao ca bs k c p cs) (hL : B' ≤ W.heap.size) (hb : b < B) (hp : pb < B) : OwnL wr B B' e sz v n xs := h.chg hi.chg hL hb hp

/-! The spec's steps, as the reader's methods take them. -/
variable {β : Type} {G : Got β}
theorem st_flag {q j : Nat} {l : List Bool} {f : List Bool → Rd β} (h : Sticks bs (andThen (rReps (rFlag bs.length) (q - j) l) f) G k c p) (hj : j < q) (hk : k ≤ bs.length) :
    Sticks bs (andThen (rByte bs.length) fun x => andThen (if 1 < x.toNat then flaw 82 k else told (x.toNat == 1)) fun a => andThen (rReps (rFlag bs.length) (q - (j + 1)) (l ++ [a])) f) G k c p :=
  h.to fun _ => by
    rw [show q - j = (q - (j + 1)) + 1 by omega, reps_eq]
    show andThen (placed bs.length _) _ _ = _
    unfold andThen
    rw [placed_at _ rfl hk]
    exact congrFun (andThen_assoc _ _ _) (bs.drop k)
theorem st_var {q j : Nat} {l : List Var3} {f : List Var3 → Rd β} (h : Sticks bs (andThen (rReps (rVar bs.length) (q - j) l) f) G k c p) (hj : j < q) :
    Sticks bs (andThen (rInt bs.length) fun x => andThen (rInt bs.length) fun y => andThen (rInt bs.length) fun z => andThen (rReps (rVar bs.length) (q - (j + 1)) (l ++ [(x, y, z)])) f) G k c p :=
  h.to fun _ => by
    rw [show q - j = (q - (j + 1)) + 1 by omega, reps_eq]
    unfold rVar
    rw [andThen_assoc]
    congr 2
    funext x
    rw [andThen_assoc]
    congr 1
    funext y
    rw [andThen_assoc]
    rfl
theorem st_tag {q j : Nat} {l : List Int} {f : List Int → Rd β} (h : Sticks bs (andThen (rReps (rTag bs.length) (q - j) l) f) G k c p) (hj : j < q) :
    Sticks bs (andThen (rNum bs.length) fun u => andThen (rReps (rTag bs.length) (q - (j + 1)) (l ++ [(u : Int)])) f) G k c p :=
  h.to fun _ => by
    rw [show q - j = (q - (j + 1)) + 1 by omega, reps_eq]
    unfold rTag
    rw [andThen_assoc]
    rfl
theorem st_on {q j : Nat} {l : List Int} {f : List Int → Rd β} (h : Sticks bs (andThen (rReps (rOn bs.length) (q - j) l) f) G k c p) (hj : j < q) :
    Sticks bs (andThen (rNum bs.length) fun u => andThen (rReps (rOn bs.length) (q - (j + 1)) (l ++ [(u : Int) - 1])) f) G k c p :=
  h.to fun _ => by
    rw [show q - j = (q - (j + 1)) + 1 by omega, reps_eq]
    unfold rOn
    rw [andThen_assoc]
    rfl
theorem st_ins {q j : Nat} {l : List Ins5} {f : List Ins5 → Rd β} (h : Sticks bs (andThen (rReps (rIns bs.length) (q - j) l) f) G k c p) (hj : j < q) (hk : k ≤ bs.length) :
    Sticks bs (andThen (rNum bs.length) fun op => andThen (if 42 ≤ op then flaw 91 k else andThen (rOpnds bs.length (kindsOf (op : Int)) []) fun l2 => told (insOf op l2)) fun a => andThen (rReps (rIns bs.length) (q - (j + 1)) (l ++ [a])) f) G k c p :=
  h.to fun _ => by
    rw [show q - j = (q - (j + 1)) + 1 by omega, reps_eq]
    show andThen (placed bs.length _) _ _ = _
    unfold andThen
    rw [placed_at _ rfl hk]
    exact congrFun (andThen_assoc _ _ _) (bs.drop k)
/-- A loop is at its end. -/
theorem st_done {α : Type} {m : Rd α} {q j : Nat} {l : List α} {f : List α → Rd β} (h : Sticks bs (andThen (rReps m (q - j) l) f) G k c p) (hj : c = 0 → j = q) : Sticks bs (f l) G k c p :=
  h.to fun hc => by
    rw [hj hc, Nat.sub_self]
    rfl
theorem st_opnd {ks : List UInt8} {i : Nat} (hi : i < ks.length) {l : List Int} {f : List Int → Rd β} (h : Sticks bs (andThen (rOpnds bs.length (ks.drop i) l) f) G k c p) :
    Sticks bs (andThen (rOpnd bs.length ks[i]) fun n => andThen (rOpnds bs.length (ks.drop (i + 1)) (l ++ [n])) f) G k c p :=
  h.to fun _ => by
    rw [List.drop_eq_getElem_cons hi]
    show andThen (andThen _ _) _ _ = _
    exact congrFun (andThen_assoc _ _ _) (bs.drop k)
end Go.Proofs.YtfjiikadnlhekaaDoor
