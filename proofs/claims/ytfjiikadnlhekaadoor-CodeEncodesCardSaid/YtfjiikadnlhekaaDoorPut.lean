/-
  What is proved here: the law on 'out = append(out, x...)', out and x the call's own bytes, x not empty, and what stays behind it. Conditions: the two rows lie in memory.
-/
import Derived.Test.YtfjiikadnlhekaaDoorApp
import Derived.Test.YtfjiikadnlhekaaDoorRNum
import Derived.Test.YtfjiikadnlhekaaDoorSgn
namespace Go.Proofs.YtfjiikadnlhekaaDoor
open Go.RowKit

/-- The bytes that have been laid so far. -/
def Out (B : Nat) (w : World) (g cap : Nat) (l : List UInt8) : Prop := w.ownsRow B 5 1 (.slice (some ⟨g, 0, none⟩) l.length cap) l.length (bcells l)
/-- What became of a world: row g has turned, or lies in a new block now. -/
structure PutW (w w' : World) (g g' : Nat) : Prop where
  os : w'.os = w.os
  tape : w'.tape = w.tape
  output : w'.output = w.output
  size : w.heap.size ≤ w'.heap.size
  block : ∀ k, k < w.heap.size → k ≠ g → w'.heap[k]? = w.heap[k]?
  loc : g' = g ∨ g' = w.heap.size
/-- Another block, and that the row is none of it. -/
def Kp (w : World) (g xb : Nat) (o : Obj) : Prop := w.heap[xb]? = some o ∧ g ≠ xb

variable {w w' : World} {B g g' cap xb : Nat} {l : List UInt8} {o : Obj}
theorem Kp.below (h : Kp w g xb o) (hb : Below w.heap.size w w') : Kp w' g xb o := ⟨(hb.block xb (Array.getElem?_eq_some_iff.1 h.1).1).trans h.1, h.2⟩
theorem Kp.put (h : Kp w g xb o) (hp : PutW w w' g g') : Kp w' g' xb o := by
  have hl := (Array.getElem?_eq_some_iff.1 h.1).1
  refine ⟨(hp.block xb hl (fun e => h.2 e.symm)).trans h.1, ?_⟩
  rcases hp.loc with e | e
  · rw [e]; exact h.2
  · omega
theorem Out.below (h : Out B w g cap l) (hb : Below w.heap.size w w') : Out B w' g cap l := own_keep h (fun j hj => hb.block j (h.lt j hj).2)
theorem Out.at (h : Out B w g cap l) : B ≤ g ∧ g < w.heap.size := h.lt g rfl
theorem PutW.below (h : PutW w w' g g') (hB : B ≤ g) (hz : B ≤ w.heap.size) : Below B w w' := ⟨h.os, h.tape, h.output, h.size, fun k hk => h.block k (by omega) (by omega)⟩
theorem own_some {v : Value} {n : Nat} {xs : List Value} (h : w.ownsRow B 5 1 v n xs) (hn : 0 < n) : ∃ gv cv, v = .slice (some ⟨gv, 0, none⟩) n cv := by
  rcases h.2 with ⟨_, h0⟩ | ⟨gv, cv, cur, hv, _⟩
  · omega
  · exact ⟨gv, cv, hv⟩
theorem num_pos (u : Nat) : 0 < (num u).length := by
  unfold num
  generalize 10 = f
  cases f with
  | zero => simp [numF]
  | succ f => unfold numF; split <;> simp
theorem lay_le {l r E : List UInt8} (h : Hid (l ++ r = E)) (n : Nat) (hE : E.length ≤ n) : l.length ≤ n := by
  have h1 := congrArg List.length h.out
  rw [List.length_append] at h1
  omega

theorem wpList_put {ops : Array Oper} {rest : List Oper} {o : Oper} {a : Act} {Q : Exit → Act → World → Prop} (hgd : o.guard = none) (s x : Operand)
    (ho : o.op = .call { callee := .builtin .append, args := #[s, x], argTypes := #[32, 32] })
    (B g c : Nat) (l xs : List UInt8) (v : Value) (B2 : Nat) (hs : a.eval s = .slice (some ⟨g, 0, none⟩) l.length c) (hO : Out B w g c l) (hx : a.eval x = v) (hv : w.ownsRow B2 5 1 v xs.length (bcells xs)) (hpos : 0 < xs.length)
    (hlen : l.length + xs.length ≤ 1099511627776) (hB : B ≤ w.heap.size)
    (h : ∀ g' cap' w', Out B w' g' cap' (l ++ xs) → PutW w w' g g' → wpList Tryd.prog ops Q rest (a.put o.dst (.slice (some ⟨g', 0, none⟩) (l ++ xs).length cap')) w') :
    wpList Tryd.prog ops Q (o :: rest) a w := by
  obtain ⟨gv, cv, rfl⟩ := own_some hv hpos
  obtain ⟨i5, hi, hz, hsize, hby⟩ := info_parts infoB
  have hL := own_cells hv
  refine wpList_append_own_at _ hgd s x 32 ho B 5 i5 (.int .u8 0) 1 1 Tryd.underlying32 hi hz hsize hby rfl (by omega) _ l.length (bcells l) hs hO ⟨gv, 0, none⟩ xs.length cv (bcells xs) hx (by simp [bcells]) (fun j u hu => ?_) (bcells_one xs) (by unfold maxLen; omega) (by omega) hB ?_
  · obtain ⟨a', ha', hc⟩ := hL j u hu
    cases ha'
    exact hc
  · intro v' w' hown' hgrow hnil hloc
    rw [bcells_two, ← List.length_append] at hown'
    rcases hown'.2 with ⟨h1, h2⟩ | ⟨g', cap', cur, hv', h2, h3, _⟩
    · rw [List.length_append] at h2; omega
    · subst hv'
      rw [← List.length_append] at *
      refine h g' cap' w' hown' ⟨hgrow.os, hgrow.tape, hgrow.output, hgrow.size, fun k hk hne => hgrow.block k hk (by simp [Value.ownBlock]; exact hne), ?_⟩
      rcases hloc with e | e
      · exact Or.inl (by simpa [Value.ownBlock] using e)
      · exact Or.inr (by simpa [Value.ownBlock] using e)
/-- A slice literal of one byte. -/
theorem out_one (w : World) (b : UInt8) : Out w.heap.size (w.alloc (.cells #[.int .u8 (b.toNat : Int)] 5)) w.heap.size 1 [b] := World.ownsRow_lit (base := w.heap.size) (size := 1) (e := 5) w #[.int .u8 (b.toNat : Int)] 1 (Nat.le_refl _) (by decide) rfl
end Go.Proofs.YtfjiikadnlhekaaDoor
