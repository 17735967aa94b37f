/-
  What is proved here: the law on 'out = append(out, s...)', out the call's own bytes, s a string, plain and at a step of a region that draws; a table's names. Conditions: the row lies in memory.
-/
import Derived.Test.YtfjiikadnlhekaaDoorROp
import Derived.Test.YtfjiikadnlhekaaDoorPut
import Derived.Test.YtfjiikadnlhekaaDoorRef2
import Derived.Lib.AppendStr
namespace Go.Proofs.YtfjiikadnlhekaaDoor
open Go.RowKit

/-- The bytes that have been laid so far; none yet: nil. -/
def OutV (B : Nat) (w : World) (v : Value) (l : List UInt8) : Prop := w.ownsRow B 5 1 v l.length (bcells l)
theorem strCells_str (l : List UInt8) : Lib.strCells (str l) = bcells l := by simp [Lib.strCells, str, bcells]

variable {w w' : World} {B : Nat} {v : Value} {l : List UInt8}
theorem OutV.below (h : OutV B w v l) (hb : Below w.heap.size w w') : OutV B w' v l := own_keep h (fun j hj => hb.block j (h.lt j hj).2)
theorem OutV.nil (w : World) (B : Nat) : OutV B w (.slice none 0 0) [] := World.ownsRow_nil _ _ _ _
/-- A block of another kind than bytes stays where an owned row of bytes turns. -/
theorem OutV.other (h : OutV B w v l) (hg : w.grownBy w' v.ownBlock) {k : Nat} {cs : Array Value} {t : TypeId} (hk : w.heap[k]? = some (.cells cs t (0, 0))) (ht : t ≠ 5) : w'.heap[k]? = some (.cells cs t (0, 0)) := by
  refine (hg.block k (Array.getElem?_eq_some_iff.1 hk).1 (fun e => ?_)).trans hk
  rcases h.2 with ⟨h1, _⟩ | ⟨g, cap, cur, h1, _, h3, _⟩
  · rw [h1] at e; cases e
  · rw [h1] at e
    have e2 : k = g := Option.some.inj e
    subst e2
    rw [hk] at h3
    cases h3
    exact ht rfl
theorem OutV.grown (h : OutV B w v l) (hg : w.grownBy w' v.ownBlock) (hz : B ≤ w.heap.size) : Below B w w' := ⟨hg.os, hg.tape, hg.output, hg.size, fun k hk => hg.block k (by omega) (fun e => by have := (h.lt k e.symm).1; omega)⟩

theorem wpList_puts {ops : Array Oper} {rest : List Oper} {o : Oper} {a : Act} {Q : Exit → Act → World → Prop} (hgd : o.guard = none) (s x : Operand)
    (ho : o.op = .call { callee := .builtin .append, args := #[s, x], argTypes := #[32, 9] })
    (B : Nat) (v : Value) (l xs : List UInt8) (hs : a.eval s = v) (hO : OutV B w v l) (sb : ByteArray) (hx : a.eval x = .string sb) (hsb : sb = str xs) (hlen : l.length + xs.length ≤ 1099511627776) (hB : B ≤ w.heap.size)
    (h : ∀ v' w', OutV B w' v' (l ++ xs) → w.grownBy w' v.ownBlock → wpList Tryd.prog ops Q rest (a.put o.dst v') w') : wpList Tryd.prog ops Q (o :: rest) a w := by
  subst hsb
  obtain ⟨i5, hi, hz, hsize, hby⟩ := info_parts infoB
  refine Lib.wpList_append_own_string w hgd s x 32 9 ho B 5 i5 Tryd.underlying32 Tryd.underlying9 hi hz hsize hby v l.length (bcells l) hs hO (str xs) hx (by rw [str_size]; unfold maxLen; omega) (by rw [str_size]; omega) hB (fun v' w' h1 h2 _ => h v' w' ?_ h2)
  rw [strCells_str, bcells_two, str_size, ← List.length_append] at h1
  exact h1
theorem step_puts {ops : Array Oper} {o : Oper} {a : Act} {K : Act → World → Prop} {Q : Exit → Act → World → Prop} {E : Prop} (hgd : o.guard = none) (s x : Operand)
    (ho : o.op = .call { callee := .builtin .append, args := #[s, x], argTypes := #[32, 9] })
    (B : Nat) (v : Value) (l xs : List UInt8) (hs : a.eval s = v) (hO : OutV B w v l) (sb : ByteArray) (hx : a.eval x = .string sb) (hsb : sb = str xs) (hlen : l.length + xs.length ≤ 1099511627776) (hB : B ≤ w.heap.size)
    (h : ∀ v' w', OutV B w' v' (l ++ xs) → w.grownBy w' v.ownBlock → K (a.put o.dst v') w') : if Region.wanted o (yielded ops a.tmps) = true then Oper.wp Tryd.prog o a w K Q else E := by
  have hw : Region.wanted o (yielded ops a.tmps) = true := by simp [Region.wanted, hgd]
  rw [if_pos hw]
  subst hsb
  obtain ⟨i5, hi, hz, hsize, hby⟩ := info_parts infoB
  obtain ⟨v', w', hr, h1, h2, _⟩ := Lib.run_append_own_string (P := Tryd.prog) w B 32 9 o.type 5 i5 Tryd.underlying32 Tryd.underlying9 hi hz hsize hby v l.length (bcells l) hO (str xs) (by rw [str_size]; unfold maxLen; omega) (by rw [str_size]; omega) hB
  rw [strCells_str, bcells_two, str_size, ← List.length_append] at h1
  unfold Oper.wp execOp
  simp only [ho, resolve, invoke, builtin, Sem.run_bind, Sem.run_pure, Result.andThen_ok, List.map_toArray, List.map_cons, List.map_nil, hs, hx, hr]
  exact h v' w' h1 h2

def cellStr (v : Option Value) : Option (List UInt8) := match v with | some (.string z) => some z.data.toList | _ => none
theorem cellStr_some {v : Option Value} {z : List UInt8} (h : cellStr v = some z) : v = some (.string (str z)) := by
  unfold cellStr at h
  split at h
  · cases h; rfl
  · cases h
theorem table_name : ∀ op : Nat, op < 42 → cellStr tableCells[op * 5]? = some (nameOf (op : Int)) := by decide +kernel
theorem names_short : ∀ op : Nat, op < 42 → (nameOf (op : Int)).length ≤ 8 := by decide +kernel
/-- What the reference tells of an operand is what the program tells. -/
theorem rtext_same (c : UInt8) (n : Int) (hk : kindNo c.toNat ≠ 0) (he : c.toNat = 101 → n = 0 ∨ n = 1) : rText (kindNo c.toNat) n = [32] ++ opText c.toNat n := by
  generalize hc : c.toNat = k at *
  unfold kindNo at *
  by_cases h1 : k = 113
  · subst h1; simp [rText, opText]
  by_cases h2 : k = 118
  · subst h2; simp [rText, opText]
  by_cases h3 : k = 116
  · subst h3; simp [rText, opText]
  by_cases h4 : k = 101
  · subst h4
    rcases he rfl with rfl | rfl <;> simp [rText, opText]
  by_cases h5 : k = 110
  · subst h5; simp [rText, opText]
  by_cases h6 : k = 98
  · subst h6
    by_cases hn : n = 1 <;> simp [rText, opText, hn]
  by_cases h7 : k = 114
  · subst h7; simp [rText, opText]
  by_cases h8 : k = 112
  · subst h8; simp [rText, opText]
  simp [h1, h2, h3, h4, h5, h6, h7, h8] at hk
end Go.Proofs.YtfjiikadnlhekaaDoor
