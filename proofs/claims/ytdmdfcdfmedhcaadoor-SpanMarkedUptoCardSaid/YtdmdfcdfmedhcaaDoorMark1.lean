/-
  What is proved here: the reference's Mark answers the mark of a place ('rMark'). Conditions: the bytes lie in memory; fewer than 2^40 of them.
-/
import Derived.Test.YtdmdfcdfmedhcaaDoorRef3
import Derived.Test.YtdmdfcdfmedhcaaDoorWholeMath
import Derived.Test.YtdmdfcdfmedhcaaDoorLend
import Derived.Lib.Builder
namespace Go.Proofs.YtdmdfcdfmedhcaaDoor
open Go.RowKit

/-- What stands ahead of the mark's '^': a tabulator for a tabulator, a blank for any other piece. -/
def padF (s : ByteArray) : Nat → Nat → List UInt8
  | 0, _ => []
  | f + 1, p => if p < s.size then (if (Utf8.decode s p).1 = 9 then 9 else 32) :: padF s f (p + (Utf8.decode s p).2) else []
def pads (s : ByteArray) : List UInt8 := padF s s.size 0
theorem padF_end (s : ByteArray) (f p : Nat) (h : ¬ p < s.size) : padF s f p = [] := by
  cases f with
  | zero => rfl
  | succ f => simp [padF, h]
theorem padF_step (s : ByteArray) (f p : Nat) (h : p < s.size) : padF s (f + 1) p = (if (Utf8.decode s p).1 = 9 then 9 else 32) :: padF s f (p + (Utf8.decode s p).2) := by
  simp [padF, h]
theorem padF_length (s : ByteArray) : ∀ (f p : Nat), (padF s f p).length = (startsF s f p).length
  | 0, _ => rfl
  | f + 1, p => by
    unfold padF startsF
    split
    · simp [padF_length s f]
    · rfl
theorem pads_length (s : ByteArray) : (pads s).length = (starts s).length := padF_length s _ _
theorem padF_mem (s : ByteArray) : ∀ (f p : Nat) (c : UInt8), c ∈ padF s f p → c = 9 ∨ c = 32
  | 0, _, _, h => by simp [padF] at h
  | f + 1, p, c, h => by
    unfold padF at h
    split at h
    · rcases List.mem_cons.1 h with rfl | h'
      · split
        · exact .inl rfl
        · exact .inr rfl
      · exact padF_mem s f _ c h'
    · simp at h

/-- A line and a mark beneath it. -/
def markOf (l : List UInt8) (col : Nat) : List UInt8 := l ++ ([10] ++ ((pads (str l)).take (col - 1) ++ [94]))

/-- Bytes in a row of one's own, that the conversion from a string or an append has made. -/
def OwnB (w : World) (B : Nat) (v : Value) (l : List UInt8) : Prop :=
  ∃ g cap cur fz, v = .slice (some ⟨g, 0, none⟩) l.length cap ∧ B ≤ g ∧ w.heap[g]? = some (.cells cur 5 fz) ∧ (fz.2 = 0 ∨ cap ≤ fz.1) ∧ l.length ≤ cap ∧ cap ≤ maxLen ∧ cur.size = cap ∧ cur.toList.take l.length = Lib.byteCells l

theorem OwnB.at {w : World} {B : Nat} {v : Value} {l : List UInt8} (h : OwnB w B v l) : ∃ g cap, v = .slice (some ⟨g, 0, none⟩) l.length cap ∧ B ≤ g ∧ g < w.heap.size ∧ BAt w (some ⟨g, 0, none⟩) l := by
  obtain ⟨g, cap, cur, fz, rfl, hB, hg, hfz, hnc, hcm, hcs, htk⟩ := h
  refine ⟨g, cap, rfl, hB, (Array.getElem?_eq_some_iff.1 hg).1, fun i c hc => ⟨_, rfl, ?_⟩⟩
  have hi : i < l.length := (List.getElem?_eq_some_iff.1 hc).1
  have e : (⟨g, 0, none⟩ : Addr).add i = ⟨g, i, none⟩ := by
    unfold Addr.add
    split
    · rename_i h0; subst h0; rfl
    · simp
  rw [e, Lib.cell_of_heap hg]
  have h1 : (cur.toList.take l.length)[i]? = (Lib.byteCells l)[i]? := by rw [htk]
  rw [List.getElem?_take, if_pos hi] at h1
  rw [← Array.getElem?_toList, h1]
  simp [Lib.byteCells, hc]

theorem OwnB.kept {w w' : World} {B g : Nat} {v : Value} {l : List UInt8} (h : OwnB w B v l) (hv : v.ownBlock = some g) (hg : w'.heap[g]? = w.heap[g]?) : OwnB w' B v l := by
  obtain ⟨g', cap, cur, fz, rfl, hB, hh, hr⟩ := h
  obtain rfl : g' = g := Option.some.inj hv
  exact ⟨g', cap, cur, fz, rfl, hB, hg.trans hh, hr⟩
theorem OwnB.below {w w' : World} {B : Nat} {v : Value} {l : List UInt8} (h : OwnB w B v l) (hb : Below w.heap.size w w') : OwnB w' B v l := by
  obtain ⟨g, cap, rfl, _, hl, _⟩ := h.at
  exact h.kept rfl (hb.block g hl)

/-- 'append(v, c)' of one byte that has just been laid in a block of its own. -/
theorem wpList_appendB {w : World} {ops : Array Oper} {rest : List Oper} {o : Oper} {a : Act} {Q : Exit → Act → World → Prop} (hgd : o.guard = none) (s x : Operand)
    (ho : o.op = .call { callee := .builtin .append, args := #[s, x], argTypes := #[22, 22] })
    (B : Nat) (v : Value) (l : List UInt8) (hs : a.eval s = v) (hown : OwnB w B v l) (N : Nat) (hN : N = w.heap.size) (c : UInt8) (hx : a.eval x = .slice (some ⟨N, 0, none⟩) 1 1)
    (h40 : l.length ≤ 4398046511104) (hB : B ≤ w.heap.size)
    (h : ∀ g cap w', OwnB w' B (.slice (some ⟨g, 0, none⟩) (l.length + 1) cap) (l ++ [c]) → w.grownBy w' v.ownBlock → wpList Tryd.prog ops Q rest (a.put o.dst (.slice (some ⟨g, 0, none⟩) (l.length + 1) cap)) w') :
    wpList Tryd.prog ops Q (o :: rest) a (w.alloc (.cells #[.int .u8 (c.toNat : Int)] 5)) := by
  subst hN
  obtain ⟨i, hi, hz0, hz1, hz2⟩ := info_parts info5
  obtain ⟨g, cap, cur, fz, rfl, hBg, hg, hfz, hnc, hcm, hcs, htk⟩ := hown
  have hgl : g < w.heap.size := (Array.getElem?_eq_some_iff.1 hg).1
  have hg1 : (w.alloc (.cells #[.int .u8 (c.toNat : Int)] 5)).heap[g]? = some (.cells cur 5 fz) := (Below.heap_alloc w _ g hgl).trans hg
  have hnew := cell_one_new w (Value.int .u8 (c.toNat : Int)) 5
  generalize hW : w.alloc (.cells #[.int .u8 (c.toNat : Int)] 5) = W at *
  have hWs : W.heap.size = w.heap.size + 1 := by rw [← hW]; simp
  have hWk : ∀ k, k < w.heap.size → W.heap[k]? = w.heap[k]? := fun k hk => by rw [← hW]; exact Below.heap_alloc w _ k hk
  have hWo : W.os = w.os ∧ W.tape = w.tape ∧ W.output = w.output := by rw [← hW]; exact ⟨rfl, rfl, rfl⟩
  have hbl : (Lib.byteCells l).length = l.length := by simp [Lib.byteCells]
  have hcell : ∀ j, W.cell? ⟨g, j, none⟩ = cur[j]? := fun j => Lib.cell_of_heap hg1 j
  refine wpList_plain hgd fun K hK => ?_
  by_cases hroom : l.length + 1 ≤ cap
  · have hlt : l.length < cur.size := by omega
    have hfro : W.frozen? ⟨g, l.length, none⟩ = false := by
      obtain ⟨lo, up⟩ := fz
      simp only [World.frozen?, hg1, Bool.and_eq_false_iff, decide_eq_false_iff_not]
      simp only at hfz
      omega
    have hf := run_firstCells_some (P := Tryd.prog) W 1 1 ⟨w.heap.size, 0, none⟩ 1 1 [.int .u8 (c.toNat : Int)] (by simp) hnew
    have hst : (storeCells ⟨g, l.length, none⟩ [.int .u8 (c.toNat : Int)] 0).run Tryd.prog W = .ok () (W.setCell ⟨g, l.length, none⟩ (.int .u8 (c.toNat : Int))) := by
      have e : (⟨g, l.length, none⟩ : Addr).add 0 = ⟨g, l.length, none⟩ := by simp [Addr.add]
      simp only [storeCells, Sem.run_bind, e]
      rw [run_store Tryd.prog W _ _ _ (by rfl), hcell, Array.getElem?_eq_getElem hlt]
      simp [hfro, Result.andThen]
    have hr : (Builtin.append_ #[22, 22] o.type #[.slice (some ⟨g, 0, none⟩) l.length cap, .slice (some ⟨w.heap.size, 0, none⟩) 1 1]).run Tryd.prog W =
        .ok (.slice (some ⟨g, 0, none⟩) (l.length + 1) cap) (W.setCell ⟨g, l.length, none⟩ (.int .u8 (c.toNat : Int))) := by
      simp [Builtin.append_, run_underlying Tryd.underlying22, sizeOf, typeInfo, hi, Builtin.lenOf, hroom, hf, Addr.add_lit, hz1, hst]
    have hown' : OwnB (W.setCell ⟨g, l.length, none⟩ (.int .u8 (c.toNat : Int))) B (.slice (some ⟨g, 0, none⟩) (l.length + 1) cap) (l ++ [c]) := by
      refine ⟨g, cap, cur.setIfInBounds l.length (.int .u8 (c.toNat : Int)), fz, by simp, hBg, ?_, hfz, by simp; omega, hcm, by simpa using hcs, ?_⟩
      · simp only [World.setCell, Array.getElem?_modify, if_true, hg1]
        rfl
      · rw [List.length_append, List.length_singleton, Array.toList_setIfInBounds, List.take_succ_eq_append_getElem (by simpa using hlt)]
        rw [List.take_set_of_le (by omega), htk]
        simp [Lib.byteCells]
    have hwp := h g cap (W.setCell ⟨g, l.length, none⟩ (.int .u8 (c.toNat : Int))) hown' ⟨hWo.1, hWo.2.1, hWo.2.2, by simp [World.setCell]; omega, fun k hk hne => (Below.heap_setCell _ _ _ _ (fun e => hne (by simp [Value.ownBlock, e]))).trans (hWk k hk)⟩
    unfold Oper.wp execOp
    simp only [ho, resolve, invoke, builtin, Sem.run_bind, Sem.run_pure, Result.andThen_ok, List.map_toArray, List.map_cons, List.map_nil, hs, hx, hr]
    exact hK _ _ hwp
  · have holds : ∀ j u, (Lib.byteCells l)[j]? = some u → W.cell? ((⟨g, 0, none⟩ : Addr).add j) = some u := by
      intro j u hu
      have hj : j < l.length := by have := (List.getElem?_eq_some_iff.1 hu).1; omega
      have e : (⟨g, 0, none⟩ : Addr).add j = ⟨g, j, none⟩ := by
        unfold Addr.add
        split
        · rename_i h0; subst h0; rfl
        · simp
      rw [e, hcell, ← Array.getElem?_toList]
      rw [← htk, List.getElem?_take, if_pos hj] at hu
      exact hu
    have hr := run_append_grow (P := Tryd.prog) W 22 o.type 5 i (.int .u8 0) Tryd.underlying22 hi hz0 ⟨g, 0, none⟩ l.length cap (Lib.byteCells l) (by simp [hz1, Lib.byteCells]) holds ⟨w.heap.size, 0, none⟩ 1 1 [.int .u8 (c.toNat : Int)] (by simp [hz1]) hnew (by omega) (by omega) (growslice_fits (by omega) (by rw [hz2]; omega))
    generalize hcells : (Lib.byteCells l).toArray ++ [Value.int .u8 (c.toNat : Int)].toArray ++ Builtin.zeroCells (Value.int .u8 0).cells (grownCap W (l.length + 1) cap 5 - (l.length + 1)) = CS at hr
    have hge := grownCap_ge W (l.length + 1) cap 5
    have hnb : (W.drew.alloc (.cells CS 5)).heap[W.heap.size]? = some (.cells CS 5 (0, 0)) := (MapKept.heap_alloc W.drew _).1
    have hown' : OwnB (W.drew.alloc (.cells CS 5)) B (.slice (some ⟨W.heap.size, 0, none⟩) (l.length + 1) (grownCap W (l.length + 1) cap 5)) (l ++ [c]) := by
      refine ⟨W.heap.size, _, CS, (0, 0), by simp, by omega, hnb, .inl rfl, by simpa using hge, grownCap_le_maxLen W (l.length + 1) cap 5 (by unfold maxLen; omega), ?_, ?_⟩
      · rw [← hcells]
        simp [size_zeroCells, Lib.byteCells, Value.cells]
        omega
      · rw [← hcells]
        simp only [Array.toList_append, List.append_assoc, List.length_append, List.length_singleton]
        rw [← List.append_assoc, List.take_left' (by simp [Lib.byteCells])]
        simp [Lib.byteCells]
    have hwp := h W.heap.size (grownCap W (l.length + 1) cap 5) _ hown' ⟨hWo.1, hWo.2.1, hWo.2.2, by simp; omega, fun k hk _ => (Below.heap_alloc W.drew _ k (show k < W.heap.size by omega)).trans (hWk k hk)⟩
    unfold Oper.wp execOp
    simp only [ho, resolve, invoke, builtin, Sem.run_bind, Sem.run_pure, Result.andThen_ok, List.map_toArray, List.map_cons, List.map_nil, hs, hx, hr]
    exact hK _ _ hwp
end Go.Proofs.YtdmdfcdfmedhcaaDoor
