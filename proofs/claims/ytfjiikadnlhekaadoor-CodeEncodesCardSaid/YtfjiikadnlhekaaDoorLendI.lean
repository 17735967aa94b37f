/-
  What is proved here: winnowlaw15.lend: a program apart, with marks behind its code. Conditions: the program lies in memory; at most 2^19 instructions.
-/
import Derived.Test.YtfjiikadnlhekaaDoorRTwin
import Derived.Test.YtfjiikadnlhekaaDoorLendB
import Derived.Laws.CopyRow
namespace Go.Proofs.YtfjiikadnlhekaaDoor
open Go.RowKit

abbrev mark5 : Ins5 := (-9, 0, 0, 0, 0)
/-- Behind the code: j marks, then zeros. -/
def tl (j : Nat) : List Value := flat ins5 (List.replicate j mark5) ++ List.replicate (15 - 5 * j) (.int .i64 0)
/-- What lend hands out lies so. -/
def LentI (w : World) (g : Nat) (l : List Ins5) (j : Nat) : Prop := w.heap[g]? = some (.cells (flat ins5 l ++ tl j).toArray 57 (0, 0))
theorem flat5 (l : List Ins5) : (flat ins5 l).length = l.length * 5 := flat_length _ 5 (fun _ => rfl) l
theorem LentI.at {w : World} {g : Nat} {l : List Ins5} {j : Nat} (h : LentI w g l j) (k : Nat) : w.cell? ⟨g, l.length * 5 + k, none⟩ = (tl j)[k]? := by
  rw [cell_at h _, List.getElem?_toArray, ← flat5, List.getElem?_append_right (by omega)]
  congr 1
  omega
theorem LentI.free {w : World} {g : Nat} {l : List Ins5} {j : Nat} (h : LentI w g l j) (k : Nat) : w.frozen? ⟨g, k, none⟩ = false := free_at h k
theorem LentI.lies {w : World} {g : Nat} {l : List Ins5} {j : Nat} (h : LentI w g l j) : Lies w (some ⟨g, 0, none⟩) (flat ins5 l) := by
  intro i v hv
  refine ⟨⟨g, 0, none⟩, rfl, ?_⟩
  have e : (⟨g, 0, none⟩ : Addr).add i = ⟨g, i, none⟩ := by unfold Addr.add; split <;> simp_all
  rw [e, cell_at h i, List.getElem?_toArray, List.getElem?_append_left (List.getElem?_eq_some_iff.1 hv).1]
  exact hv
theorem LentI.below {w w' : World} {g : Nat} {l : List Ins5} {j : Nat} (h : LentI w g l j) (hb : Below w.heap.size w w') : LentI w' g l j := (hb.block g (Array.getElem?_eq_some_iff.1 h).1).trans h
theorem set_tail {w : World} {g : Nat} {X T : List Value} (h : w.heap[g]? = some (.cells (X ++ T).toArray 57 (0, 0))) (k : Nat) (v : Value) : (w.setCell ⟨g, X.length + k, none⟩ v).heap[g]? = some (.cells (X ++ T.set k v).toArray 57 (0, 0)) := by
  rw [set_block h]
  simp [List.set_append_right]
theorem five_set {w : World} {g : Nat} {l : List Ins5} {j : Nat} (h : LentI w g l j) (hj : j < 3) :
    LentI (((((w.setCell ⟨g, l.length * 5 + 5 * j, none⟩ (.int .i64 (-9))).setCell ⟨g, l.length * 5 + (5 * j + 1), none⟩ (.int .i64 0)).setCell ⟨g, l.length * 5 + (5 * j + 2), none⟩ (.int .i64 0)).setCell ⟨g, l.length * 5 + (5 * j + 3), none⟩ (.int .i64 0)).setCell ⟨g, l.length * 5 + (5 * j + 4), none⟩ (.int .i64 0)) g l (j + 1) := by
  unfold LentI at h ⊢
  have h1 := set_tail (set_tail (set_tail (set_tail (set_tail h (5 * j) (.int .i64 (-9))) (5 * j + 1) (.int .i64 0)) (5 * j + 2) (.int .i64 0)) (5 * j + 3) (.int .i64 0)) (5 * j + 4) (.int .i64 0)
  rw [flat5] at h1
  have e : (((((tl j).set (5 * j) (.int .i64 (-9))).set (5 * j + 1) (.int .i64 0)).set (5 * j + 2) (.int .i64 0)).set (5 * j + 3) (.int .i64 0)).set (5 * j + 4) (.int .i64 0) = tl (j + 1) := by
    rcases (show j = 0 ∨ j = 1 ∨ j = 2 by omega) with rfl | rfl | rfl <;> rfl
  rw [e] at h1
  exact h1

theorem run_copy_rows (w : World) (T ty e : TypeId) (sz : Nat) (hu : Tryd.prog.underlying T = some (.slice e)) (hs : (Tryd.prog.info? e).map (·.size) = some sz) (g dLen dCap : Nat) (so : Option Addr) (n c : Nat) (cur : Array Value) (t : TypeId)
    (hg : w.heap[g]? = some (.cells cur t (0, 0))) (cs : List Value) (hl : cs.length = n * sz) (hsz : 0 < sz) (hn : n ≤ dLen) (hL : Lies w so cs) (hfit : cs.length ≤ cur.size) (h1 : ∀ v ∈ cs, v.oneCell' = true) :
    ∃ w', (Builtin.copy_ #[T, T] ty #[.slice (some ⟨g, 0, none⟩) dLen dCap, .slice so n c]).run Tryd.prog w = .ok (goInt n) w' ∧ w'.heap[g]? = some (.cells (cs ++ cur.toList.drop cs.length).toArray t (0, 0)) ∧ ∀ B w0, B ≤ g → Below B w0 w → Below B w0 w' := by
  cases hq : Tryd.prog.info? e with
  | none => simp [hq] at hs
  | some i =>
    have hi : i.size = sz := by simpa [hq] using hs
    have hmin : Nat.min n dLen = n := Nat.min_eq_left hn
    have hst := run_storeCells_at Tryd.prog g 0 t cs 0 cur w hg (by simpa using hfit) h1
    refine ⟨w.setRow g (cur.toList.take 0 ++ cs ++ cur.toList.drop (0 + cs.length)).toArray, ?_, ?_, fun B w0 hB hb => below_setRow hb hB _⟩
    · cases so with
      | none =>
        have hc0 := hL.cells_nil
        subst hc0
        have hn0 : n = 0 := by
          rcases Nat.eq_zero_or_pos n with h | h
          · exact h
          · have := Nat.mul_pos h hsz; simp at hl; omega
        subst hn0
        simp [Builtin.copy_, run_underlying hu, Builtin.lenOf, Builtin.firstCells, sizeOf, typeInfo, hq] at hst ⊢
        simp [hst]
      | some ad =>
        have hll := run_loadCells_list (P := Tryd.prog) w ad cs hL.cell_some
        rw [hl] at hll
        simp [Builtin.copy_, run_underlying hu, Builtin.lenOf, Builtin.firstCells, sizeOf, typeInfo, hq, hi, hmin, hll, hst]
    · rw [setRow_heap w g cur _ t _ hg]
      simp
theorem wpList_copy_rows {w : World} {ops : Array Oper} {rest : List Oper} {o : Oper} {a : Act} {Q : Exit → Act → World → Prop} (hgd : o.guard = none) (d s : Operand) (T : TypeId)
    (ho : o.op = .call { callee := .builtin .copy, args := #[d, s], argTypes := #[T, T] }) (e : TypeId) (sz : Nat) (hu : Tryd.prog.underlying T = some (.slice e)) (hs : (Tryd.prog.info? e).map (·.size) = some sz) (g dLen dCap : Nat) (so : Option Addr) (n c : Nat) (hd : a.eval d = .slice (some ⟨g, 0, none⟩) dLen dCap) (hx : a.eval s = .slice so n c) (cur : Array Value) (t : TypeId)
    (hg : w.heap[g]? = some (.cells cur t (0, 0))) (cs : List Value) (hl : cs.length = n * sz) (hsz : 0 < sz) (hn : n ≤ dLen) (hL : Lies w so cs) (hfit : cs.length ≤ cur.size) (h1 : ∀ v ∈ cs, v.oneCell' = true)
    (h : ∀ w', Hid (w'.heap[g]? = some (.cells (cs ++ cur.toList.drop cs.length).toArray t (0, 0))) → (∀ B w0, B ≤ g → Below B w0 w → Below B w0 w') → wpList Tryd.prog ops Q rest (a.put o.dst (goInt n)) w') : wpList Tryd.prog ops Q (o :: rest) a w := by
  obtain ⟨w', hr, h2, h3⟩ := run_copy_rows w T o.type e sz hu hs g dLen dCap so n c cur t hg cs hl hsz hn hL hfit h1
  refine wpList_plain hgd fun K hK => ?_
  unfold Oper.wp
  simp [execOp, ho, resolve, invoke, builtin, hd, hx, hr, Result.andThen]
  exact hK _ _ (h w' (Lib.hid h2) h3)
theorem made_rows {w : World} {base g n : Nat} (h : w.ownsRow base 57 5 (.slice (some ⟨g, 0, none⟩) n n) n (madeCells #[Value.int .i64 0, .int .i64 0, .int .i64 0, .int .i64 0, .int .i64 0] (n * 5)).toList) :
    w.heap[g]? = some (.cells (List.replicate (n * 5) (Value.int .i64 0)).toArray 57 (0, 0)) := by
  have e : (madeCells #[Value.int .i64 0, .int .i64 0, .int .i64 0, .int .i64 0, .int .i64 0] (n * 5)).toList = List.replicate (n * 5) (Value.int .i64 0) := by
    apply List.ext_getElem
    · simp [madeCells]
    · intro i h1 h2
      have h5 : i % 5 < 5 := Nat.mod_lt _ (by decide)
      simp only [madeCells, Array.toList_map, List.getElem_map, List.getElem_replicate]
      rcases (show i % 5 = 0 ∨ i % 5 = 1 ∨ i % 5 = 2 ∨ i % 5 = 3 ∨ i % 5 = 4 by omega) with h | h | h | h | h <;> simp [h]
  rw [e] at h
  rcases h.2 with ⟨h', _⟩ | ⟨g', cap', cur, h', _, hg, _, _, hcs, htake⟩
  · simp at h'
  · simp only [Value.slice.injEq, Option.some.injEq, Addr.mk.injEq, and_true, true_and] at h'
    obtain ⟨rfl, rfl⟩ := h'
    rw [hg]
    have : cur = (List.replicate (n * 5) (Value.int .i64 0)).toArray := by
      rw [← htake, List.take_of_length_le (by simp; omega)]
    rw [this]
end Go.Proofs.YtfjiikadnlhekaaDoor
