/-
  What is proved here: the steps of CodeOwn that put two programs or two byte rows together and append them. Conditions: none.
-/
import Derived.Test.YtfjiikadnlhekaaDoorMade
import Derived.Great.BuildSlice
import Derived.Deep.AppendLies
namespace Go.Proofs.YtfjiikadnlhekaaDoor
open Go.RowKit

theorem range12 : Array.range (2 * 6) = #[0, 1, 2, 3, 4, 5, 6, 7, 8, 9, 10, 11] := by decide
theorem fill_two6 (z a0 a1 a2 a3 a4 a5 b0 b1 b2 b3 b4 b5 : Value) :
    Instr.fill (fun i => some (i * 6, 6)) ((Array.range (2 * 6)).map (z.cells[· % z.cells.size]!)) [(0, .agg #[a0, a1, a2, a3, a4, a5]), (1, .agg #[b0, b1, b2, b3, b4, b5])] = some #[a0, a1, a2, a3, a4, a5, b0, b1, b2, b3, b4, b5] := by
  have ha : (Value.agg #[a0, a1, a2, a3, a4, a5]).cells = #[a0, a1, a2, a3, a4, a5] := rfl
  have hb : (Value.agg #[b0, b1, b2, b3, b4, b5]).cells = #[b0, b1, b2, b3, b4, b5] := rfl
  rw [range12]
  simp [Instr.fill, ha, hb]

theorem run_two52 (w : World) (s r : Spots) (P : Prg) :
    (Instr.buildSlice 52 2 #[(0, pval s P), (1, pval r P)]).run Tryd.prog w = .ok (.slice (some ⟨w.heap.size, 0, none⟩) 2 2) (w.alloc (.cells (pcl P s ++ pcl P r).toArray 27)) := by
  obtain ⟨i27, hi27, hz0, hz1, hz2⟩ := info_parts info27
  refine run_buildSlice w 52 27 2 _ _ i27 _ Tryd.underlying52 hi27 hz0 (by rw [hz1]; omega) (by rw [hz1]; omega) ?_
  rw [hz1]
  exact fill_two6 _ _ _ _ _ _ _ _ _ _ _ _ _

theorem step_two52 {ops : Array Oper} {o : Oper} {a : Act} {w : World} {K : Act → World → Prop} {Q : Exit → Act → World → Prop} {E : Prop} (hgd : o.guard = none) (x y : Operand)
    (ho : o.op = .buildSlice 52 2 #[(0, x), (1, y)]) (P : Prg) (s r : Spots) (hx : a.eval x = pval s P) (hy : a.eval y = pval r P)
    (h : K (a.put o.dst (.slice (some ⟨w.heap.size, 0, none⟩) 2 2)) (w.alloc (.cells (pcl P s ++ pcl P r).toArray 27))) :
    if Region.wanted o (yielded ops a.tmps) = true then Oper.wp Tryd.prog o a w K Q else E := by
  have hw : Region.wanted o (yielded ops a.tmps) = true := by simp [Region.wanted, hgd]
  rw [if_pos hw]
  unfold Oper.wp execOp
  have h2 := run_two52 w s r P
  simp only [ho, Sem.run_bind, List.map_toArray, List.map_cons, List.map_nil, hx, hy, h2, Result.andThen_ok]
  exact h

theorem step_add52 {ops : Array Oper} {o : Oper} {a : Act} {w : World} {K : Act → World → Prop} {Q : Exit → Act → World → Prop} {E : Prop} (hgd : o.guard = none) (x y : Operand)
    (ho : o.op = .call { callee := .builtin .append, args := #[x, y], argTypes := #[52, 52] }) (P : Prg) (S : List Spots) (s r : Spots) (v : Value) (b : Nat) (hx : a.eval x = v) (hy : a.eval y = .slice (some ⟨b, 0, none⟩) 2 2)
    (hown : w.ownsRow 0 27 6 v S.length (flat (pcl P) S)) (hb : w.heap[b]? = some (.cells (pcl P s ++ pcl P r).toArray 27 (0, 0))) (hS : S.length ≤ 6)
    (h : ∀ g cap w', w'.ownsRow 0 27 6 (.slice (some ⟨g, 0, none⟩) (S ++ [s, r]).length cap) (S ++ [s, r]).length (flat (pcl P) (S ++ [s, r])) → w.grownBy w' v.ownBlock → (v.ownBlock = some g ∨ g = w.heap.size) → K (a.put o.dst (.slice (some ⟨g, 0, none⟩) (S ++ [s, r]).length cap)) w') :
    if Region.wanted o (yielded ops a.tmps) = true then Oper.wp Tryd.prog o a w K Q else E := by
  obtain ⟨i27, hi27, hz0, hz1, hz2⟩ := info_parts info27
  refine step_append_lies w hgd x y 52 ho 0 27 i27 _ 6 128 Tryd.underlying52 hi27 hz0 hz1 hz2 rfl (by omega) v S.length (flat (pcl P) S) hx hown ⟨b, 0, none⟩ 2 2 (pcl P s ++ pcl P r) hy (by simp [pcl_length])
    (World.news_of_block hb) (fun u hu => (List.mem_append.1 hu).elim (fun h => pcl_one P s u (by simpa [pcl] using h)) (fun h => pcl_one P r u (by simpa [pcl] using h))) (by omega) (by unfold maxLen; omega) (by omega) (Nat.zero_le _) w.heap.size rfl ?_
  intro g cap w' h1 h2 h3 _
  have e1 : (S ++ [s, r]).length = S.length + 2 := by simp
  have e2 : flat (pcl P) (S ++ [s, r]) = flat (pcl P) S ++ (pcl P s ++ pcl P r) := by simp [flat]
  have k := h g cap w' (by rw [e1, e2]; exact h1) h2 h3
  rw [e1] at k
  exact k

theorem run_two53 (w : World) (n : Nat) (t u : Nat × Nat) :
    (Instr.buildSlice 53 2 #[(0, bval n t), (1, bval n u)]).run Tryd.prog w = .ok (.slice (some ⟨w.heap.size, 0, none⟩) 2 2) (w.alloc (.cells #[bval n t, bval n u] 32)) := by
  obtain ⟨i32, hi32, hz0, hz1, hz2⟩ := info_parts info32
  refine run_buildSlice w 53 32 2 _ _ i32 _ Tryd.underlying53 hi32 hz0 (by rw [hz1]; omega) (by rw [hz1]; omega) ?_
  rw [hz1]
  have hc : ∀ x, (bval n x).cells = #[bval n x] := fun _ => rfl
  have hr : Array.range (2 * 1) = #[0, 1] := by decide
  rw [hr]
  simp [Instr.fill, hc]

theorem wpList_two53 {ops : Array Oper} {rest : List Oper} {o : Oper} {a : Act} {w : World} {Q : Exit → Act → World → Prop} (hgd : o.guard = none) (x y : Operand)
    (ho : o.op = .buildSlice 53 2 #[(0, x), (1, y)]) (n : Nat) (t u : Nat × Nat) (hx : a.eval x = bval n t) (hy : a.eval y = bval n u)
    (h : wpList Tryd.prog ops Q rest (a.put o.dst (.slice (some ⟨w.heap.size, 0, none⟩) 2 2)) (w.alloc (.cells #[bval n t, bval n u] 32))) : wpList Tryd.prog ops Q (o :: rest) a w := by
  refine wpList_plain hgd fun _ hK => ?_
  unfold Oper.wp execOp
  have h2 := run_two53 w n t u
  simp only [ho, Sem.run_bind, List.map_toArray, List.map_cons, List.map_nil, hx, hy, h2, Result.andThen_ok]
  exact hK _ _ h

theorem wpList_add53 {ops : Array Oper} {rest : List Oper} {o : Oper} {a : Act} {w : World} {Q : Exit → Act → World → Prop} (hgd : o.guard = none) (x y : Operand)
    (ho : o.op = .call { callee := .builtin .append, args := #[x, y], argTypes := #[53, 53] }) (n : Nat) (T : List (Nat × Nat)) (t u : Nat × Nat) (v : Value) (b : Nat) (hx : a.eval x = v) (hy : a.eval y = .slice (some ⟨b, 0, none⟩) 2 2)
    (hown : w.ownsRow 0 32 1 v T.length (T.map (bval n))) (hb : w.heap[b]? = some (.cells #[bval n t, bval n u] 32 (0, 0))) (hT : T.length ≤ 6)
    (h : ∀ g cap w', w'.ownsRow 0 32 1 (.slice (some ⟨g, 0, none⟩) (T ++ [t, u]).length cap) (T ++ [t, u]).length ((T ++ [t, u]).map (bval n)) → w.grownBy w' v.ownBlock → (v.ownBlock = some g ∨ g = w.heap.size) → wpList Tryd.prog ops Q rest (a.put o.dst (.slice (some ⟨g, 0, none⟩) (T ++ [t, u]).length cap)) w') : wpList Tryd.prog ops Q (o :: rest) a w := by
  obtain ⟨i32, hi32, hz0, hz1, hz2⟩ := info_parts info32
  refine wpList_push w hgd x y 53 ho 0 32 i32 _ 1 24 Tryd.underlying53 hi32 hz0 hz1 hz2 rfl (by omega) v T.length (T.map (bval n)) hx hown ⟨b, 0, none⟩ 2 2 [bval n t, bval n u] hy rfl
    (World.news_of_block hb) (fun v hv => by simp at hv; rcases hv with rfl | rfl <;> rfl) (by omega) (by unfold maxLen; omega) (by omega) (Nat.zero_le _) ?_
  intro g cap w' h1 _ h2 h3
  have e1 : (T ++ [t, u]).length = T.length + 2 := by simp
  have e2 : (T ++ [t, u]).map (bval n) = T.map (bval n) ++ [bval n t, bval n u] := by simp
  have k := h g cap w' (by rw [e1, e2]; exact h1) h2 h3
  rw [e1] at k
  exact k
/-- The six cells of a program's box. -/
theorem RBox.six {w : World} {col : Nat → Nat} {c b : Nat} {r : Spots} {P : Prg} (h : RBox w col c b (.cells (pcells r P) 27 (0, 0))) : w.cell? ⟨b, 0, none⟩ = some (.slice r.a0 P.ghost.length r.c0) ∧ w.cell? ⟨b, 1, none⟩ = some (.slice r.a1 P.vars.length r.c1) ∧ w.cell? ⟨b, 2, none⟩ = some (.slice r.a2 P.tags.length r.c2) ∧ w.cell? ⟨b, 3, none⟩ = some (.slice r.a3 P.on.length r.c3) ∧ w.cell? ⟨b, 4, none⟩ = some (.int .i64 P.miss) ∧ w.cell? ⟨b, 5, none⟩ = some (.slice r.a4 P.code.length r.c4) :=
  ⟨cell_at h.at_ 0, cell_at h.at_ 1, cell_at h.at_ 2, cell_at h.at_ 3, cell_at h.at_ 4, cell_at h.at_ 5⟩
end Go.Proofs.YtfjiikadnlhekaaDoor
