/-
  What is proved here: code's from, bounds, shapeOf. Conditions: the program lies in memory.
-/
import Derived.Test.YtfjiikadnlhekaaDoorTwin
import Derived.Great.BuildSlice
namespace Go.Proofs.YtfjiikadnlhekaaDoor
open Go.RowKit

/-- A string of a list of bytes. -/
def str (l : List UInt8) : ByteArray := ⟨l.toArray⟩
/-- The instructions' names and the kinds of their operands, by number. -/
def shapes : List (List UInt8 × List UInt8) := [([101, 110, 100], []), ([110, 117, 109], [110]), ([98, 111, 111, 108], [98]), ([118, 97, 114], [118]), ([108, 101, 110], [113]), ([99, 97, 112], [113]), ([115, 105, 122, 101], []), ([116, 111, 116, 97, 108], []), ([97, 116], [113]), ([116, 97, 103, 120], [116]), ([116, 97, 103, 101, 110, 100], [113, 101, 116]), ([109, 105, 110], []), ([109, 97, 120], []), ([110, 101, 103], []), ([110, 111, 116], []), ([109, 117, 108], []), ([100, 105, 118], []), ([97, 100, 100], []), ([115, 117, 98], []), ([101, 113], []), ([108, 116], []), ([108, 101], []), ([106, 117, 109, 112], [112]), ([101, 108, 115, 101], [112]), ([108, 111, 111, 112], [114]), ([116, 117, 114, 110], [112]), ([113, 117, 105, 116], [112]), ([97, 103, 97, 105, 110], [112]), ([115, 101, 116], [118]), ([109, 97, 114, 107, 120], [116]), ([109, 97, 114, 107, 101, 110, 100], [113, 101, 116]), ([105, 110, 115, 101, 114, 116], [113, 101]), ([109, 111, 118, 101], [113, 101]), ([102, 111, 114, 103, 101, 116], []), ([116, 97, 107, 101], [113, 101]), ([103, 105, 118, 101], [113, 101]), ([116, 101, 108, 108], []), ([108, 111, 111, 115, 101], []), ([115, 104, 105, 102, 116], [113, 101, 113, 101]), ([115, 112, 105, 108, 108], [113, 101, 113, 101]), ([101, 118, 105, 99, 116], [113, 101]), ([100, 114, 111, 112], [113, 101])]

def shape2 (x : List UInt8 × List UInt8) : List Value := [.string (str x.1), .string (str x.2)]
def shapeCells : Array Value := (flat shape2 shapes).toArray
/-- The same as cells, written out. -/
def shapeLit : Array Value := #[.string ⟨#[101, 110, 100]⟩, .string ⟨#[]⟩, .string ⟨#[110, 117, 109]⟩, .string ⟨#[110]⟩, .string ⟨#[98, 111, 111, 108]⟩, .string ⟨#[98]⟩, .string ⟨#[118, 97, 114]⟩, .string ⟨#[118]⟩, .string ⟨#[108, 101, 110]⟩, .string ⟨#[113]⟩, .string ⟨#[99, 97, 112]⟩, .string ⟨#[113]⟩, .string ⟨#[115, 105, 122, 101]⟩, .string ⟨#[]⟩, .string ⟨#[116, 111, 116, 97, 108]⟩, .string ⟨#[]⟩, .string ⟨#[97, 116]⟩, .string ⟨#[113]⟩, .string ⟨#[116, 97, 103, 120]⟩, .string ⟨#[116]⟩, .string ⟨#[116, 97, 103, 101, 110, 100]⟩, .string ⟨#[113, 101, 116]⟩, .string ⟨#[109, 105, 110]⟩, .string ⟨#[]⟩, .string ⟨#[109, 97, 120]⟩, .string ⟨#[]⟩, .string ⟨#[110, 101, 103]⟩, .string ⟨#[]⟩, .string ⟨#[110, 111, 116]⟩, .string ⟨#[]⟩, .string ⟨#[109, 117, 108]⟩, .string ⟨#[]⟩, .string ⟨#[100, 105, 118]⟩, .string ⟨#[]⟩, .string ⟨#[97, 100, 100]⟩, .string ⟨#[]⟩, .string ⟨#[115, 117, 98]⟩, .string ⟨#[]⟩, .string ⟨#[101, 113]⟩, .string ⟨#[]⟩, .string ⟨#[108, 116]⟩, .string ⟨#[]⟩, .string ⟨#[108, 101]⟩, .string ⟨#[]⟩, .string ⟨#[106, 117, 109, 112]⟩, .string ⟨#[112]⟩, .string ⟨#[101, 108, 115, 101]⟩, .string ⟨#[112]⟩, .string ⟨#[108, 111, 111, 112]⟩, .string ⟨#[114]⟩, .string ⟨#[116, 117, 114, 110]⟩, .string ⟨#[112]⟩, .string ⟨#[113, 117, 105, 116]⟩, .string ⟨#[112]⟩, .string ⟨#[97, 103, 97, 105, 110]⟩, .string ⟨#[112]⟩, .string ⟨#[115, 101, 116]⟩, .string ⟨#[118]⟩, .string ⟨#[109, 97, 114, 107, 120]⟩, .string ⟨#[116]⟩, .string ⟨#[109, 97, 114, 107, 101, 110, 100]⟩, .string ⟨#[113, 101, 116]⟩, .string ⟨#[105, 110, 115, 101, 114, 116]⟩, .string ⟨#[113, 101]⟩, .string ⟨#[109, 111, 118, 101]⟩, .string ⟨#[113, 101]⟩, .string ⟨#[102, 111, 114, 103, 101, 116]⟩, .string ⟨#[]⟩, .string ⟨#[116, 97, 107, 101]⟩, .string ⟨#[113, 101]⟩, .string ⟨#[103, 105, 118, 101]⟩, .string ⟨#[113, 101]⟩, .string ⟨#[116, 101, 108, 108]⟩, .string ⟨#[]⟩, .string ⟨#[108, 111, 111, 115, 101]⟩, .string ⟨#[]⟩, .string ⟨#[115, 104, 105, 102, 116]⟩, .string ⟨#[113, 101, 113, 101]⟩, .string ⟨#[115, 112, 105, 108, 108]⟩, .string ⟨#[113, 101, 113, 101]⟩, .string ⟨#[101, 118, 105, 99, 116]⟩, .string ⟨#[113, 101]⟩, .string ⟨#[100, 114, 111, 112]⟩, .string ⟨#[113, 101]⟩]
theorem shape_lit : shapeLit = shapeCells := by kernel_rfl

/-- A great array literal is built: its cells told. -/
theorem wpList_buildTo {P : Program} {ops : Array Oper} {rest : List Oper} {o : Oper} {a : Act} {w : World} {Q : Exit → Act → World → Prop} (hg : o.guard = none) (t : TypeId) (parts : Array (Nat × Operand)) (ho : o.op = .build t parts)
    (dst : Option Tmp) (hdst : o.dst = dst) (cells : Array Value) (hb : P.built t (parts.map fun (i, x) => (i, a.eval x)).toList = some cells)
    (h : wpList P ops Q rest (a.put dst (.agg cells)) w) : wpList P ops Q (o :: rest) a w := by
  subst hdst
  refine wpList_plain hg fun _ hK => ?_
  unfold Oper.wp execOp
  simp only [ho, Sem.run_bind, run_build w t _ _ hb, Result.andThen_ok]
  exact hK _ _ h

theorem from_any (n lo hi : Int) (w : World) : Calls Tryd.prog 32 #[.int .i64 n, .int .i64 lo, .int .i64 hi] w fun e w' => e = .returned (.bool (decide (lo ≤ n) && decide (n ≤ hi))) ∧ w = w' := by
  by_cases h : lo ≤ n
  · go_enter Tryd.func32, Tryd.ntmps32
    go_wp2
    go_ret
    exact ⟨ret_bool (by simp [h]), rfl⟩
  · go_enter Tryd.func32, Tryd.ntmps32
    go_wp2
    go_ret
    exact ⟨ret_bool (by simp; omega), rfl⟩

/-- The table, laid into its variable. -/
theorem table_stored (w : World) : ∃ W2, (storeCells ⟨w.heap.size + 1, 0, none⟩ shapeLit.toList).run Tryd.prog ((w.alloc (.cells #[.string ⟨#[]⟩, .string ⟨#[]⟩] 59)).alloc (.cells Tryd.zeroCells125 125)) = .ok () W2 ∧
    W2.heap[w.heap.size + 1]? = some (.cells shapeLit 125 (0, 0)) ∧ W2.heap[w.heap.size]? = some (.cells #[.string ⟨#[]⟩, .string ⟨#[]⟩] 59 (0, 0)) ∧ Below w.heap.size w W2 := by
  have hz : (w.alloc (.cells #[.string ⟨#[]⟩, .string ⟨#[]⟩] 59)).heap.size = w.heap.size + 1 := by simp
  have h1 : (w.alloc (.cells #[.string ⟨#[]⟩, .string ⟨#[]⟩] 59)).heap[w.heap.size]? = some (.cells #[.string ⟨#[]⟩, .string ⟨#[]⟩] 59 (0, 0)) := (MapKept.heap_alloc w _).1
  have h2 := (MapKept.heap_alloc (w.alloc (.cells #[.string ⟨#[]⟩, .string ⟨#[]⟩] 59)) (.cells Tryd.zeroCells125 125)).1
  rw [hz] at h2
  have hb : Below w.heap.size w ((w.alloc (.cells #[.string ⟨#[]⟩, .string ⟨#[]⟩] 59)).alloc (.cells Tryd.zeroCells125 125)) := ((Below.refl _ w).alloc (Nat.le_refl _) _).alloc (by omega) _
  have h3 : ((w.alloc (.cells #[.string ⟨#[]⟩, .string ⟨#[]⟩] 59)).alloc (.cells Tryd.zeroCells125 125)).heap[w.heap.size]? = some (.cells #[.string ⟨#[]⟩, .string ⟨#[]⟩] 59 (0, 0)) := (Below.heap_alloc _ _ _ (by omega)).trans h1
  generalize (w.alloc (.cells #[.string ⟨#[]⟩, .string ⟨#[]⟩] 59)).alloc (.cells Tryd.zeroCells125 125) = W at *
  have hone : ∀ v ∈ shapeLit.toList, v.oneCell' = true := by
    rw [shape_lit]
    intro v hv
    simp only [shapeCells, flat, List.mem_flatMap] at hv
    obtain ⟨x, _, hx⟩ := hv
    simp [shape2] at hx
    rcases hx with rfl | rfl <;> rfl
  have hl : shapeLit.toList.length = 84 := by kernel_rfl
  have hzl : (Tryd.zeroCells125).size = 84 := by kernel_rfl
  have hr := run_storeCells_from (P := Tryd.prog) (w.heap.size + 1) 125 shapeLit.toList 0 Tryd.zeroCells125 W h2 (by omega) hone
  have hrow : (Tryd.zeroCells125.toList.take 0 ++ shapeLit.toList).toArray = shapeLit := by simp
  rw [hrow] at hr
  refine ⟨_, hr, setRow_heap W _ _ _ _ _ h2, (setRow_other W _ _ _ (by omega)).trans h3, ?_⟩
  exact hb.grown (row := some (w.heap.size + 1)) ⟨rfl, rfl, rfl, by simp, fun k _ hk => setRow_other W _ k _ (fun e => hk (by rw [e]))⟩ hb.size (fun k hk => by have := Option.some.inj hk; omega)

theorem shape_cells (k : Nat) (hk : k < 42) : shapeLit[k * 2]? = some (.string (str (shapes.getD k ([], [])).1)) ∧ shapeLit[k * 2 + 1]? = some (.string (str (shapes.getD k ([], [])).2)) := by
  have hl : shapes.length = 42 := by kernel_rfl
  have hk' : k < shapes.length := by omega
  have hd : shapes.getD k ([], []) = shapes[k] := by simp [List.getD, List.getElem?_eq_getElem hk']
  rw [hd, shape_lit]
  have h0 := flat_get shape2 2 (fun _ => rfl) shapes k hk' 0 _ rfl
  have h1 := flat_get shape2 2 (fun _ => rfl) shapes k hk' 1 _ rfl
  exact ⟨by simpa [shapeCells] using h0, by simpa [shapeCells] using h1⟩
theorem shape_ret (tmps : Array Value) (W3 : World) (g : Nat) (s0 s1 : ByteArray) (ok : Bool) (h2 : tmps.getD 2 undef = .pointer (some ⟨g, 0, none⟩)) (h3 : tmps.getD 3 undef = .bool ok)
    (hblk : W3.heap[g]? = some (.cells #[.string s0, .string s1] 59 (0, 0))) : (results Tryd.f30 tmps).run Tryd.prog W3 = .ok (.tuple #[.agg #[.string s0, .string s1], .bool ok]) W3 := by
  have hl := run_loadVar_row (P := Tryd.prog) W3 g 59 59 #[.string s0, .string s1] (0, 0) _ hblk Tryd.underlying59 rfl (by kernel_rfl)
  rw [results_cell_tmp (p := 2) (u := 3) (ty := 59) (by kernel_rfl), h2, h3]
  simp [asAddr, hl, Result.andThen]

set_option maxHeartbeats 1000000 in
set_option maxRecDepth 1000000 in
theorem shape_in (k : Nat) (hk : k < 42) (w : World) : Calls Tryd.prog 30 #[.int .i64 (k : Int)] w fun e w' => e = .returned (.tuple #[.agg #[.string (str (shapes.getD k ([], [])).1), .string (str (shapes.getD k ([], [])).2)], .bool true]) ∧ Below w.heap.size w w' := by
  obtain ⟨W2, hst, hT, hR, hb⟩ := table_stored w
  obtain ⟨x0, x1⟩ := shape_cells k hk
  have c0 := (cell_at hT (k * 2)).trans x0
  have c1 := (cell_at hT (k * 2 + 1)).trans x1
  have r0 := cell_at hR 0
  have r1 := cell_at hR 1
  have q0 := free_at hR 0
  have q1 := free_at hR 1
  have HR := Lib.hid hR
  clear hT x0 x1 hR
  generalize str (shapes.getD k ([], [])).1 = s0 at *
  generalize str (shapes.getD k ([], [])).2 = s1 at *
  go_enter Tryd.func30, Tryd.ntmps30
  go_wp2_with (first | (refine wpList_buildTo rfl 125 _ rfl _ rfl shapeLit (by kernel_rfl) ?_))
  have hblk : ((W2.setCell ⟨w.heap.size, 0, none⟩ (.string s0)).setCell ⟨w.heap.size, 1, none⟩ (.string s1)).heap[w.heap.size]? = some (.cells #[.string s0, .string s1] 59 (0, 0)) := set_block (set_block HR.out 0 (.string s0)) 1 (.string s1)
  have hbl : Below w.heap.size w ((W2.setCell ⟨w.heap.size, 0, none⟩ (.string s0)).setCell ⟨w.heap.size, 1, none⟩ (.string s1)) := (hb.setCell (p := ⟨w.heap.size, 0, none⟩) (Nat.le_refl _) _).setCell (p := ⟨w.heap.size, 1, none⟩) (Nat.le_refl _) _
  exact bodyPost_ret_by (shape_ret _ _ w.heap.size s0 s1 true rfl rfl hblk) rfl ⟨rfl, hbl⟩

set_option maxHeartbeats 1000000 in
set_option maxRecDepth 1000000 in
theorem shape_out (n : Int) (hn : n < 0 ∨ 42 ≤ n) (w : World) : Calls Tryd.prog 30 #[.int .i64 n] w fun e w' => e = .returned (.tuple #[.agg #[.string ⟨#[]⟩, .string ⟨#[]⟩], .bool false]) ∧ Below w.heap.size w w' := by
  obtain ⟨W2, hst, hT, hR, hb⟩ := table_stored w
  have r0 := cell_at hR 0
  have r1 := cell_at hR 1
  have q0 := free_at hR 0
  have q1 := free_at hR 1
  have HR := Lib.hid hR
  clear hT hR
  have hblk : ((W2.setCell ⟨w.heap.size, 0, none⟩ (.string ⟨#[]⟩)).setCell ⟨w.heap.size, 1, none⟩ (.string ⟨#[]⟩)).heap[w.heap.size]? = some (.cells #[.string ⟨#[]⟩, .string ⟨#[]⟩] 59 (0, 0)) := set_block (set_block HR.out 0 (.string ⟨#[]⟩)) 1 (.string ⟨#[]⟩)
  have hbl : Below w.heap.size w ((W2.setCell ⟨w.heap.size, 0, none⟩ (.string ⟨#[]⟩)).setCell ⟨w.heap.size, 1, none⟩ (.string ⟨#[]⟩)) := (hb.setCell (p := ⟨w.heap.size, 0, none⟩) (Nat.le_refl _) _).setCell (p := ⟨w.heap.size, 1, none⟩) (Nat.le_refl _) _
  have HBK := Lib.hid hblk
  have HBL := Lib.hid hbl
  clear hblk hbl HR hb
  by_cases h : n < 0
  · clear hn
    go_enter Tryd.func30, Tryd.ntmps30
    go_wp2_with (first | (refine wpList_buildTo rfl 125 _ rfl _ rfl shapeLit (by kernel_rfl) ?_))
    exact bodyPost_ret_by (shape_ret _ _ w.heap.size _ _ false rfl rfl HBK.out) rfl ⟨rfl, HBL.out⟩
  · have h2 : 42 ≤ n := by omega
    clear hn
    go_enter Tryd.func30, Tryd.ntmps30
    go_wp2_with (first | (refine wpList_buildTo rfl 125 _ rfl _ rfl shapeLit (by kernel_rfl) ?_))
    exact bodyPost_ret_by (shape_ret _ _ w.heap.size _ _ false rfl rfl HBK.out) rfl ⟨rfl, HBL.out⟩
end Go.Proofs.YtfjiikadnlhekaaDoor
