/-
  What is proved here: what Decode's deferred closure does: of a fault it makes the second result, of nothing nothing. Conditions: the results' variables lie in memory.
-/
import Derived.Test.YtfjiikadnlhekaaDoorRead
import Derived.Test.YtfjiikadnlhekaaDoorTwin
import Derived.Recover
import Derived.RegionTactic
namespace Go.Proofs.YtfjiikadnlhekaaDoor
open Go.RowKit

theorem idle_any (p q : Addr) (w : World) :
    CallsD Tryd.prog 50 #[.pointer (some p), .pointer (some q)] .returning w fun e u' w' => e = .returned (.tuple #[]) ∧ u' = .returning ∧ w' = w := by
  refine callsD_of_wpS Tryd.func50 rfl fun c₀ cs hu => ?_
  apply wpS_seq
  apply wpS_region
  simp [wpOpsS, go_sem, recoverD, hu, Tryd.ntmps50, Exit.thenS]
  refine wpS_of_wp ?_
  go_wp2
  cases c₀
  simp_all [bodyPostS, results, Tryd.results50]

/-- A fault is stored. -/
theorem caught_world (W : World) (f : Nat) (c k : Int) (hf : W.heap[f]? = some (.cells #[.int .i64 0, .int .i64 0] 46 (0, 0))) :
    ((W.setCell ⟨f, 0, none⟩ (.int .i64 c)).setCell ⟨f, 1, none⟩ (.int .i64 k)).heap[f]? = some (.cells #[.int .i64 c, .int .i64 k] 46 (0, 0)) ∧
      W.heap.size ≤ ((W.setCell ⟨f, 0, none⟩ (.int .i64 c)).setCell ⟨f, 1, none⟩ (.int .i64 k)).heap.size ∧ ∀ j, j ≠ f → ((W.setCell ⟨f, 0, none⟩ (.int .i64 c)).setCell ⟨f, 1, none⟩ (.int .i64 k)).heap[j]? = W.heap[j]? := by
  refine ⟨set_block (set_block hf 0 (.int .i64 c)) 1 (.int .i64 k), ?_, fun j h2 => ?_⟩
  · simp [World.setCell]
  · rw [set_other 1 _ h2, set_other 0 _ h2]
theorem six_size (w : World) (b : Nat) (v0 v1 v2 v3 v4 v5 : Value) : ((((((w.setCell ⟨b, 0, none⟩ v0).setCell ⟨b, 1, none⟩ v1).setCell ⟨b, 2, none⟩ v2).setCell ⟨b, 3, none⟩ v3).setCell ⟨b, 4, none⟩ v4).setCell ⟨b, 5, none⟩ v5).heap.size = w.heap.size := by simp [World.setCell]
/-- What became of a world. -/
structure Turned (W X : World) (r f : Nat) (c k : Int) : Prop where
  os : X.os = W.os
  tape : X.tape = W.tape
  output : X.output = W.output
  size : W.heap.size ≤ X.heap.size
  prg : X.heap[r]? = some (.cells #[.slice none 0 0, .slice none 0 0, .slice none 0 0, .slice none 0 0, .int .i64 0, .slice none 0 0] 27 (0, 0))
  flt : X.heap[f]? = some (.cells #[.int .i64 c, .int .i64 k] 46 (0, 0))
  block : ∀ j, j < W.heap.size → j ≠ r → j ≠ f → X.heap[j]? = W.heap[j]?
theorem turned_mk (W : World) (r f : Nat) (c k : Int) (hne : r ≠ f) (hr : W.heap[r]? = some (.cells #[.slice none 0 0, .slice none 0 0, .slice none 0 0, .slice none 0 0, .int .i64 0, .slice none 0 0] 27 (0, 0))) (hf : W.heap[f]? = some (.cells #[.int .i64 0, .int .i64 0] 46 (0, 0))) :
    Turned W ((((((((W.setCell ⟨r, 0, none⟩ (.slice none 0 0)).setCell ⟨r, 1, none⟩ (.slice none 0 0)).setCell ⟨r, 2, none⟩ (.slice none 0 0)).setCell ⟨r, 3, none⟩ (.slice none 0 0)).setCell ⟨r, 4, none⟩ (.int .i64 0)).setCell ⟨r, 5, none⟩ (.slice none 0 0)).setCell ⟨f, 0, none⟩ (.int .i64 c)).setCell ⟨f, 1, none⟩ (.int .i64 k)) r f c k := by
  have h6 := six_set hr (.slice none 0 0) (.slice none 0 0) (.slice none 0 0) (.slice none 0 0) (.int .i64 0) (.slice none 0 0)
  have h7 := fun j h => six_other W r j h (.slice none 0 0) (.slice none 0 0) (.slice none 0 0) (.slice none 0 0) (.int .i64 0) (.slice none 0 0)
  have hz := six_size W r (.slice none 0 0) (.slice none 0 0) (.slice none 0 0) (.slice none 0 0) (.int .i64 0) (.slice none 0 0)
  have hb := six_below (Below.refl 0 W) r (Nat.zero_le _) (.slice none 0 0) (.slice none 0 0) (.slice none 0 0) (.slice none 0 0) (.int .i64 0) (.slice none 0 0)
  generalize ((((((W.setCell ⟨r, 0, none⟩ (.slice none 0 0)).setCell ⟨r, 1, none⟩ (.slice none 0 0)).setCell ⟨r, 2, none⟩ (.slice none 0 0)).setCell ⟨r, 3, none⟩ (.slice none 0 0)).setCell ⟨r, 4, none⟩ (.int .i64 0)).setCell ⟨r, 5, none⟩ (.slice none 0 0)) = W6 at *
  obtain ⟨k1, k2, k3⟩ := caught_world W6 f c k ((h7 f (fun e => hne e.symm)).trans hf)
  exact ⟨hb.os, hb.tape, hb.output, by omega, (k3 r hne).trans h6, k1, fun j _ h1 h2 => (k3 j h2).trans (h7 j h1)⟩
theorem Turned.drew {W X : World} {r f : Nat} {c k : Int} (h : Turned W X r f c k) : Turned W X.drew r f c k := ⟨h.os, h.tape, h.output, h.size, h.prg, h.flt, h.block⟩

set_option maxHeartbeats 2000000 in
set_option maxRecDepth 100000 in
theorem caught_any (r f : Nat) (c k : Int) (w : World) (hne : r ≠ f)
    (hr : w.heap[r]? = some (.cells #[.slice none 0 0, .slice none 0 0, .slice none 0 0, .slice none 0 0, .int .i64 0, .slice none 0 0] 27 (0, 0))) (hf : w.heap[f]? = some (.cells #[.int .i64 0, .int .i64 0] 46 (0, 0))) :
    CallsD Tryd.prog 50 #[.pointer (some ⟨r, 0, none⟩), .pointer (some ⟨f, 0, none⟩)] (.panicking [{ v := faultV c k, recovered := false }]) w fun e u' w' => e = .returned (.tuple #[]) ∧ u' = .panicking [{ v := faultV c k, recovered := true }] ∧ Turned w w' r f c k := by
  have hrl := (Array.getElem?_eq_some_iff.1 hr).1
  have hfl := (Array.getElem?_eq_some_iff.1 hf).1
  have hrW := (Below.heap_alloc w (.cells #[.int .i64 c, .int .i64 k] 102) _ hrl).trans hr
  have hfW := (Below.heap_alloc w (.cells #[.int .i64 c, .int .i64 k] 102) _ hfl).trans hf
  have hxW := (MapKept.heap_alloc w (.cells #[.int .i64 c, .int .i64 k] 102)).1
  have hbW := (Below.refl w.heap.size w).alloc (Nat.le_refl _) (.cells #[.int .i64 c, .int .i64 k] 102)
  have HRW := Lib.hid hrW
  have HFW := Lib.hid hfW
  have HXW := Lib.hid hxW
  have HBW := Lib.hid hbW
  clear hrW hfW hxW hbW
  refine callsD_of_wpS Tryd.func50 rfl fun c₀ cs hu => ?_
  apply wpS_seq
  apply wpS_region
  simp [wpOpsS, go_sem, recoverD, hu, Tryd.ntmps50, Exit.thenS, faultV]
  refine wpS_of_wp ?_
  have e : (#[Value.pointer (some ⟨r, 0, none⟩), Value.pointer (some ⟨f, 0, none⟩)] ++ (Array.replicate 12 undef).setIfInBounds 3 (Value.iface 102 (Value.agg #[Value.int IntKind.i64 c, Value.int IntKind.i64 k]))) =
    #[Value.pointer (some ⟨r, 0, none⟩), Value.pointer (some ⟨f, 0, none⟩), undef, undef, undef, Value.iface 102 (Value.agg #[Value.int IntKind.i64 c, Value.int IntKind.i64 k]), undef, undef, undef, undef, undef, undef, undef, undef] := by rfl
  rw [e]
  have hta : ∀ w : World, (Instr.typeAssert (Value.iface 102 (Value.agg #[Value.int IntKind.i64 c, Value.int IntKind.i64 k])) 20 102 true).run Tryd.prog w = .ok (.tuple #[.agg #[Value.int IntKind.i64 c, Value.int IntKind.i64 k], .bool true]) w := fun _ => by kernel_rfl
  clear hr hf e
  go_wp2
  generalize w.alloc (.cells #[.int .i64 c, .int .i64 k] 102) = W at *
  have c0 := cell_at HRW.out 0
  have c1 := cell_at HRW.out 1
  have c2 := cell_at HRW.out 2
  have c3 := cell_at HRW.out 3
  have c4 := cell_at HRW.out 4
  have c5 := cell_at HRW.out 5
  have d0 := cell_at HFW.out 0
  have d1 := cell_at HFW.out 1
  have x0 := cell_at HXW.out 0
  have x1 := cell_at HXW.out 1
  have q0 := free_at HRW.out 0
  have q1 := free_at HRW.out 1
  have q2 := free_at HRW.out 2
  have q3 := free_at HRW.out 3
  have q4 := free_at HRW.out 4
  have q5 := free_at HRW.out 5
  have p0 := free_at HFW.out 0
  have p1 := free_at HFW.out 1
  have hnf : ¬ f = r := fun e => hne e.symm
  have hrx : ¬ r = w.heap.size := by omega
  have hfx : ¬ f = w.heap.size := by omega
  have hxr : ¬ w.heap.size = r := by omega
  have hxf : ¬ w.heap.size = f := by omega
  go_region
  have hT := (turned_mk W r f c k hne HRW.out HFW.out).drew
  have HT : Turned w _ r f c k := ⟨hT.os.trans HBW.out.os, hT.tape.trans HBW.out.tape, hT.output.trans HBW.out.output, Nat.le_trans HBW.out.size hT.size, hT.prg, hT.flt, fun j hj h1 h2 => (hT.block j (by have := HBW.out.size; omega) h1 h2).trans (HBW.out.block j hj)⟩
  clear hT c0 c1 c2 c3 c4 c5 d0 d1 x0 x1 q0 q1 q2 q3 q4 q5 p0 p1
  refine ⟨rfl, _, rfl, .tuple #[], ?_, rfl, rfl, HT⟩
  simp [results, Tryd.results50]
end Go.Proofs.YtfjiikadnlhekaaDoor
