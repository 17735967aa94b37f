/-
  What is proved here: the reference's Encode and List of a program that may not be: the fault. Conditions: the program lies in memory.
-/
import Derived.Test.YtfjiikadnlhekaaDoorEnc
import Derived.Test.YtfjiikadnlhekaaDoorRef2
namespace Go.Proofs.YtfjiikadnlhekaaDoor
open Go.RowKit

set_option maxHeartbeats 1000000 in
set_option maxRecDepth 100000 in
theorem rencode_no (s : Spots) (P : Prg) (w : World) (hP : PAt w s P) (hno : checkErr P ≠ 0) :
    Calls Tryd.prog 15 #[pval s P] w fun e w' => e = .returned (.tuple #[.slice none 0 0, .int .i64 (checkErr P)]) ∧ Below w.heap.size w w' := by
  obtain ⟨fA, hbA⟩ := one_block w s P 27
  unfold pcells at fA hbA
  have x0 := fA.f0
  have x1 := fA.f1
  have x2 := fA.f2
  have x3 := fA.f3
  have x4 := fA.f4
  have x5 := fA.f5
  generalize hA : w.alloc (.cells #[.slice s.a0 P.ghost.length s.c0, .slice s.a1 P.vars.length s.c1, .slice s.a2 P.tags.length s.c2, .slice s.a3 P.on.length s.c3, .int .i64 P.miss, .slice s.a4 P.code.length s.c4] 27) = wA at *
  have hck := rcheck_any s P wA (hP.below hbA)
  generalize checkErr P = er at *
  have hne : (er == 0) = false := by rw [beq_eq_false_iff_ne]; exact hno
  have hne2 : (er != 0) = true := by rw [bne, hne]; rfl
  unfold pval at hck ⊢
  have HA := Lib.hid hA
  clear hP fA hA
  go_enter Tryd.func15, Tryd.ntmps15
  go_wp2_with fail
  rw [HA.out]
  refine hck.mono ?_
  rintro e w1 ⟨rfl, hb1⟩
  go_wp2
  go_ret2
  exact ⟨rfl, hbA.trans (hb1.mono hbA.size)⟩
set_option maxHeartbeats 1000000 in
set_option maxRecDepth 100000 in
theorem rlist_no (s : Spots) (P : Prg) (w : World) (hP : PAt w s P) (hno : checkErr P ≠ 0) :
    Calls Tryd.prog 16 #[pval s P] w fun e w' => e = .returned (.tuple #[.string ⟨#[]⟩, .int .i64 (checkErr P)]) ∧ Below w.heap.size w w' := by
  obtain ⟨fA, hbA⟩ := one_block w s P 27
  unfold pcells at fA hbA
  have x0 := fA.f0
  have x1 := fA.f1
  have x2 := fA.f2
  have x3 := fA.f3
  have x4 := fA.f4
  have x5 := fA.f5
  generalize hA : w.alloc (.cells #[.slice s.a0 P.ghost.length s.c0, .slice s.a1 P.vars.length s.c1, .slice s.a2 P.tags.length s.c2, .slice s.a3 P.on.length s.c3, .int .i64 P.miss, .slice s.a4 P.code.length s.c4] 27) = wA at *
  have hck := rcheck_any s P wA (hP.below hbA)
  generalize checkErr P = er at *
  have hne : (er == 0) = false := by rw [beq_eq_false_iff_ne]; exact hno
  have hne2 : (er != 0) = true := by rw [bne, hne]; rfl
  unfold pval at hck ⊢
  have HA := Lib.hid hA
  clear hP fA hA
  go_enter Tryd.func16, Tryd.ntmps16
  go_wp2_with fail
  rw [HA.out]
  refine hck.mono ?_
  rintro e w1 ⟨rfl, hb1⟩
  go_wp2
  go_ret2
  exact ⟨rfl, hbA.trans (hb1.mono hbA.size)⟩
end Go.Proofs.YtfjiikadnlhekaaDoor
