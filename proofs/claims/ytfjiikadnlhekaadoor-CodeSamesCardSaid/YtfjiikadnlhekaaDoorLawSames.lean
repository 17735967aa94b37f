/-
  What is proved here: winnowlaw15.CodeSames answers true. Conditions: the programs lie in memory, the second within the form's reach; the library's table of powers of ten is laid.
-/
import Derived.Test.YtfjiikadnlhekaaDoorKnown
import Derived.Test.YtfjiikadnlhekaaDoorRSame
import Derived.Test.YtfjiikadnlhekaaDoorTwin
import Derived.Deep.RegionHeld3
namespace Go.Proofs.YtfjiikadnlhekaaDoor
open Go.RowKit

set_option maxHeartbeats 8000000 in
set_option maxRecDepth 100000 in
theorem sames_any (s : Spots) (P : Prg) (r : Spots) (Q : Prg) (w : World) (hP : PAt w s P) (_hsP : Small P) (hQ : PAt w r Q) (hsQ : Small Q) (hT : Tab w) :
    Calls Tryd.prog 8 #[pval s P, pval r Q] w fun e w' => e = .returned (.bool true) ∧ Below w.heap.size w w' := by
  obtain ⟨fA, fB, hbA⟩ := two_blocks w s r P Q 27
  unfold pcells at fA fB hbA
  generalize hA : (w.alloc (.cells #[.slice s.a0 P.ghost.length s.c0, .slice s.a1 P.vars.length s.c1, .slice s.a2 P.tags.length s.c2, .slice s.a3 P.on.length s.c3, .int .i64 P.miss, .slice s.a4 P.code.length s.c4] 27)).alloc (.cells #[.slice r.a0 Q.ghost.length r.c0, .slice r.a1 Q.vars.length r.c1, .slice r.a2 Q.tags.length r.c2, .slice r.a3 Q.on.length r.c3, .int .i64 Q.miss, .slice r.a4 Q.code.length r.c4] 27) = wA at fA fB hbA
  have hzA := hbA.size
  have HP := Lib.hid (hP.below hbA)
  have HQ := Lib.hid (hQ.below hbA)
  have HS := Lib.hid hsQ
  have HT := Lib.hid (hT.below hbA)
  have FA := Lib.hid fA
  have FB := Lib.hid fB
  have HBA := Lib.hid hbA
  clear hP hQ hsQ hT fA fB hbA
  go_enter Tryd.func8, Tryd.ntmps8
  unfold pval
  go_wp2_with fail
  try rw [hA]
  refine (known_any wA HT.out).mono ?_
  rintro e w1 ⟨rfl, hb⟩
  have hbA' : Below w1.heap.size w1 w1 := Below.refl _ _
  have h01 : Hid (Below w.heap.size w w1) := Lib.hid (HBA.out.trans (hb.mono hzA))
  have hP1 := HP.out.below hb
  have hQ1 := HQ.out.below hb
  have fA := FA.out.below hb
  have fB := FB.out.below hb
  have HP1 := Lib.hid hP1
  have HQ1 := Lib.hid hQ1
  have FA1 := Lib.hid fA
  have FB1 := Lib.hid fB
  have hS : ∀ w' : World, Below w1.heap.size w1 w' → (fun w' : World => w'.cell? ⟨w.heap.size, 0, none⟩ = some (.slice s.a0 P.ghost.length s.c0) ∧ w'.cell? ⟨w.heap.size, 1, none⟩ = some (.slice s.a1 P.vars.length s.c1) ∧ w'.cell? ⟨w.heap.size, 2, none⟩ = some (.slice s.a2 P.tags.length s.c2) ∧ w'.cell? ⟨w.heap.size, 3, none⟩ = some (.slice s.a3 P.on.length s.c3) ∧ w'.cell? ⟨w.heap.size, 4, none⟩ = some (.int .i64 P.miss) ∧ w'.cell? ⟨w.heap.size, 5, none⟩ = some (.slice s.a4 P.code.length s.c4) ∧ w'.cell? ⟨w.heap.size + 1, 0, none⟩ = some (.slice r.a0 Q.ghost.length r.c0) ∧ w'.cell? ⟨w.heap.size + 1, 1, none⟩ = some (.slice r.a1 Q.vars.length r.c1) ∧ w'.cell? ⟨w.heap.size + 1, 2, none⟩ = some (.slice r.a2 Q.tags.length r.c2) ∧ w'.cell? ⟨w.heap.size + 1, 3, none⟩ = some (.slice r.a3 Q.on.length r.c3) ∧ w'.cell? ⟨w.heap.size + 1, 4, none⟩ = some (.int .i64 Q.miss) ∧ w'.cell? ⟨w.heap.size + 1, 5, none⟩ = some (.slice r.a4 Q.code.length r.c4)) w' := fun w' hb => by
    have fA := FA1.out.below hb
    have fB := FB1.out.below hb
    exact ⟨fA.f0, fA.f1, fA.f2, fA.f3, fA.f4, fA.f5, fB.f0, fB.f1, fB.f2, fB.f3, fB.f4, fB.f5⟩
  have hs1 : ∀ wz, Below w1.heap.size w1 wz → Calls Tryd.prog 24 #[pval s P, pval r Q] wz _ := fun wz hb => same_any s r P Q wz (HP1.out.below hb) (HQ1.out.below hb)
  have hs2 : ∀ wz, Below w1.heap.size w1 wz → Calls Tryd.prog 22 #[pval s P, pval r Q] wz _ := fun wz hb => rsame_any s r P Q wz (HP1.out.below hb) (HQ1.out.below hb)
  have hs3 : ∀ wz, Below w1.heap.size w1 wz → Calls Tryd.prog 24 #[pval s P, pval s P] wz _ := fun wz hb => same_any s s P P wz (HP1.out.below hb) (HP1.out.below hb)
  have hs4 : ∀ wz, Below w1.heap.size w1 wz → Calls Tryd.prog 25 #[pval r Q] wz _ := fun wz hb => twin_any r Q wz (HQ1.out.below hb) HS.out
  have hs5 : ∀ wz q, Below w1.heap.size w1 wz → PAt wz q Q → Calls Tryd.prog 22 #[pval q Q, pval r Q] wz _ := fun wz q hb hq => rsame_any q r Q Q wz hq (HQ1.out.below hb)
  simp only [prgEq_self] at hs3 hs5
  generalize prgEq P Q = same at *
  unfold pval at hs1 hs2 hs3 hs4 hs5
  have heq : (same == same) = true := by simp
  clear hP1 hQ1 hb fA fB
  go_wp2_with fail
  go_region_held3 (fun w' : World => w'.cell? ⟨w.heap.size, 0, none⟩ = some (.slice s.a0 P.ghost.length s.c0) ∧ w'.cell? ⟨w.heap.size, 1, none⟩ = some (.slice s.a1 P.vars.length s.c1) ∧ w'.cell? ⟨w.heap.size, 2, none⟩ = some (.slice s.a2 P.tags.length s.c2) ∧ w'.cell? ⟨w.heap.size, 3, none⟩ = some (.slice s.a3 P.on.length s.c3) ∧ w'.cell? ⟨w.heap.size, 4, none⟩ = some (.int .i64 P.miss) ∧ w'.cell? ⟨w.heap.size, 5, none⟩ = some (.slice s.a4 P.code.length s.c4) ∧ w'.cell? ⟨w.heap.size + 1, 0, none⟩ = some (.slice r.a0 Q.ghost.length r.c0) ∧ w'.cell? ⟨w.heap.size + 1, 1, none⟩ = some (.slice r.a1 Q.vars.length r.c1) ∧ w'.cell? ⟨w.heap.size + 1, 2, none⟩ = some (.slice r.a2 Q.tags.length r.c2) ∧ w'.cell? ⟨w.heap.size + 1, 3, none⟩ = some (.slice r.a3 Q.on.length r.c3) ∧ w'.cell? ⟨w.heap.size + 1, 4, none⟩ = some (.int .i64 Q.miss) ∧ w'.cell? ⟨w.heap.size + 1, 5, none⟩ = some (.slice r.a4 Q.code.length r.c4)) (with_reducible first | exact hS _ hb5 | exact hS _ hb4 | exact hS _ hb3 | exact hS _ hb2 | exact hS _ hb1 | exact hS _ hb5.drew | exact hS _ hb4.drew | exact hS _ hb3.drew | exact hS _ hb2.drew | exact hS _ hb1.drew | exact hS _ hbA'.drew | exact hS _ hbA') (first | (go_at_call 24; refine (hs3 _ hb2).mono ?_; rintro e w4 ⟨rfl, hc3⟩; have hb3 : Below w1.heap.size w1 w4 := hb2.trans (hc3.mono hb2.size)) | (go_at_call 24; refine (hs1 _ hbA'.drew).mono ?_; rintro e w2 ⟨rfl, hc1⟩; have hb1 : Below w1.heap.size w1 w2 := hbA'.drew.trans (hc1.mono hbA'.drew.size)) | (go_at_call 22; refine (hs5 _ _ hb4 hq).mono ?_; rintro e w6 ⟨rfl, hc5⟩; have hb5 : Below w1.heap.size w1 w6 := hb4.trans (hc5.mono hb4.size)) | (go_at_call 22; refine (hs2 _ hb1).mono ?_; rintro e w3 ⟨rfl, hc2⟩; have hb2 : Below w1.heap.size w1 w3 := hb1.trans (hc2.mono hb1.size)) | (go_at_call 25; refine (hs4 _ hb3).mono ?_; rintro e w5 ⟨q, rfl, hq, hc4⟩; have hb4 : Below w1.heap.size w1 w5 := hb3.trans (hc4.mono hb3.size)))
  have h06 : Hid (Below w.heap.size w w6) := Lib.hid (h01.out.trans (hb5.mono (by have := h01.out.size; omega)))
  go_wp2
  go_ret
  exact ⟨rfl, h06.out⟩
end Go.Proofs.YtfjiikadnlhekaaDoor
