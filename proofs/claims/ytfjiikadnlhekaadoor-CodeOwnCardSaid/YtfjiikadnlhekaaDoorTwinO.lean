/-
  What is proved here: code.Twin makes a program whose lists are each in a row of the call's own. Conditions: the program lies in memory.
-/
import Derived.Test.YtfjiikadnlhekaaDoorOwn1
import Derived.Test.YtfjiikadnlhekaaDoorTwin
import Derived.Test.YtfjiikadnlhekaaDoorMid
namespace Go.Proofs.YtfjiikadnlhekaaDoor
open Go.RowKit

set_option maxHeartbeats 4000000 in
set_option maxRecDepth 100000 in
theorem twino_any (s : Spots) (P : Prg) (w : World) (hP : PAt w s P) (hs : Small P) :
    Calls Tryd.prog 25 #[pval s P] w fun e w' => ∃ r, e = .returned (pval r P) ∧ POwn w' w.heap.size r P ∧ Below w.heap.size w w' := by
  obtain ⟨fA, hR, hbA, hlt⟩ := twin_blocks w s P
  unfold pcells at fA hR hbA hlt
  generalize hA : (w.alloc (.cells #[.slice s.a0 P.ghost.length s.c0, .slice s.a1 P.vars.length s.c1, .slice s.a2 P.tags.length s.c2, .slice s.a3 P.on.length s.c3, .int .i64 P.miss, .slice s.a4 P.code.length s.c4] 27)).alloc (.cells #[.slice none 0 0, .slice none 0 0, .slice none 0 0, .slice none 0 0, .int .i64 0, .slice none 0 0] 27) = wA at fA hR hbA hlt
  have HP := Lib.hid (hP.below hbA)
  have HS := Lib.hid hs
  have FA := Lib.hid fA
  have hbA' : Below wA.heap.size wA wA := Below.refl _ _
  have hzA := hbA.size
  have hS : ∀ w' : World, Below wA.heap.size wA w' → (fun w' : World => w'.cell? ⟨w.heap.size, 0, none⟩ = some (.slice s.a0 P.ghost.length s.c0) ∧ w'.cell? ⟨w.heap.size, 1, none⟩ = some (.slice s.a1 P.vars.length s.c1) ∧ w'.cell? ⟨w.heap.size, 2, none⟩ = some (.slice s.a2 P.tags.length s.c2) ∧ w'.cell? ⟨w.heap.size, 3, none⟩ = some (.slice s.a3 P.on.length s.c3) ∧ w'.cell? ⟨w.heap.size, 4, none⟩ = some (.int .i64 P.miss) ∧ w'.cell? ⟨w.heap.size, 5, none⟩ = some (.slice s.a4 P.code.length s.c4)) w' := fun w' hb => by
    have f := FA.out.below hb
    exact ⟨f.f0, f.f1, f.f2, f.f3, f.f4, f.f5⟩
  have hS3 : ∀ w' : World, w'.heap[w.heap.size]? = wA.heap[w.heap.size]? → (fun w' : World => w'.cell? ⟨w.heap.size, 0, none⟩ = some (.slice s.a0 P.ghost.length s.c0) ∧ w'.cell? ⟨w.heap.size, 1, none⟩ = some (.slice s.a1 P.vars.length s.c1) ∧ w'.cell? ⟨w.heap.size, 2, none⟩ = some (.slice s.a2 P.tags.length s.c2) ∧ w'.cell? ⟨w.heap.size, 3, none⟩ = some (.slice s.a3 P.on.length s.c3) ∧ w'.cell? ⟨w.heap.size, 4, none⟩ = some (.int .i64 P.miss) ∧ w'.cell? ⟨w.heap.size, 5, none⟩ = some (.slice s.a4 P.code.length s.c4)) w' := fun w' hb => by
    have f := FA.out
    have hc : ∀ j, w'.cell? ⟨w.heap.size, j, none⟩ = wA.cell? ⟨w.heap.size, j, none⟩ := fun j => World.cell?_of_block hb
    exact ⟨(hc 0).trans f.f0, (hc 1).trans f.f1, (hc 2).trans f.f2, (hc 3).trans f.f3, (hc 4).trans f.f4, (hc 5).trans f.f5⟩
  have hA1 : w.heap.size < wA.heap.size := by omega
  have HR := Lib.hid hR
  clear hP fA hR hs
  go_enter Tryd.func25, Tryd.ntmps25
  unfold pval
  go_wp2_with fail
  try rw [hA]
  go_region_held3 (fun w' : World => w'.cell? ⟨w.heap.size, 0, none⟩ = some (.slice s.a0 P.ghost.length s.c0) ∧ w'.cell? ⟨w.heap.size, 1, none⟩ = some (.slice s.a1 P.vars.length s.c1) ∧ w'.cell? ⟨w.heap.size, 2, none⟩ = some (.slice s.a2 P.tags.length s.c2) ∧ w'.cell? ⟨w.heap.size, 3, none⟩ = some (.slice s.a3 P.on.length s.c3) ∧ w'.cell? ⟨w.heap.size, 4, none⟩ = some (.int .i64 P.miss) ∧ w'.cell? ⟨w.heap.size, 5, none⟩ = some (.slice s.a4 P.code.length s.c4)) (with_reducible first | exact hS3 _ ((six_other _ _ _ (by omega) _ _ _ _ _ _).trans (hb5.block _ hA1)) | exact hS _ hb5 | exact hS _ hb4 | exact hS _ hb3 | exact hS _ hb2 | exact hS _ hb1 | exact hS _ hb5.drew | exact hS _ hb4.drew | exact hS _ hb3.drew | exact hS _ hb2.drew | exact hS _ hb1.drew | exact hS _ hbA'.drew | exact hS _ hbA') (first | (go_at_call 63; refine (cloneo_bool _ _ P.ghost _ ?_ HP.out.n0 HS.out.ghost).mono ?_; (exact (HP.out.below hbA').ghost); rintro e w1 ⟨b0, d0, rfl, o0, hc1⟩; have hb1 : Below wA.heap.size wA w1 := hbA'.drew.trans (hc1.mono (Nat.le_refl _))) | (go_at_call 64; refine (cloneo_var3 _ _ P.vars _ ?_ HP.out.n1 HS.out.vars).mono ?_; (exact (HP.out.below hb1).vars); rintro e w2 ⟨b1, d1, rfl, o1, hc2⟩; have hb2 : Below wA.heap.size wA w2 := hb1.trans (hc2.mono hb1.size)) | (go_at_call 65; refine (cloneo_int _ _ P.on _ ?_ HP.out.n3 HS.out.on).mono ?_; (exact (HP.out.below hb3).on); rintro e w4 ⟨b3, d3, rfl, o3, hc4⟩; have hb4 : Below wA.heap.size wA w4 := hb3.trans (hc4.mono hb3.size)) | (go_at_call 65; refine (cloneo_int _ _ P.tags _ ?_ HP.out.n2 HS.out.tags).mono ?_; (exact (HP.out.below hb2).tags); rintro e w3 ⟨b2, d2, rfl, o2, hc3⟩; have hb3 : Below wA.heap.size wA w3 := hb2.trans (hc3.mono hb2.size)) | (go_at_call 66; refine (cloneo_ins5 _ _ P.code _ ?_ HP.out.n4 HS.out.code).mono ?_; (exact (HP.out.below hb4).code); rintro e w5 ⟨b4, d4, rfl, o4, hc5⟩; have hb5 : Below wA.heap.size wA w5 := hb4.trans (hc5.mono hb4.size); have hr5 := (hb5.block _ hlt).trans HR.out; have r0 := cell_at hr5 0; have r1 := cell_at hr5 1; have r2 := cell_at hr5 2; have r3 := cell_at hr5 3; have r4 := cell_at hr5 4; have r5 := cell_at hr5 5; have q0 := free_at hr5 0; have q1 := free_at hr5 1; have q2 := free_at hr5 2; have q3 := free_at hr5 3; have q4 := free_at hr5 4; have q5 := free_at hr5 5))
  have z1 := hb1.size
  have z2 := hb2.size
  have z3 := hb3.size
  have z4 := hb4.size
  have hle : w.heap.size ≤ w.heap.size + 1 := by omega
  have so := fun k h => six_other w5 (w.heap.size + 1) k h (.slice b0 P.ghost.length d0) (.slice b1 P.vars.length d1) (.slice b2 P.tags.length d2) (.slice b3 P.on.length d3) (.int .i64 P.miss) (.slice b4 P.code.length d4)
  have sb := six_set hr5 (.slice b0 P.ghost.length d0) (.slice b1 P.vars.length d1) (.slice b2 P.tags.length d2) (.slice b3 P.on.length d3) (.int .i64 P.miss) (.slice b4 P.code.length d4)
  have sw := six_below (hbA.trans (hb5.mono hzA)) (w.heap.size + 1) hle (.slice b0 P.ghost.length d0) (.slice b1 P.vars.length d1) (.slice b2 P.tags.length d2) (.slice b3 P.on.length d3) (.int .i64 P.miss) (.slice b4 P.code.length d4)
  have sz : w5.heap.size ≤ (((((((w5.setCell ⟨w.heap.size + 1, 0, none⟩ (.slice b0 P.ghost.length d0)).setCell ⟨w.heap.size + 1, 1, none⟩ (.slice b1 P.vars.length d1)).setCell ⟨w.heap.size + 1, 2, none⟩ (.slice b2 P.tags.length d2)).setCell ⟨w.heap.size + 1, 3, none⟩ (.slice b3 P.on.length d3)).setCell ⟨w.heap.size + 1, 4, none⟩ (.int .i64 P.miss)).setCell ⟨w.heap.size + 1, 5, none⟩ (.slice b4 P.code.length d4))).heap.size := by simp [World.setCell]
  generalize ((((((w5.setCell ⟨w.heap.size + 1, 0, none⟩ (.slice b0 P.ghost.length d0)).setCell ⟨w.heap.size + 1, 1, none⟩ (.slice b1 P.vars.length d1)).setCell ⟨w.heap.size + 1, 2, none⟩ (.slice b2 P.tags.length d2)).setCell ⟨w.heap.size + 1, 3, none⟩ (.slice b3 P.on.length d3)).setCell ⟨w.heap.size + 1, 4, none⟩ (.int .i64 P.miss)).setCell ⟨w.heap.size + 1, 5, none⟩ (.slice b4 P.code.length d4)) = wF at so sb sw sz ⊢
  have z5 := hb5.size
  have y2 := hc2.size
  have y3 := hc3.size
  have y4 := hc4.size
  have y5 := hc5.size
  have o0_2 := own_keep (w' := w2) o0 (fun j hj => hc2.block j (o0.lt j hj).2)
  have o0_3 := own_keep (w' := w3) o0_2 (fun j hj => hc3.block j (o0_2.lt j hj).2)
  have o0_4 := own_keep (w' := w4) o0_3 (fun j hj => hc4.block j (o0_3.lt j hj).2)
  have o0_5 := own_keep (w' := w5) o0_4 (fun j hj => hc5.block j (o0_4.lt j hj).2)
  have p0 := own_keep (w' := wF) o0_5 (fun j hj => so j (by have h : wA.heap.size ≤ j := (o0.lt j hj).1; omega))
  have o1_3 := own_keep (w' := w3) o1 (fun j hj => hc3.block j (o1.lt j hj).2)
  have o1_4 := own_keep (w' := w4) o1_3 (fun j hj => hc4.block j (o1_3.lt j hj).2)
  have o1_5 := own_keep (w' := w5) o1_4 (fun j hj => hc5.block j (o1_4.lt j hj).2)
  have p1 := own_keep (w' := wF) o1_5 (fun j hj => so j (by have h : w1.heap.size ≤ j := (o1.lt j hj).1; omega))
  have o2_4 := own_keep (w' := w4) o2 (fun j hj => hc4.block j (o2.lt j hj).2)
  have o2_5 := own_keep (w' := w5) o2_4 (fun j hj => hc5.block j (o2_4.lt j hj).2)
  have p2 := own_keep (w' := wF) o2_5 (fun j hj => so j (by have h : w2.heap.size ≤ j := (o2.lt j hj).1; omega))
  have o3_5 := own_keep (w' := w5) o3 (fun j hj => hc5.block j (o3.lt j hj).2)
  have p3 := own_keep (w' := wF) o3_5 (fun j hj => so j (by have h : w3.heap.size ≤ j := (o3.lt j hj).1; omega))
  have p4 := own_keep (w' := wF) o4 (fun j hj => so j (by have h : w4.heap.size ≤ j := (o4.lt j hj).1; omega))
  have KK : Hid (POwn wF w.heap.size ⟨b0, d0, b1, d1, b2, d2, b3, d3, b4, d4⟩ P) := Lib.hid
    ⟨w1.heap.size, w2.heap.size, w3.heap.size, w4.heap.size, w5.heap.size, by omega, hc2.size, hc3.size, hc4.size, hc5.size, sz,
     ⟨own_mono p0 (show w.heap.size ≤ wA.heap.size by omega), fun j hj => (o0.lt j hj).2⟩,
     ⟨own_mono p1 (show w1.heap.size ≤ w1.heap.size by omega), fun j hj => (o1.lt j hj).2⟩,
     ⟨own_mono p2 (show w2.heap.size ≤ w2.heap.size by omega), fun j hj => (o2.lt j hj).2⟩,
     ⟨own_mono p3 (show w3.heap.size ≤ w3.heap.size by omega), fun j hj => (o3.lt j hj).2⟩,
     ⟨own_mono p4 (show w4.heap.size ≤ w4.heap.size by omega), fun j hj => (o4.lt j hj).2⟩⟩
  have HBF := Lib.hid sw
  have SB := Lib.hid sb
  have e0 := cell_at sb 0
  have e1 := cell_at sb 1
  have e2 := cell_at sb 2
  have e3 := cell_at sb 3
  have e4 := cell_at sb 4
  have e5 := cell_at sb 5
  clear so sb sw sz o0 o1 o2 o3 o4 o0_2 o0_3 o0_4 o0_5 o1_3 o1_4 o1_5 o2_4 o2_5 o3_5 p0 p1 p2 p3 p4 hS hS3 HP FA hA hc1 hc2 hc3 hc4 hc5 hb1 hb2 hb3 hb4 hb5 hr5 r0 r1 r2 r3 r4 r5 q0 q1 q2 q3 q4 q5 HR
  go_wp2
  refine bodyPost_ret_by (results_cell_row (p := 2) (ty := 27) (by kernel_rfl) _ _ (w.heap.size + 1) 27 _ (0, 0) _ rfl SB.out Tryd.underlying27 rfl (by kernel_rfl)) rfl ?_
  exact ⟨⟨b0, d0, b1, d1, b2, d2, b3, d3, b4, d4⟩, rfl, KK.out, HBF.out⟩
end Go.Proofs.YtfjiikadnlhekaaDoor
