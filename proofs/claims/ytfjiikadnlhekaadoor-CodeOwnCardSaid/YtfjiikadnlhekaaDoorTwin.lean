/-
  What is proved here: code.Twin makes a program of its own, the same as the one handed in. Conditions: the program lies in memory.
-/
import Derived.Test.YtfjiikadnlhekaaDoorSame
import Derived.Test.YtfjiikadnlhekaaDoorTwin1
import Derived.Deep.RegionHeld3
namespace Go.Proofs.YtfjiikadnlhekaaDoor
open Go.RowKit

/-- A program, handed in by value, lies in a new block. -/
theorem one_block (w : World) (s : Spots) (P : Prg) (T : TypeId) :
    Fields (w.alloc (.cells (pcells s P) T)) w.heap.size s P ∧ Below w.heap.size w (w.alloc (.cells (pcells s P) T)) :=
  ⟨fields_of (MapKept.heap_alloc w _).1, (Below.refl _ w).alloc (Nat.le_refl _) _⟩

theorem cell_at {w : World} {b : Nat} {cs : Array Value} {t : TypeId} (h : w.heap[b]? = some (.cells cs t (0, 0))) (i : Nat) : w.cell? ⟨b, i, none⟩ = cs[i]? := by simp [World.cell?, h]
theorem free_at {w : World} {b : Nat} {cs : Array Value} {t : TypeId} (h : w.heap[b]? = some (.cells cs t (0, 0))) (i : Nat) : w.frozen? ⟨b, i, none⟩ = false := by simp [World.frozen?, h]
theorem set_other {w : World} {b k : Nat} (i : Nat) (u : Value) (h : k ≠ b) : (w.setCell ⟨b, i, none⟩ u).heap[k]? = w.heap[k]? := Below.heap_setCell _ _ _ _ h
/-- Six stores into one block leave another as it was. -/
theorem six_other (w : World) (b k : Nat) (h : k ≠ b) (v0 v1 v2 v3 v4 v5 : Value) :
    ((((((w.setCell ⟨b, 0, none⟩ v0).setCell ⟨b, 1, none⟩ v1).setCell ⟨b, 2, none⟩ v2).setCell ⟨b, 3, none⟩ v3).setCell ⟨b, 4, none⟩ v4).setCell ⟨b, 5, none⟩ v5).heap[k]? = w.heap[k]? := by
  rw [set_other _ _ h, set_other _ _ h, set_other _ _ h, set_other _ _ h, set_other _ _ h, set_other _ _ h]

theorem Lies.kept {w w' : World} {ao : Option Addr} {xs : List Value} (h : Lies w ao xs) (hk : ∀ a, ao = some a → w'.heap[a.block]? = w.heap[a.block]?) : Lies w' ao xs := by
  intro i v hv
  obtain ⟨a, ha, hc⟩ := h i v hv
  refine ⟨a, ha, ?_⟩
  have hb := hk a ha
  rw [← add_block a i] at hb
  rw [← hc]
  exact World.cell?_of_block hb

theorem set_block {w : World} {b : Nat} {cs : Array Value} {t : TypeId} (h : w.heap[b]? = some (.cells cs t (0, 0))) (i : Nat) (u : Value) :
    (w.setCell ⟨b, i, none⟩ u).heap[b]? = some (.cells (cs.setIfInBounds i u) t (0, 0)) := by
  simp only [World.setCell, Array.getElem?_modify, if_true, h]
  rfl
theorem six_set {w : World} {b : Nat} {z0 z1 z2 z3 z4 z5 : Value} {t : TypeId} (h : w.heap[b]? = some (.cells #[z0, z1, z2, z3, z4, z5] t (0, 0))) (v0 v1 v2 v3 v4 v5 : Value) :
    ((((((w.setCell ⟨b, 0, none⟩ v0).setCell ⟨b, 1, none⟩ v1).setCell ⟨b, 2, none⟩ v2).setCell ⟨b, 3, none⟩ v3).setCell ⟨b, 4, none⟩ v4).setCell ⟨b, 5, none⟩ v5).heap[b]? = some (.cells #[v0, v1, v2, v3, v4, v5] t (0, 0)) :=
  set_block (set_block (set_block (set_block (set_block (set_block h 0 v0) 1 v1) 2 v2) 3 v3) 4 v4) 5 v5
theorem six_below {B : Nat} {a w : World} (h : Below B a w) (b : Nat) (hb : B ≤ b) (v0 v1 v2 v3 v4 v5 : Value) :
    Below B a ((((((w.setCell ⟨b, 0, none⟩ v0).setCell ⟨b, 1, none⟩ v1).setCell ⟨b, 2, none⟩ v2).setCell ⟨b, 3, none⟩ v3).setCell ⟨b, 4, none⟩ v4).setCell ⟨b, 5, none⟩ v5) :=
  (((((h.setCell (p := ⟨b, 0, none⟩) hb _).setCell (p := ⟨b, 1, none⟩) hb _).setCell (p := ⟨b, 2, none⟩) hb _).setCell (p := ⟨b, 3, none⟩) hb _).setCell (p := ⟨b, 4, none⟩) hb _).setCell (p := ⟨b, 5, none⟩) hb _

theorem twin_blocks (w : World) (s : Spots) (P : Prg) :
    let wB := (w.alloc (.cells (pcells s P) 27)).alloc (.cells #[.slice none 0 0, .slice none 0 0, .slice none 0 0, .slice none 0 0, .int .i64 0, .slice none 0 0] 27)
    Fields wB w.heap.size s P ∧ wB.heap[w.heap.size + 1]? = some (.cells #[.slice none 0 0, .slice none 0 0, .slice none 0 0, .slice none 0 0, .int .i64 0, .slice none 0 0] 27 (0, 0)) ∧ Below w.heap.size w wB ∧ w.heap.size + 1 < wB.heap.size := by
  intro wB
  have h1 : (w.alloc (.cells (pcells s P) 27)).heap[w.heap.size]? = some (.cells (pcells s P) 27) := (MapKept.heap_alloc w _).1
  have hz : (w.alloc (.cells (pcells s P) 27)).heap.size = w.heap.size + 1 := by simp
  have h2 := (MapKept.heap_alloc (w.alloc (.cells (pcells s P) 27)) (.cells #[.slice none 0 0, .slice none 0 0, .slice none 0 0, .slice none 0 0, .int .i64 0, .slice none 0 0] 27)).1
  rw [hz] at h2
  exact ⟨fields_of ((Below.heap_alloc _ _ _ (by omega)).trans h1), h2, ((Below.refl _ w).alloc (Nat.le_refl _) _).alloc (by omega) _, (Array.getElem?_eq_some_iff.1 h2).1⟩

set_option maxHeartbeats 4000000 in
set_option maxRecDepth 100000 in
theorem twin_any (s : Spots) (P : Prg) (w : World) (hP : PAt w s P) (hs : Small P) :
    Calls Tryd.prog 25 #[pval s P] w fun e w' => ∃ r, e = .returned (pval r P) ∧ PAt w' r P ∧ Below w.heap.size w w' := by
  obtain ⟨fA, hR, hbA, hlt⟩ := twin_blocks w s P
  unfold pcells at fA hR hbA hlt
  generalize hA : (w.alloc (.cells #[.slice s.a0 P.ghost.length s.c0, .slice s.a1 P.vars.length s.c1, .slice s.a2 P.tags.length s.c2, .slice s.a3 P.on.length s.c3, .int .i64 P.miss, .slice s.a4 P.code.length s.c4] 27)).alloc (.cells #[.slice none 0 0, .slice none 0 0, .slice none 0 0, .slice none 0 0, .int .i64 0, .slice none 0 0] 27) = wA at fA hR hbA hlt
  have HP := Lib.hid (hP.below hbA)
  have HS := Lib.hid hs
  have FA := Lib.hid fA
  have hbA' : Below wA.heap.size wA wA := Below.refl _ _
  have hzA := hbA.size
  have hS : ∀ w' : World, Below wA.heap.size wA w' → (fun w' : World => w'.cell? ⟨w.heap.size, 0, none⟩ = some (.slice s.a0 P.ghost.length s.c0) ∧ w'.cell? ⟨w.heap.size, 1, none⟩ = some (.slice s.a1 P.vars.length s.c1) ∧ w'.cell? ⟨w.heap.size, 2, none⟩ = some (.slice s.a2 P.tags.length s.c2) ∧ w'.cell? ⟨w.heap.size, 3, none⟩ = some (.slice s.a3 P.on.length s.c3) ∧ w'.cell? ⟨w.heap.size, 4, none⟩ = some (.int .i64 P.miss) ∧ w'.cell? ⟨w.heap.size, 5, none⟩ = some (.slice s.a4 P.code.length s.c4)) w' := fun w' hb => by
    have f := FA.out.below hb
    exact ⟨f.f0, f.f1, f.f2, f.f3, f.f4, f.f5⟩
  have hS3 : ∀ w' : World, w'.heap[w.heap.size]? = wA.heap[w.heap.size]? → (fun w' : World => w'.cell? ⟨w.heap.size, 0, none⟩ = some (.slice s.a0 P.ghost.length s.c0) ∧ w'.cell? ⟨w.heap.size, 1, none⟩ = some (.slice s.a1 P.vars.length s.c1) ∧ w'.cell? ⟨w.heap.size, 2, none⟩ = some (.slice s.a2 P.tags.length s.c2) ∧ w'.cell? ⟨w.heap.size, 3, none⟩ = some (.slice s.a3 P.on.length s.c3) ∧ w'.cell? ⟨w.heap.size, 4, none⟩ = some (.int .i64 P.miss) ∧ w'.cell? ⟨w.heap.size, 5, none⟩ = some (.slice s.a4 P.code.length s.c4)) w' := fun w' hb => by
    have f := FA.out
    have hc : ∀ j, w'.cell? ⟨w.heap.size, j, none⟩ = wA.cell? ⟨w.heap.size, j, none⟩ := fun j => World.cell?_of_block hb
    exact ⟨(hc 0).trans f.f0, (hc 1).trans f.f1, (hc 2).trans f.f2, (hc 3).trans f.f3, (hc 4).trans f.f4, (hc 5).trans f.f5⟩
  have hA1 : w.heap.size < wA.heap.size := by omega
  have HR := Lib.hid hR
  clear hP fA hR hs
  go_enter Tryd.func25, Tryd.ntmps25
  unfold pval
  go_wp2_with fail
  try rw [hA]
  go_region_held3 (fun w' : World => w'.cell? ⟨w.heap.size, 0, none⟩ = some (.slice s.a0 P.ghost.length s.c0) ∧ w'.cell? ⟨w.heap.size, 1, none⟩ = some (.slice s.a1 P.vars.length s.c1) ∧ w'.cell? ⟨w.heap.size, 2, none⟩ = some (.slice s.a2 P.tags.length s.c2) ∧ w'.cell? ⟨w.heap.size, 3, none⟩ = some (.slice s.a3 P.on.length s.c3) ∧ w'.cell? ⟨w.heap.size, 4, none⟩ = some (.int .i64 P.miss) ∧ w'.cell? ⟨w.heap.size, 5, none⟩ = some (.slice s.a4 P.code.length s.c4)) (with_reducible first | exact hS3 _ ((six_other _ _ _ (by omega) _ _ _ _ _ _).trans (hb5.block _ hA1)) | exact hS _ hb5 | exact hS _ hb4 | exact hS _ hb3 | exact hS _ hb2 | exact hS _ hb1 | exact hS _ hb5.drew | exact hS _ hb4.drew | exact hS _ hb3.drew | exact hS _ hb2.drew | exact hS _ hb1.drew | exact hS _ hbA'.drew | exact hS _ hbA') (first | (go_at_call 63; refine (clone_bool _ _ P.ghost _ ?_ HP.out.n0 HS.out.ghost).mono ?_; (exact (HP.out.below hbA').ghost); rintro e w1 ⟨b0, d0, rfl, l0, m0, k0, hc1⟩; have hb1 : Below wA.heap.size wA w1 := hbA'.drew.trans (hc1.mono (Nat.le_refl _))) | (go_at_call 64; refine (clone_var3 _ _ P.vars _ ?_ HP.out.n1 HS.out.vars).mono ?_; (exact (HP.out.below hb1).vars); rintro e w2 ⟨b1, d1, rfl, l1, m1, k1, hc2⟩; have hb2 : Below wA.heap.size wA w2 := hb1.trans (hc2.mono hb1.size)) | (go_at_call 65; refine (clone_int _ _ P.on _ ?_ HP.out.n3 HS.out.on).mono ?_; (exact (HP.out.below hb3).on); rintro e w4 ⟨b3, d3, rfl, l3, m3, k3, hc4⟩; have hb4 : Below wA.heap.size wA w4 := hb3.trans (hc4.mono hb3.size)) | (go_at_call 65; refine (clone_int _ _ P.tags _ ?_ HP.out.n2 HS.out.tags).mono ?_; (exact (HP.out.below hb2).tags); rintro e w3 ⟨b2, d2, rfl, l2, m2, k2, hc3⟩; have hb3 : Below wA.heap.size wA w3 := hb2.trans (hc3.mono hb2.size)) | (go_at_call 66; refine (clone_ins5 _ _ P.code _ ?_ HP.out.n4 HS.out.code).mono ?_; (exact (HP.out.below hb4).code); rintro e w5 ⟨b4, d4, rfl, l4, m4, k4, hc5⟩; have hb5 : Below wA.heap.size wA w5 := hb4.trans (hc5.mono hb4.size); have hr5 := (hb5.block _ hlt).trans HR.out; have r0 := cell_at hr5 0; have r1 := cell_at hr5 1; have r2 := cell_at hr5 2; have r3 := cell_at hr5 3; have r4 := cell_at hr5 4; have r5 := cell_at hr5 5; have q0 := free_at hr5 0; have q1 := free_at hr5 1; have q2 := free_at hr5 2; have q3 := free_at hr5 3; have q4 := free_at hr5 4; have q5 := free_at hr5 5))
  have z1 := hb1.size
  have z2 := hb2.size
  have z3 := hb3.size
  have z4 := hb4.size
  have hle : w.heap.size ≤ w.heap.size + 1 := by omega
  have so := fun k h => six_other w5 (w.heap.size + 1) k h (.slice b0 P.ghost.length d0) (.slice b1 P.vars.length d1) (.slice b2 P.tags.length d2) (.slice b3 P.on.length d3) (.int .i64 P.miss) (.slice b4 P.code.length d4)
  have sb := six_set hr5 (.slice b0 P.ghost.length d0) (.slice b1 P.vars.length d1) (.slice b2 P.tags.length d2) (.slice b3 P.on.length d3) (.int .i64 P.miss) (.slice b4 P.code.length d4)
  have sw := six_below (hbA.trans (hb5.mono hzA)) (w.heap.size + 1) hle (.slice b0 P.ghost.length d0) (.slice b1 P.vars.length d1) (.slice b2 P.tags.length d2) (.slice b3 P.on.length d3) (.int .i64 P.miss) (.slice b4 P.code.length d4)
  generalize ((((((w5.setCell ⟨w.heap.size + 1, 0, none⟩ (.slice b0 P.ghost.length d0)).setCell ⟨w.heap.size + 1, 1, none⟩ (.slice b1 P.vars.length d1)).setCell ⟨w.heap.size + 1, 2, none⟩ (.slice b2 P.tags.length d2)).setCell ⟨w.heap.size + 1, 3, none⟩ (.slice b3 P.on.length d3)).setCell ⟨w.heap.size + 1, 4, none⟩ (.int .i64 P.miss)).setCell ⟨w.heap.size + 1, 5, none⟩ (.slice b4 P.code.length d4)) = wF at so sb sw ⊢
  have KK : Hid (PAt wF ⟨b0, d0, b1, d1, b2, d2, b3, d3, b4, d4⟩ P) := Lib.hid
    ⟨((((l0.below hc2).below hc3).below hc4).below hc5).kept (fun a ha => so _ (by have h : wA.heap.size ≤ a.block := k0 a ha; omega)),
     (((l1.below hc3).below hc4).below hc5).kept (fun a ha => so _ (by have h := k1 a ha; omega)),
     ((l2.below hc4).below hc5).kept (fun a ha => so _ (by have h := k2 a ha; omega)),
     (l3.below hc5).kept (fun a ha => so _ (by have h := k3 a ha; omega)),
     l4.kept (fun a ha => so _ (by have h := k4 a ha; omega)),
     HP.out.lghost, HP.out.lvars, HP.out.ltags, HP.out.lon, HP.out.lcode, m0, m1, m2, m3, m4⟩
  have HBF := Lib.hid sw
  have SB := Lib.hid sb
  have e0 := cell_at sb 0
  have e1 := cell_at sb 1
  have e2 := cell_at sb 2
  have e3 := cell_at sb 3
  have e4 := cell_at sb 4
  have e5 := cell_at sb 5
  clear so sb sw l0 l1 l2 l3 l4 k0 k1 k2 k3 k4 hS hS3 HP FA hA hc1 hc2 hc3 hc4 hc5 hb1 hb2 hb3 hb4 hb5 hr5 r0 r1 r2 r3 r4 r5 q0 q1 q2 q3 q4 q5 HR
  go_wp2
  refine bodyPost_ret_by (results_cell_row (p := 2) (ty := 27) (by kernel_rfl) _ _ (w.heap.size + 1) 27 _ (0, 0) _ rfl SB.out Tryd.underlying27 rfl (by kernel_rfl)) rfl ?_
  exact ⟨⟨b0, d0, b1, d1, b2, d2, b3, d3, b4, d4⟩, rfl, KK.out, HBF.out⟩
end Go.Proofs.YtfjiikadnlhekaaDoor
