/-
  What is proved here: winnowlaw15.lend: a program apart, with marks behind its code. Conditions: the program lies in memory; at most 2^19 instructions.
-/
import Derived.Test.YtfjiikadnlhekaaDoorLendI
namespace Go.Proofs.YtfjiikadnlhekaaDoor
open Go.RowKit

theorem size57 : (Tryd.prog.info? 57).map (·.size) = some 5 := by kernel_rfl
/-- What lend hands out. -/
def LendPost (P : Prg) (w : World) (e : Ending) (w' : World) : Prop :=
  ∃ (r : Spots) (g : Nat), e = .returned (pval r P) ∧ r.a4 = some ⟨g, 0, none⟩ ∧ r.c4 = P.code.length + 3 ∧ PAt w' r P ∧ LentI w' g P.code 3 ∧ Below w.heap.size w w'

set_option maxHeartbeats 8000000 in
set_option maxRecDepth 100000 in
theorem lend_any (s : Spots) (P : Prg) (w : World) (hP : PAt w s P) (hs : Small P) (hn : P.code.length ≤ 524288) :
    Calls Tryd.prog 11 #[pval s P] w (LendPost P w) := by
  obtain ⟨fA, hR, hbA, hlt⟩ := twin_blocks w s P
  unfold pcells at fA hR hbA hlt
  generalize hA : (w.alloc (.cells #[.slice s.a0 P.ghost.length s.c0, .slice s.a1 P.vars.length s.c1, .slice s.a2 P.tags.length s.c2, .slice s.a3 P.on.length s.c3, .int .i64 P.miss, .slice s.a4 P.code.length s.c4] 27)).alloc (.cells #[.slice none 0 0, .slice none 0 0, .slice none 0 0, .slice none 0 0, .int .i64 0, .slice none 0 0] 27) = wA at fA hR hbA hlt
  have x0 := fA.f0
  have x1 := fA.f1
  have x2 := fA.f2
  have x3 := fA.f3
  have x4 := fA.f4
  have x5 := fA.f5
  have HP := Lib.hid (hP.below hbA)
  have htw := rtwin_any s P wA (hP.below hbA) hs
  have FA := Lib.hid fA
  have HR := Lib.hid hR
  have HBA := Lib.hid hbA
  have hlA := hlt
  unfold pval at htw ⊢
  have HA := Lib.hid hA
  obtain ⟨i57, hi, hzi0, hzi1, hzi2⟩ := info_parts info57
  clear hP fA hR hbA hlt hA
  go_enter Tryd.func11, Tryd.ntmps11
  go_wp2_with fail
  try rw [HA.out]
  refine htw.mono ?_
  rintro e w1 ⟨r, rfl, hP1, hb1, hge⟩
  have HGE := Lib.hid hge
  have HP1 := Lib.hid hP1
  have HB12 := Lib.hid ((Below.refl w1.heap.size w1).alloc (Nat.le_refl _) (.cells #[.slice r.a0 P.ghost.length r.c0, .slice r.a1 P.vars.length r.c1, .slice r.a2 P.tags.length r.c2, .slice r.a3 P.on.length r.c3, .int .i64 P.miss, .slice r.a4 P.code.length r.c4] 27))
  have HZQ : Hid (∃ W : World, W = w1) := Lib.hid ⟨_, rfl⟩
  clear hge HZQ
  have hz1s : wA.heap.size ≤ w1.heap.size := hb1.size
  have b2 := (Below.refl w1.heap.size w1).alloc (Nat.le_refl _) (.cells #[.slice r.a0 P.ghost.length r.c0, .slice r.a1 P.vars.length r.c1, .slice r.a2 P.tags.length r.c2, .slice r.a3 P.on.length r.c3, .int .i64 P.miss, .slice r.a4 P.code.length r.c4] 27)
  have HQ : Hid ((w1.alloc (.cells #[.slice r.a0 P.ghost.length r.c0, .slice r.a1 P.vars.length r.c1, .slice r.a2 P.tags.length r.c2, .slice r.a3 P.on.length r.c3, .int .i64 P.miss, .slice r.a4 P.code.length r.c4] 27)).heap[w1.heap.size]? = some (.cells #[.slice r.a0 P.ghost.length r.c0, .slice r.a1 P.vars.length r.c1, .slice r.a2 P.tags.length r.c2, .slice r.a3 P.on.length r.c3, .int .i64 P.miss, .slice r.a4 P.code.length r.c4] 27 (0, 0))) := Lib.hid (MapKept.heap_alloc w1 _).1
  have hb2 := hb1.trans (b2.mono hz1s)
  have HB2 := Lib.hid hb2
  have HP2 := Lib.hid (hP1.below b2)
  have y5 := (FA.out.below hb2).f5
  have hz2 : wA.heap.size ≤ (w1.alloc (.cells #[.slice r.a0 P.ghost.length r.c0, .slice r.a1 P.vars.length r.c1, .slice r.a2 P.tags.length r.c2, .slice r.a3 P.on.length r.c3, .int .i64 P.miss, .slice r.a4 P.code.length r.c4] 27)).heap.size := hb2.size
  clear htw x0 x1 x2 x3 x4 x5 hb1 hb2 b2 hP1
  go_upto_region 2 with fail
  generalize w1.alloc (.cells #[.slice r.a0 P.ghost.length r.c0, .slice r.a1 P.vars.length r.c1, .slice r.a2 P.tags.length r.c2, .slice r.a3 P.on.length r.c3, .int .i64 P.miss, .slice r.a4 P.code.length r.c4] 27) = w2 at *
  have hqe : w1.heap.size = w1.heap.size := rfl
  generalize hqz : w1.heap.size = qb at *
  have HQZ := Lib.hid hqz
  clear hqz hqe
  have hqb : qb < w2.heap.size := (Array.getElem?_eq_some_iff.1 HQ.out).1
  go_wp2_with (at_make; refine wpList_make_full _ rfl _ _ 25 rfl w2.heap.size 57 i57 (.agg #[.int .i64 0, .int .i64 0, .int .i64 0, .int .i64 0, .int .i64 0]) 5 Tryd.underlying25 hi hzi0 hzi1 .i64 .i64 _ _ (P.code.length + 3) rfl rfl ?l1 ?l2 ?b2 ?b3 ?b4 ?_)
  case l1 => omega
  case l2 => omega
  case b2 => rw [hzi2]; omega
  case b3 => unfold maxLen; omega
  case b4 => exact Nat.le_refl _
  intro w3 hown hgr
  have HG := Lib.hid (made_rows hown)
  have hb3 : Below w2.heap.size w2 w3 := (Below.refl _ w2).grown hgr (Nat.le_refl _) (fun k hk => by cases hk)
  have HB3 := Lib.hid hb3
  have HL3 := Lib.hid ((HP.out.below (HB2.out.trans (hb3.mono hz2))).code)
  have y35 := (FA.out.below (HB2.out.trans (hb3.mono hz2))).f5
  have hg3 : w2.heap.size < w3.heap.size := (Array.getElem?_eq_some_iff.1 HG.out).1
  clear hown hgr hb3 y5 hi hzi0 hzi1 hzi2
  go_wp2_with (with_reducible refine wpList_copy_rows rfl (.tmp 13) (.tmp 15) 25 rfl 57 5 Tryd.underlying25 size57 w2.heap.size (P.code.length + 3) (P.code.length + 3) s.a4 P.code.length s.c4 rfl rfl _ 57 HG.out (flat ins5 P.code) (flat5 P.code) (by decide) (by omega) HL3.out ?q1 (ins5_one P.code) ?_)
  case q1 => rw [flat5]; simp; omega
  intro w4 HG4 hbf
  have HB4 := Lib.hid (hbf w2.heap.size w2 (Nat.le_refl _) HB3.out)
  have HJ4 : Hid (LentI w4 w2.heap.size P.code 0) := Lib.hid (by
    unfold LentI
    rw [HG4.out]
    rw [flat5, show (P.code.length + 3) * 5 - P.code.length * 5 = 15 by omega]
    rfl)
  have y5 := (FA.out.below (HB2.out.trans (HB4.out.mono hz2))).f5
  clear HG HG4 HL3 hbf HB3 y35
  have HBL := Lib.hid (And.intro hqb (And.intro hlA (And.intro hz1s hz2)))
  have hnw : w.heap.size + 1 < w2.heap.size := by omega
  go_wp2
  clear y5
  go_loopw [5] (fun ii wr => ∃ j : Nat, j ≤ 3 ∧ ii = .int .i64 ((P.code.length + j : Nat) : Int) ∧ Hid (LentI wr w2.heap.size P.code j) ∧ Hid (Below w2.heap.size w2 wr)) (fun ii _ => P.code.length + 3 - (intOf ii).toNat)
  case atStart => exact ⟨0, by omega, rfl, HJ4, HB4⟩
  case round =>
    clear HJ4 HB4
    obtain ⟨j, hj, rfl, HJ, HB⟩ := hrel
    by_cases hlt : j < 3
    case pos =>
      have hcs : ∀ q, q < 5 → ∃ v, wr.cell? ⟨w2.heap.size, (P.code.length + j) * 5 + q, none⟩ = some v := fun q hq => by
        rw [show (P.code.length + j) * 5 + q = P.code.length * 5 + (5 * j + q) by omega, HJ.out.at]
        have hl : (tl j).length = 15 := by rcases (show j = 0 ∨ j = 1 ∨ j = 2 by omega) with rfl | rfl | rfl <;> rfl
        exact ⟨_, List.getElem?_eq_getElem (by omega)⟩
      obtain ⟨v0, e0⟩ := hcs 0 (by omega)
      obtain ⟨v1, e1⟩ := hcs 1 (by omega)
      obtain ⟨v2, e2⟩ := hcs 2 (by omega)
      obtain ⟨v3, e3⟩ := hcs 3 (by omega)
      obtain ⟨v4, e4⟩ := hcs 4 (by omega)
      rw [Nat.add_zero] at e0
      have n0 := HJ.out.free ((P.code.length + j) * 5)
      have n1 := HJ.out.free ((P.code.length + j) * 5 + 1)
      have n2 := HJ.out.free ((P.code.length + j) * 5 + 2)
      have n3 := HJ.out.free ((P.code.length + j) * 5 + 3)
      have n4 := HJ.out.free ((P.code.length + j) * 5 + 4)
      have HN : Hid (LentI (((((wr.setCell ⟨w2.heap.size, (P.code.length + j) * 5, none⟩ (.int .i64 (-9))).setCell ⟨w2.heap.size, (P.code.length + j) * 5 + 1, none⟩ (.int .i64 0)).setCell ⟨w2.heap.size, (P.code.length + j) * 5 + 2, none⟩ (.int .i64 0)).setCell ⟨w2.heap.size, (P.code.length + j) * 5 + 3, none⟩ (.int .i64 0)).setCell ⟨w2.heap.size, (P.code.length + j) * 5 + 4, none⟩ (.int .i64 0)) w2.heap.size P.code (j + 1)) := Lib.hid (by
        have h := five_set HJ.out hlt
        have e : P.code.length * 5 + 5 * j = (P.code.length + j) * 5 := by omega
        rw [show P.code.length * 5 + (5 * j + 1) = (P.code.length + j) * 5 + 1 by omega, show P.code.length * 5 + (5 * j + 2) = (P.code.length + j) * 5 + 2 by omega, show P.code.length * 5 + (5 * j + 3) = (P.code.length + j) * 5 + 3 by omega, show P.code.length * 5 + (5 * j + 4) = (P.code.length + j) * 5 + 4 by omega, e] at h
        exact h)
      have HBN := Lib.hid (((((HB.out.setCell (p := ⟨w2.heap.size, (P.code.length + j) * 5, none⟩) (Nat.le_refl _) (.int .i64 (-9))).setCell (p := ⟨w2.heap.size, (P.code.length + j) * 5 + 1, none⟩) (Nat.le_refl _) (.int .i64 0)).setCell (p := ⟨w2.heap.size, (P.code.length + j) * 5 + 2, none⟩) (Nat.le_refl _) (.int .i64 0)).setCell (p := ⟨w2.heap.size, (P.code.length + j) * 5 + 3, none⟩) (Nat.le_refl _) (.int .i64 0)).setCell (p := ⟨w2.heap.size, (P.code.length + j) * 5 + 4, none⟩) (Nat.le_refl _) (.int .i64 0))
      clear hcs HJ HB
      go_wp2
      go_roundw
      case rel => exact ⟨j + 1, by omega, by go_num, HN, HBN⟩
      case measure => simp [intOf]; omega
    obtain rfl : j = 3 := by omega
    have hQr := (HB.out.block qb hqb).trans HQ.out
    have f5 := cell_at hQr 5
    have o5 := free_at hQr 5
    have y5 := (FA.out.below (HB2.out.trans (HB.out.mono hz2))).f5
    have hne : w.heap.size + 1 ≠ qb := by omega
    have hne2 : w.heap.size ≠ qb := by omega
    have hne3 : w2.heap.size ≠ qb := by omega
    have hQ6 := set_block hQr 5 (.slice (some ⟨w2.heap.size, 0, none⟩) P.code.length (P.code.length + 3))
    have hRr := (HB.out.block (w.heap.size + 1) hnw).trans ((HB2.out.block (w.heap.size + 1) hlA).trans HR.out)
    have hR6 := (set_other (w := wr) (b := qb) 5 (.slice (some ⟨w2.heap.size, 0, none⟩) P.code.length (P.code.length + 3)) hne).trans hRr
    have HBQ : Hid (Below w.heap.size w (wr.setCell ⟨qb, 5, none⟩ (.slice (some ⟨w2.heap.size, 0, none⟩) P.code.length (P.code.length + 3)))) := Lib.hid ((HBA.out.trans ((HB2.out.trans (HB.out.mono hz2)).mono HBA.out.size)).setCell (p := ⟨qb, 5, none⟩) (by show w.heap.size ≤ qb; omega) _)
    have HJQ : Hid (LentI (wr.setCell ⟨qb, 5, none⟩ (.slice (some ⟨w2.heap.size, 0, none⟩) P.code.length (P.code.length + 3))) w2.heap.size P.code 3) := Lib.hid ((set_other 5 _ hne3).trans HJ.out)
    have HKQ : Hid (∀ b, wA.heap.size ≤ b → b < w1.heap.size → (wr.setCell ⟨qb, 5, none⟩ (.slice (some ⟨w2.heap.size, 0, none⟩) P.code.length (P.code.length + 3))).heap[b]? = w1.heap[b]?) := Lib.hid (fun b h1 h2 => by
      have h3 := HQZ.out
      rw [set_other 5 _ (by omega), HB.out.block b (by omega)]
      exact HB12.out.block b (by omega))
    go_upto_region 9 with fail
    clear y5 f5 o5
    generalize hwq : wr.setCell ⟨qb, 5, none⟩ (.slice (some ⟨w2.heap.size, 0, none⟩) P.code.length (P.code.length + 3)) = wq at *
    clear hwq
    have q0 := cell_at hQ6 0
    have q1 := cell_at hQ6 1
    have q2 := cell_at hQ6 2
    have q3 := cell_at hQ6 3
    have q4 := cell_at hQ6 4
    have q5 := cell_at hQ6 5
    have r0 := cell_at hR6 0
    have r1 := cell_at hR6 1
    have r2 := cell_at hR6 2
    have r3 := cell_at hR6 3
    have r4 := cell_at hR6 4
    have r5 := cell_at hR6 5
    have z0 := free_at hR6 0
    have z1 := free_at hR6 1
    have z2 := free_at hR6 2
    have z3 := free_at hR6 3
    have z4 := free_at hR6 4
    have z5 := free_at hR6 5
    have SB := Lib.hid (six_set hR6 (.slice r.a0 P.ghost.length r.c0) (.slice r.a1 P.vars.length r.c1) (.slice r.a2 P.tags.length r.c2) (.slice r.a3 P.on.length r.c3) (.int .i64 P.miss) (.slice (some ⟨w2.heap.size, 0, none⟩) P.code.length (P.code.length + 3)))
    have so := fun j h => six_other wq (w.heap.size + 1) j h (.slice r.a0 P.ghost.length r.c0) (.slice r.a1 P.vars.length r.c1) (.slice r.a2 P.tags.length r.c2) (.slice r.a3 P.on.length r.c3) (.int .i64 P.miss) (.slice (some ⟨w2.heap.size, 0, none⟩) P.code.length (P.code.length + 3))
    have SO := Lib.hid so
    have SW := Lib.hid (six_below HBQ.out (w.heap.size + 1) (by omega) (.slice r.a0 P.ghost.length r.c0) (.slice r.a1 P.vars.length r.c1) (.slice r.a2 P.tags.length r.c2) (.slice r.a3 P.on.length r.c3) (.int .i64 P.miss) (.slice (some ⟨w2.heap.size, 0, none⟩) P.code.length (P.code.length + 3)))
    clear so hQr hQ6 hRr hR6
    go_wp2
    refine bodyPost_ret_by (results_cell_row (p := 2) (ty := 27) (by kernel_rfl) _ _ (w.heap.size + 1) 27 _ (0, 0) _ rfl SB.out Tryd.underlying27 rfl (by kernel_rfl)) rfl ?_
    have hJ2 : LentI ((((((wq.setCell ⟨w.heap.size + 1, 0, none⟩ (.slice r.a0 P.ghost.length r.c0)).setCell ⟨w.heap.size + 1, 1, none⟩ (.slice r.a1 P.vars.length r.c1)).setCell ⟨w.heap.size + 1, 2, none⟩ (.slice r.a2 P.tags.length r.c2)).setCell ⟨w.heap.size + 1, 3, none⟩ (.slice r.a3 P.on.length r.c3)).setCell ⟨w.heap.size + 1, 4, none⟩ (.int .i64 P.miss)).setCell ⟨w.heap.size + 1, 5, none⟩ (.slice (some ⟨w2.heap.size, 0, none⟩) P.code.length (P.code.length + 3))) w2.heap.size P.code 3 := (SO.out w2.heap.size (by omega)).trans HJQ.out
    have hPr := HP1.out.stay2 (w' := ((((((wq.setCell ⟨w.heap.size + 1, 0, none⟩ (.slice r.a0 P.ghost.length r.c0)).setCell ⟨w.heap.size + 1, 1, none⟩ (.slice r.a1 P.vars.length r.c1)).setCell ⟨w.heap.size + 1, 2, none⟩ (.slice r.a2 P.tags.length r.c2)).setCell ⟨w.heap.size + 1, 3, none⟩ (.slice r.a3 P.on.length r.c3)).setCell ⟨w.heap.size + 1, 4, none⟩ (.int .i64 P.miss)).setCell ⟨w.heap.size + 1, 5, none⟩ (.slice (some ⟨w2.heap.size, 0, none⟩) P.code.length (P.code.length + 3)))) HGE.out (fun b h1 h2 => (SO.out b (by omega)).trans (HKQ.out b h1 h2))
    exact ⟨⟨r.a0, r.c0, r.a1, r.c1, r.a2, r.c2, r.a3, r.c3, some ⟨w2.heap.size, 0, none⟩, P.code.length + 3⟩, w2.heap.size, rfl, rfl, rfl, ⟨hPr.ghost, hPr.vars, hPr.tags, hPr.on, hJ2.lies, hPr.lghost, hPr.lvars, hPr.ltags, hPr.lon, hPr.lcode, hPr.n0, hPr.n1, hPr.n2, hPr.n3, fun h => by cases h⟩, hJ2, SW.out⟩
end Go.Proofs.YtfjiikadnlhekaaDoor
