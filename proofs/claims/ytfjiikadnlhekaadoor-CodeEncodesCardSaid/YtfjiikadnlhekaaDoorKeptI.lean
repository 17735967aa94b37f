/-
  What is proved here: winnowlaw15.kept: a program that was lent and is as it was. Conditions: the programs and the marks lie in memory.
-/
import Derived.Test.YtfjiikadnlhekaaDoorLend
import Derived.Test.YtfjiikadnlhekaaDoorRSame
import Derived.Test.YtfjiikadnlhekaaDoorLawUnlike
namespace Go.Proofs.YtfjiikadnlhekaaDoor
open Go.RowKit

set_option maxHeartbeats 8000000 in
set_option maxRecDepth 100000 in
theorem kept_any (r s : Spots) (P : Prg) (g : Nat) (w : World) (h4 : r.a4 = some ⟨g, 0, none⟩) (hc4 : r.c4 = P.code.length + 3) (hr : PAt w r P) (hg : LentI w g P.code 3) (hP : PAt w s P) (hn : P.code.length ≤ 524288) :
    Calls Tryd.prog 18 #[pval r P, pval s P] w fun e w' => e = .returned (.bool true) ∧ Below w.heap.size w w' := by
  obtain ⟨ra0, rc0, ra1, rc1, ra2, rc2, ra3, rc3, ra4, rc4⟩ := r
  dsimp only at h4 hc4
  subst h4 hc4
  obtain ⟨fA, fB, hbA⟩ := two_blocks w ⟨ra0, rc0, ra1, rc1, ra2, rc2, ra3, rc3, some ⟨g, 0, none⟩, P.code.length + 3⟩ s P P 27
  unfold pcells at fA fB hbA
  dsimp only at fA fB hbA
  generalize hA : (w.alloc (.cells #[.slice ra0 P.ghost.length rc0, .slice ra1 P.vars.length rc1, .slice ra2 P.tags.length rc2, .slice ra3 P.on.length rc3, .int .i64 P.miss, .slice (some ⟨g, 0, none⟩) P.code.length (P.code.length + 3)] 27)).alloc (.cells #[.slice s.a0 P.ghost.length s.c0, .slice s.a1 P.vars.length s.c1, .slice s.a2 P.tags.length s.c2, .slice s.a3 P.on.length s.c3, .int .i64 P.miss, .slice s.a4 P.code.length s.c4] 27) = wA at fA fB hbA
  have HRA := Lib.hid (hr.below hbA)
  have HPA := Lib.hid (hP.below hbA)
  have HG := Lib.hid (hg.below hbA)
  have HBA := Lib.hid hbA
  have x5 := fA.f5
  have y5 := fB.f5
  have FA := Lib.hid fA
  have FB := Lib.hid fB
  have HA := Lib.hid hA
  have hneq : ∀ w : World, (binOp .neq 57 (.agg #[.int .i64 (-9), .int .i64 0, .int .i64 0, .int .i64 0, .int .i64 0]) (.agg #[.int .i64 (-9), .int .i64 0, .int .i64 0, .int .i64 0, .int .i64 0])).run Tryd.prog w = .ok (.bool false) w := by
    intro w
    go_simp
  clear hr hP hg hbA fA fB hA
  unfold pval
  dsimp only
  go_enter Tryd.func18, Tryd.ntmps18
  go_upto_region 1 with fail
  rw [HA.out]
  go_wp2
  clear x5 y5
  go_loopw [6] (fun ii wr => ∃ j : Nat, j ≤ 3 ∧ ii = .int .i64 ((P.code.length + j : Nat) : Int) ∧ wr = wA) (fun ii _ => P.code.length + 3 - (intOf ii).toNat)
  case atStart => exact ⟨0, by omega, rfl, rfl⟩
  case round =>
    obtain ⟨j, hj, rfl, hwr⟩ := hrel
    subst hwr
    by_cases hlt : j < 3
    case pos =>
      have hcs : ∀ q v, (ins5 mark5)[q]? = some v → wr.cell? ⟨g, (P.code.length + j) * 5 + q, none⟩ = some v := fun q v hv => by
        have hq : q < 5 := (List.getElem?_eq_some_iff.1 hv).1
        rw [show (P.code.length + j) * 5 + q = P.code.length * 5 + (5 * j + q) by omega, HG.out.at, ← hv]
        rcases (show q = 0 ∨ q = 1 ∨ q = 2 ∨ q = 3 ∨ q = 4 by omega) with rfl | rfl | rfl | rfl | rfl <;> (rcases (show j = 0 ∨ j = 1 ∨ j = 2 by omega) with rfl | rfl | rfl <;> rfl)
      have e0 : wr.cell? ⟨g, (P.code.length + j) * 5, none⟩ = some (.int .i64 (-9)) := hcs 0 _ rfl
      have e1 : wr.cell? ⟨g, (P.code.length + j) * 5 + 1, none⟩ = some (.int .i64 0) := hcs 1 _ rfl
      have e2 : wr.cell? ⟨g, (P.code.length + j) * 5 + 2, none⟩ = some (.int .i64 0) := hcs 2 _ rfl
      have e3 : wr.cell? ⟨g, (P.code.length + j) * 5 + 3, none⟩ = some (.int .i64 0) := hcs 3 _ rfl
      have e4 : wr.cell? ⟨g, (P.code.length + j) * 5 + 4, none⟩ = some (.int .i64 0) := hcs 4 _ rfl
      clear hcs
      go_wp2
      go_roundw
      case rel => exact ⟨j + 1, by omega, by go_num, trivial⟩
      case measure => simp [intOf]; omega
    obtain rfl : j = 3 := by omega
    have a0 := FA.out.f0
    have a1 := FA.out.f1
    have a2 := FA.out.f2
    have a3 := FA.out.f3
    have a4 := FA.out.f4
    have a5 := FA.out.f5
    have b0 := FB.out.f0
    have b1 := FB.out.f1
    have b2 := FB.out.f2
    have b3 := FB.out.f3
    have b4 := FB.out.f4
    have b5 := FB.out.f5
    have hrs := rsame_any ⟨ra0, rc0, ra1, rc1, ra2, rc2, ra3, rc3, some ⟨g, 0, none⟩, P.code.length + 3⟩ s P P wr HRA.out HPA.out
    rw [prgEq_self] at hrs
    unfold pval at hrs
    dsimp only at hrs
    clear hneq
    go_wp2_with fail
    refine hrs.mono ?_
    rintro e w2 ⟨rfl, hb2⟩
    have HB := Lib.hid (HBA.out.trans (hb2.mono HBA.out.size))
    clear hrs hb2 a0 a1 a2 a3 a4 a5 b0 b1 b2 b3 b4 b5
    go_wp2
    go_ret
    exact ⟨rfl, HB.out⟩
end Go.Proofs.YtfjiikadnlhekaaDoor
