/-
  What is proved here: spoilt finds the marks. Conditions: the program lies in memory and has them.
-/
import Derived.Test.YtfjiikadnlhekaaDoorZone2
import Derived.Test.YtfjiikadnlhekaaDoorRSame
namespace Go.Proofs.YtfjiikadnlhekaaDoor
open Go.RowKit

/-- A program that has its marks. -/
structure Marks (Q : Prg) (m : Nat) : Prop where
  code : ∀ k (h : k < Q.code.length), Q.code[k] = mCode m k
  on : ∀ k (h : k < Q.on.length), Q.on[k] = mOn m k
  tags : ∀ k (h : k < Q.tags.length), Q.tags[k] = mTag m k
  vars : ∀ k (h : k < Q.vars.length), Q.vars[k] = mVar m k
theorem front_full {α : Type} (f : Nat → α) (l : List α) (k : Nat) (h : k < (front f l.length l).length) : (front f l.length l)[k] = f k := by
  simp [front]
theorem marks_marked (P : Prg) (m : Nat) : Marks (marked P m) m := ⟨fun k h => front_full _ _ k h, fun k h => front_full _ _ k h, fun k h => front_full _ _ k h, fun k h => front_full _ _ k h⟩
theorem pval_marked (s : Spots) (P : Prg) (m : Nat) : pval s (marked P m) = pval s P := by
  have l4 : (marked P m).code.length = P.code.length := front_length _ _ _ (Nat.le_refl _)
  have l3 : (marked P m).on.length = P.on.length := front_length _ _ _ (Nat.le_refl _)
  have l2 : (marked P m).tags.length = P.tags.length := front_length _ _ _ (Nat.le_refl _)
  have l1 : (marked P m).vars.length = P.vars.length := front_length _ _ _ (Nat.le_refl _)
  unfold pval
  rw [l1, l2, l3, l4]
  rfl

set_option maxHeartbeats 8000000 in
set_option maxRecDepth 100000 in
theorem spoilt_any (s : Spots) (Q : Prg) (m : Nat) (hm : m ≤ 5) (w : World) (hP : PAt w s Q) (hM : Marks Q m) (hn : Q.code.length ≤ 1000000 ∧ Q.on.length ≤ 1000000 ∧ Q.tags.length ≤ 1000000 ∧ Q.vars.length ≤ 1000000) :
    Calls Tryd.prog 28 #[pval s Q, .int .i64 (m : Int)] w fun e w' => e = .returned (.bool true) ∧ Below w.heap.size w w' := by
  obtain ⟨fA, hbA⟩ := one_block w s Q 27
  unfold pcells at fA hbA
  generalize hA : w.alloc (.cells #[.slice s.a0 Q.ghost.length s.c0, .slice s.a1 Q.vars.length s.c1, .slice s.a2 Q.tags.length s.c2, .slice s.a3 Q.on.length s.c3, .int .i64 Q.miss, .slice s.a4 Q.code.length s.c4] 27) = wA at *
  have HP := Lib.hid (hP.below hbA)
  have HBA := Lib.hid hbA
  have hzA := hbA.size
  have FA := Lib.hid fA
  have HM := Lib.hid hM
  have HA := Lib.hid hA
  have x0 := fA.f5
  have hb : Below wA.heap.size wA wA := Below.refl _ _
  have HB0 := Lib.hid hb
  obtain ⟨n1, n2, n3, n4⟩ := hn
  clear hP hA fA hbA hM hb
  unfold pval
  go_enter Tryd.func28, Tryd.ntmps28
  go_wp2_with fail
  try rw [HA.out]
  go_wp2_with fail
  go_loopw [5] (fun ii wr => ∃ j : Nat, j ≤ Q.code.length ∧ ii = .int .i64 (j : Int) ∧ Hid (Below wA.heap.size wA wr)) (fun ii _ => Q.code.length + 1 - (intOf ii).toNat)
  case atStart => exact ⟨0, Nat.zero_le _, rfl, HB0⟩
  case round =>
    clear x0 HB0
    obtain ⟨j, hj, rfl, HB⟩ := hrel
    have y := (FA.out.below HB.out).f5
    by_cases hlt : j < Q.code.length
    case pos =>
      obtain ⟨a, ha, hca⟩ := (HP.out.below HB.out).code.row 5 (fun _ => rfl) (by decide) j hlt
      rw [HM.out.code j hlt] at hca
      have a0 : wr.cell? (a.add (j * 5)) = some (.int .i64 (500 + (m : Int))) := by have h := hca 0 _ rfl; rwa [add_zero'] at h
      have a1 : wr.cell? ⟨(a.add (j * 5)).block, (a.add (j * 5)).off + 1, none⟩ = some (.int .i64 ((j : Int))) := by have h := hca 1 _ rfl; rwa [add_pos' _ _ (by decide)] at h
      have a2 : wr.cell? ⟨(a.add (j * 5)).block, (a.add (j * 5)).off + 2, none⟩ = some (.int .i64 (0)) := by have h := hca 2 _ rfl; rwa [add_pos' _ _ (by decide)] at h
      have a3 : wr.cell? ⟨(a.add (j * 5)).block, (a.add (j * 5)).off + 3, none⟩ = some (.int .i64 (0)) := by have h := hca 3 _ rfl; rwa [add_pos' _ _ (by decide)] at h
      have a4 : wr.cell? ⟨(a.add (j * 5)).block, (a.add (j * 5)).off + 4, none⟩ = some (.int .i64 (0)) := by have h := hca 4 _ rfl; rwa [add_pos' _ _ (by decide)] at h
      rw [ha] at y
      clear ha hca
      go_wp2
      try go_quiet (fail)
      try go_wp2
      go_roundw
      case rel => exact ⟨j + 1, by omega, by go_num, Lib.hid (by first | exact HB.out | exact below_drewN HB.out _ | exact HB.out.drew)⟩
      case measure => simp [intOf]; omega
    case neg =>
      have x1 := (FA.out.below HB.out).f3
      have HBN1 := HB
      obtain rfl : j = Q.code.length := by omega
      clear HB hlt hj
      go_wp2
      clear y
      go_loopw [6] (fun ii wr => ∃ j : Nat, j ≤ Q.on.length ∧ ii = .int .i64 (j : Int) ∧ Hid (Below wA.heap.size wA wr)) (fun ii _ => Q.on.length + 1 - (intOf ii).toNat)
      case atStart => exact ⟨0, Nat.zero_le _, rfl, HBN1⟩
      case round =>
        clear x1 HBN1
        obtain ⟨j, hj, rfl, HB⟩ := hrel
        have y := (FA.out.below HB.out).f3
        by_cases hlt : j < Q.on.length
        case pos =>
          obtain ⟨a, ha, hca⟩ := (HP.out.below HB.out).on.at j (by rw [nums_length]; exact hlt)
          simp only [nums, List.getElem_map] at hca
          rw [HM.out.on j hlt] at hca
          unfold mOn at hca
          rw [ha] at y
          clear ha
          go_wp2
          try go_quiet (fail)
          try go_wp2
          go_roundw
          case rel => exact ⟨j + 1, by omega, by go_num, Lib.hid (by first | exact HB.out | exact below_drewN HB.out _ | exact HB.out.drew)⟩
          case measure => simp [intOf]; omega
        case neg =>
          have x2 := (FA.out.below HB.out).f2
          have HBN2 := HB
          obtain rfl : j = Q.on.length := by omega
          clear HB hlt hj
          go_wp2
          clear y
          go_loopw [7] (fun ii wr => ∃ j : Nat, j ≤ Q.tags.length ∧ ii = .int .i64 (j : Int) ∧ Hid (Below wA.heap.size wA wr)) (fun ii _ => Q.tags.length + 1 - (intOf ii).toNat)
          case atStart => exact ⟨0, Nat.zero_le _, rfl, HBN2⟩
          case round =>
            clear x2 HBN2
            obtain ⟨j, hj, rfl, HB⟩ := hrel
            have y := (FA.out.below HB.out).f2
            by_cases hlt : j < Q.tags.length
            case pos =>
              obtain ⟨a, ha, hca⟩ := (HP.out.below HB.out).tags.at j (by rw [nums_length]; exact hlt)
              simp only [nums, List.getElem_map] at hca
              rw [HM.out.tags j hlt] at hca
              unfold mTag at hca
              rw [ha] at y
              clear ha
              go_wp2
              try go_quiet (fail)
              try go_wp2
              go_roundw
              case rel => exact ⟨j + 1, by omega, by go_num, Lib.hid (by first | exact HB.out | exact below_drewN HB.out _ | exact HB.out.drew)⟩
              case measure => simp [intOf]; omega
            case neg =>
              have x3 := (FA.out.below HB.out).f1
              have HBN3 := HB
              obtain rfl : j = Q.tags.length := by omega
              clear HB hlt hj
              go_wp2
              clear y
              go_loopw [8] (fun ii wr => ∃ j : Nat, j ≤ Q.vars.length ∧ ii = .int .i64 (j : Int) ∧ Hid (Below wA.heap.size wA wr)) (fun ii _ => Q.vars.length + 1 - (intOf ii).toNat)
              case atStart => exact ⟨0, Nat.zero_le _, rfl, HBN3⟩
              case round =>
                clear x3 HBN3
                obtain ⟨j, hj, rfl, HB⟩ := hrel
                have y := (FA.out.below HB.out).f1
                by_cases hlt : j < Q.vars.length
                case pos =>
                  obtain ⟨a, ha, hca⟩ := (HP.out.below HB.out).vars.row 3 (fun _ => rfl) (by decide) j hlt
                  rw [HM.out.vars j hlt] at hca
                  have a0 : wr.cell? (a.add (j * 3)) = some (.int .i64 ((m : Int))) := by have h := hca 0 _ rfl; rwa [add_zero'] at h
                  have a1 : wr.cell? ⟨(a.add (j * 3)).block, (a.add (j * 3)).off + 1, none⟩ = some (.int .i64 ((j : Int))) := by have h := hca 1 _ rfl; rwa [add_pos' _ _ (by decide)] at h
                  have a2 : wr.cell? ⟨(a.add (j * 3)).block, (a.add (j * 3)).off + 2, none⟩ = some (.int .i64 (0)) := by have h := hca 2 _ rfl; rwa [add_pos' _ _ (by decide)] at h
                  rw [ha] at y
                  clear ha hca
                  go_wp2
                  try go_quiet (fail)
                  try go_wp2
                  go_roundw
                  case rel => exact ⟨j + 1, by omega, by go_num, Lib.hid (by first | exact HB.out | exact below_drewN HB.out _ | exact HB.out.drew)⟩
                  case measure => simp [intOf]; omega
                case neg =>
                  obtain rfl : j = Q.vars.length := by omega
                  go_wp2
                  go_ret
                  exact ⟨rfl, HBA.out.trans (HB.out.mono hzA)⟩
end Go.Proofs.YtfjiikadnlhekaaDoor
