/-
  What is proved here: a reader's program: what is read, or a panic with the first fault. Conditions: the reader lies in memory, its bytes ahead of the call's own memory.
-/
import Derived.Test.YtfjiikadnlhekaaDoorMid
import Derived.Deep.RegionLaw
namespace Go.Proofs.YtfjiikadnlhekaaDoor
open Go.RowKit

set_option maxHeartbeats 16000000 in
set_option maxRecDepth 100000 in
theorem program_any (b : Nat) (ao : Option Addr) (ca : Nat) (bs : List UInt8) (k : Nat) (w : World) (hR : RAt w b ao ca bs k) (hao : ∀ a, ao = some a → bs ≠ [] → a.block < w.heap.size) :
    Calls Tryd.prog 51 #[.pointer (some ⟨b, 0, none⟩)] w (ProgPost w b (shut bs.length (rBody bs.length (bs.drop k)))) := by
  have HM := Lib.hid (mid_new hR hao)
  obtain ⟨G, hG⟩ : ∃ G, G = rBody bs.length (bs.drop k) := ⟨_, rfl⟩
  rw [← hG]
  have HS := Lib.hid hG
  have hkl := hR.2.2.2.2
  have hlen := hR.2.2.2.1
  clear hR hao hG
  go_enter Tryd.func51, Tryd.ntmps51
  go_wp2_with fail
  refine (rbyte_any b ao ca bs k _ HM.out.reader).mono ?_
  rintro e w2 (⟨c, k1, hG, rfl, hR1, hg1⟩ | ⟨c, p, hG, rfl, hg1⟩)
  case inr => exact ⟨rfl, Or.inr ⟨c, p, shut_err (HS.out.trans (andThen_err hG)), rfl, HM.out.grown.trans hg1⟩⟩
  have hs2 := HS.out.trans (andThen_ok hG)
  have HM2 := Lib.hid (HM.out.read hg1 hR1)
  clear HS hG HM hR1 hg1
  by_cases h87 : c.toNat = 87
  case neg =>
    rw [if_pos h87] at hs2
    have HS2 := Lib.hid hs2
    have h1 : ((c.toNat : Int) == 87) = false := by rw [beq_eq_false_iff_ne]; omega
    have h2 : ((c.toNat : Int) != 87) = true := by rw [bne, h1]; rfl
    clear hs2 h87
    go_wp2_with fail
    refine (fail_any b 83 0 _).mono ?_
    rintro e w' ⟨rfl, rfl⟩
    exact ⟨rfl, Or.inr ⟨83, 0, shut_err HS2.out, rfl, HM2.out.grown⟩⟩
  rw [if_neg (by simpa using h87)] at hs2
  have HS2 := Lib.hid hs2
  have h1 : ((c.toNat : Int) == 87) = true := by rw [beq_iff_eq]; omega
  have h2 : ((c.toNat : Int) != 87) = false := by rw [bne, h1]; rfl
  clear hs2 h87
  go_wp2_with fail
  refine (rmany_any b ao ca bs k1 16 _ HM2.out.reader).mono ?_
  rintro e w3 (⟨q, k2, hG, rfl, hR1, hg1⟩ | ⟨c, p, hG, rfl, hg1⟩)
  case inr => exact ⟨rfl, Or.inr ⟨c, p, shut_err (HS2.out.trans (andThen_err hG)), rfl, HM2.out.grown.trans hg1⟩⟩
  have HS3 := Lib.hid (HS2.out.trans (andThen_ok hG))
  have HM3 := Lib.hid (HM2.out.read hg1 hR1)
  clear HS2 HM2 hR1 hg1 h1 h2
  go_wp2
  have hq := many_le hG
  clear hG
  obtain ⟨i4, hi4, hz40, hz41, hz42⟩ := info_parts info4'
  have HI4 := Lib.hid (And.intro hi4 (And.intro hz40 (And.intro hz41 hz42)))
  clear hi4 hz40 hz41 hz42
  go_loopw [19] (fun ii wr => ∃ (j k' : Nat) (l : List Bool) (v : Value), j ≤ q ∧ ii = .int .i64 (j : Int) ∧ l.length = j ∧ Hid (G = andThen (rReps (rFlag bs.length) (q - j) l) (kVars bs.length) (bs.drop k')) ∧ Hid (Mid w wr b ao ca bs k' #[v, .slice none 0 0, .slice none 0 0, .slice none 0 0, .int .i64 0, .slice none 0 0]) ∧ Hid (wr.ownsRow (w.heap.size + 2) 4 1 v l.length (bools l))) (fun ii _ => q + 1 - (intOf ii).toNat)
  case atStart => exact ⟨0, k2, [], .slice none 0 0, Nat.zero_le _, rfl, rfl, HS3, HM3, Lib.hid (World.ownsRow_nil _ _ _ _)⟩
  case round =>
    clear HS3 HM3
    obtain ⟨j, k', l, v, hj, rfl, hlj, hS, hM, hown⟩ := hrel
    by_cases hlt : j < q
    · have hqj : q - j = (q - (j + 1)) + 1 := by omega
      by_cases hk : k' < bs.length
      case neg =>
        obtain rfl : k' = bs.length := by have := hM.out.reader.2.2.2.2; omega
        have hS2 : Hid (G = .error (81, bs.length)) := Lib.hid (by rw [hS.out, hqj]; exact reps_err (flag_err (rByte_out _ _)))
        clear hqj hlj
        go_wp2_with fail
        refine (byte_out b ao ca bs _ hM.out.reader).mono ?_
        rintro e w' ⟨rfl, hg1⟩
        exact ⟨rfl, Or.inr ⟨81, bs.length, shut_err hS2.out, rfl, hM.out.grown.trans (hg1.but _)⟩⟩
      have hG1 := rByte_in bs.length bs k' hk
      obtain ⟨K1, hK1⟩ : ∃ K1, K1 = k' + 1 := ⟨_, rfl⟩
      have hK : (K1 : Int) - 1 = (k' : Int) := by omega
      have hb := byte_in b ao ca bs k' hk _ hM.out.reader
      rw [← hK1] at hb hG1
      generalize bs[k'] = c at *
      have HK1 := Lib.hid hK1
      have HLJ : Hid (l.length = j) := Lib.hid hlj
      clear hK1 hlj
      by_cases hc1 : 1 < c.toNat
      · have hS2 : Hid (G = .error (82, k')) := Lib.hid (by rw [hS.out, hqj]; exact reps_err (flag_big rfl (by omega) hG1 hc1))
        have hc1' : (1 : Int) < (c.toNat : Int) := by omega
        clear hc1 hqj hG1
        go_wp2_with fail
        refine hb.mono ?_
        rintro e w4 ⟨rfl, hR4, hg4⟩
        have c1 := cell_at hR4.1 1
        go_wp2_with fail
        refine (fail_any b 82 k' _).mono ?_
        rintro e w' ⟨rfl, rfl⟩
        exact ⟨rfl, Or.inr ⟨82, k', shut_err hS2.out, rfl, hM.out.grown.trans hg4⟩⟩
      have hc1' : ¬ ((1 : Int) < (c.toNat : Int)) := by omega
      have hl16 : l.length ≤ 16 := by have := HLJ.out; omega
      rcases (show c.toNat = 0 ∨ c.toNat = 1 by omega) with hc01 | hc01
      all_goals obtain ⟨hi4, hz40, hz41, hz42⟩ := HI4.out
      · have hcv : c.toNat = 0 := by omega
        have h4 : ((c.toNat : Int) == 1) = false := by rw [hcv]; rfl
        have hS4 : Hid (G = andThen (rReps (rFlag bs.length) (q - (j + 1)) (l ++ [false])) (kVars bs.length) (bs.drop K1)) := Lib.hid (by
          have h := flag_ok hG1 (by omega)
          rw [hcv] at h
          rw [hS.out, hqj]
          exact reps_step h)
        clear hcv hc01 hc1 hqj
        go_wp2_with fail
        refine hb.mono ?_
        rintro e w4 ⟨rfl, hR4, hg4⟩
        have HM4 := Lib.hid (hM.out.read hg4 hR4)
        have hown4 := own_keep hown.out (fun j hj => hg4.block j (hown.out.lt j hj).2 (by have := (hown.out.lt j hj).1; have := hM.out.blt; simp; omega))
        have c0 : w4.cell? ⟨w.heap.size + 1, 0, none⟩ = some v := cell_at HM4.out.cells 0
        have hlw := HM4.out.lt
        clear hg4 hR4 hb
        go_wp2_with (at_builtin; go_loud (refine wpList_append_lies _ rfl _ _ 22 rfl (w.heap.size + 2) 4 i4 (.bool false) 1 1 Tryd.underlying22 hi4 hz40 hz41 hz42 rfl (by omega) v l.length (bools l) rfl (hown4.alloc _) ⟨w4.heap.size, 0, none⟩ 1 1 [.bool false] rfl rfl (cell_one_new _ _ _) ?e1 (by omega) ?e2 ?e3 ?e4 (w4.heap.size + 1) (by simp) ?_))
        case e1 => exact bools_one [false]
        case e2 => unfold maxLen; omega
        case e3 => omega
        case e4 => simp; omega
        intro g cap w5 hown5 hgr _ _
        have hM5 := push_mid (HM4.out.alloc (.cells #[.bool false] 4)) (hown4.alloc _) (Nat.le_refl _) hgr
        have c5 := cell_at hM5.cells 0
        have q5 := free_at hM5.cells 0
        have HM6 : Hid (Mid w (w5.setCell ⟨w.heap.size + 1, 0, none⟩ (.slice (some ⟨g, 0, none⟩) (l.length + 1) cap)) b ao ca bs K1 #[.slice (some ⟨g, 0, none⟩) (l.length + 1) cap, .slice none 0 0, .slice none 0 0, .slice none 0 0, .int .i64 0, .slice none 0 0]) := Lib.hid (hM5.store 0 _)
        have hbl : bools l ++ [.bool false] = bools (l ++ [false]) := by simp [bools]
        have hln : (l ++ [false]).length = l.length + 1 := by simp
        have HO6 : Hid ((w5.setCell ⟨w.heap.size + 1, 0, none⟩ (.slice (some ⟨g, 0, none⟩) (l.length + 1) cap)).ownsRow (w.heap.size + 2) 4 1 (.slice (some ⟨g, 0, none⟩) (l.length + 1) cap) (l ++ [false]).length (bools (l ++ [false]))) := Lib.hid (by
          rw [hln, ← hbl]
          exact push_own hown5 (w.heap.size + 1) 0 _ (by omega))
        clear hown4 hown5 hgr hM5 hbl c0 HM4 hM hown
        go_wp2
        go_roundw
        case rel => exact ⟨j + 1, K1, l ++ [false], _, by omega, by go_num, by have := HLJ.out; omega, hS4, HM6, HO6⟩
        case measure => simp [intOf]; omega
      · have hcv : c.toNat = 1 := by omega
        have h4 : ((c.toNat : Int) == 1) = true := by rw [hcv]; rfl
        have hS4 : Hid (G = andThen (rReps (rFlag bs.length) (q - (j + 1)) (l ++ [true])) (kVars bs.length) (bs.drop K1)) := Lib.hid (by
          have h := flag_ok hG1 (by omega)
          rw [hcv] at h
          rw [hS.out, hqj]
          exact reps_step h)
        clear hcv hc01 hc1 hqj
        go_wp2_with fail
        refine hb.mono ?_
        rintro e w4 ⟨rfl, hR4, hg4⟩
        have HM4 := Lib.hid (hM.out.read hg4 hR4)
        have hown4 := own_keep hown.out (fun j hj => hg4.block j (hown.out.lt j hj).2 (by have := (hown.out.lt j hj).1; have := hM.out.blt; simp; omega))
        have c0 : w4.cell? ⟨w.heap.size + 1, 0, none⟩ = some v := cell_at HM4.out.cells 0
        have hlw := HM4.out.lt
        clear hg4 hR4 hb
        go_wp2_with (at_builtin; go_loud (refine wpList_append_lies _ rfl _ _ 22 rfl (w.heap.size + 2) 4 i4 (.bool false) 1 1 Tryd.underlying22 hi4 hz40 hz41 hz42 rfl (by omega) v l.length (bools l) rfl (hown4.alloc _) ⟨w4.heap.size, 0, none⟩ 1 1 [.bool true] rfl rfl (cell_one_new _ _ _) ?f1 (by omega) ?f2 ?f3 ?f4 (w4.heap.size + 1) (by simp) ?_))
        case f1 => exact bools_one [true]
        case f2 => unfold maxLen; omega
        case f3 => omega
        case f4 => simp; omega
        intro g cap w5 hown5 hgr _ _
        have hM5 := push_mid (HM4.out.alloc (.cells #[.bool true] 4)) (hown4.alloc _) (Nat.le_refl _) hgr
        have c5 := cell_at hM5.cells 0
        have q5 := free_at hM5.cells 0
        have HM6 : Hid (Mid w (w5.setCell ⟨w.heap.size + 1, 0, none⟩ (.slice (some ⟨g, 0, none⟩) (l.length + 1) cap)) b ao ca bs K1 #[.slice (some ⟨g, 0, none⟩) (l.length + 1) cap, .slice none 0 0, .slice none 0 0, .slice none 0 0, .int .i64 0, .slice none 0 0]) := Lib.hid (hM5.store 0 _)
        have hbl : bools l ++ [.bool true] = bools (l ++ [true]) := by simp [bools]
        have hln : (l ++ [true]).length = l.length + 1 := by simp
        have HO6 : Hid ((w5.setCell ⟨w.heap.size + 1, 0, none⟩ (.slice (some ⟨g, 0, none⟩) (l.length + 1) cap)).ownsRow (w.heap.size + 2) 4 1 (.slice (some ⟨g, 0, none⟩) (l.length + 1) cap) (l ++ [true]).length (bools (l ++ [true]))) := Lib.hid (by
          rw [hln, ← hbl]
          exact push_own hown5 (w.heap.size + 1) 0 _ (by omega))
        clear hown4 hown5 hgr hM5 hbl c0 HM4 hM hown
        go_wp2
        go_roundw
        case rel => exact ⟨j + 1, K1, l ++ [true], _, by omega, by go_num, by have := HLJ.out; omega, hS4, HM6, HO6⟩
        case measure => simp [intOf]; omega
    · obtain rfl : j = q := by omega
      have hS2 := hS.out
      rw [Nat.sub_self] at hS2
      obtain ⟨o0, cap0, rfl⟩ := own_form hown.out
      have HS2 : Hid (G = kVars bs.length l (bs.drop k')) := Lib.hid hS2
      have hblt := hM.out.blt
      clear hS2 hS hlt hj
      go_wp2_with fail
      refine (rmany_any b ao ca bs k' 16 _ hM.out.reader).mono ?_
      rintro e w3 (⟨q2, k2, hG, rfl, hR1, hg1⟩ | ⟨c, p, hG, rfl, hg1⟩)
      case inr => exact ⟨rfl, Or.inr ⟨c, p, shut_err (HS2.out.trans (andThen_err hG)), rfl, hM.out.grown.trans hg1⟩⟩
      have HS3 : Hid (G = andThen (rReps (rVar bs.length) q2 []) (kTags bs.length l) (bs.drop k2)) := Lib.hid (HS2.out.trans (andThen_ok hG))
      have HM3 := Lib.hid (hM.out.read hg1 hR1)
      have F0 := Lib.hid (ownL_of hown.out hg1 (by omega))
      have hq2 := many_le hG
      have hl0 := HM3.out.lt
      generalize l = gs at *
      subst hlj
      clear HS2 hM hown hG hR1 hg1 HI4
      obtain ⟨i70, hi7, hz70, hz71, hz72⟩ := info_parts info70
      have HI7 := Lib.hid (And.intro hi7 (And.intro hz70 (And.intro hz71 hz72)))
      clear hi7 hz70 hz71 hz72
      go_wp2
      go_loopw [42] (fun ii wr => ∃ (j k' : Nat) (l : List Var3) (v : Value), j ≤ q2 ∧ ii = .int .i64 (j : Int) ∧ l.length = j ∧ Hid (G = andThen (rReps (rVar bs.length) (q2 - j) l) (kTags bs.length gs) (bs.drop k')) ∧ Hid (Mid w wr b ao ca bs k' #[.slice o0 gs.length cap0, v, .slice none 0 0, .slice none 0 0, .int .i64 0, .slice none 0 0]) ∧ Hid (wr.ownsRow w3.heap.size 70 3 v l.length (flat var3 l)) ∧ Hid (Chg w3.heap.size b (w.heap.size + 1) w3 wr)) (fun ii _ => q2 + 1 - (intOf ii).toNat)
      case atStart => exact ⟨0, k2, [], .slice none 0 0, Nat.zero_le _, rfl, rfl, HS3, HM3, Lib.hid (World.ownsRow_nil _ _ _ _), Lib.hid (Chg.refl _ _ _ _)⟩
      case round =>
        clear HS3 HM3
        obtain ⟨j, k', l, v, hj, rfl, hlj, hS, hM, hown, hC⟩ := hrel
        by_cases hlt : j < q2
        · have hqj : q2 - j = (q2 - (j + 1)) + 1 := by omega
          have HQJ := Lib.hid hqj
          have HLJ : Hid (l.length = j) := Lib.hid hlj
          have hl16 : l.length ≤ 16 := by omega
          have hlw := hM.out.lt
          have hx0 : (wr.alloc (.cells #[.int .i64 0, .int .i64 0, .int .i64 0] 70)).heap[wr.heap.size]? = some (.cells #[.int .i64 0, .int .i64 0, .int .i64 0] 70 (0, 0)) := (MapKept.heap_alloc wr _).1
          have hzx : (wr.alloc (.cells #[.int .i64 0, .int .i64 0, .int .i64 0] 70)).heap.size = wr.heap.size + 1 := by simp
          have HMx := Lib.hid (hM.out.alloc (.cells #[.int .i64 0, .int .i64 0, .int .i64 0] 70))
          have HOx := Lib.hid (hown.out.alloc (.cells #[.int .i64 0, .int .i64 0, .int .i64 0] 70))
          have HOr := hown
          have HCx := Lib.hid (hC.out.alloc (Nat.le_refl _) (.cells #[.int .i64 0, .int .i64 0, .int .i64 0] 70))
          have hCs := hC.out.size
          have HX0 := Lib.hid hx0
          have HZX := Lib.hid hzx
          clear hqj hlj hx0 hzx hM hown hC
          go_wp2_with fail
          refine (rint_any b ao ca bs k' _ HMx.out.reader).mono ?_
          rintro e w4 (⟨u0, k4, hG4, rfl, hR4, hg4⟩ | ⟨c, p, hG, rfl, hg1⟩)
          case inr => exact ⟨rfl, Or.inr ⟨c, p, shut_err (hS.out.trans (by rw [HQJ.out]; exact reps_err (var_err1 hG))), rfl, HMx.out.grown.trans hg1⟩⟩
          have HM4 := Lib.hid (HMx.out.read hg4 hR4)
          have HX4 := Lib.hid ((hg4.block wr.heap.size (by have := HZX.out; omega) (by simp; omega)).trans HX0.out)
          have HO4 := Lib.hid (own_keep HOx.out (fun j hj => hg4.block j (HOx.out.lt j hj).2 (by have := (HOx.out.lt j hj).1; simp; omega)))
          have HC4 := Lib.hid (HCx.out.read (Nat.le_refl _) hg4)
          have HG4 := Lib.hid hG4
          clear hg4 hR4 hG4 HMx HOx HCx
          go_wp2_with fail
          refine (rint_any b ao ca bs k4 _ HM4.out.reader).mono ?_
          rintro e w5 (⟨u1, k5, hG5, rfl, hR5, hg5⟩ | ⟨c, p, hG, rfl, hg1⟩)
          case inr => exact ⟨rfl, Or.inr ⟨c, p, shut_err (hS.out.trans (by rw [HQJ.out]; exact reps_err (var_err2 HG4.out hG))), rfl, HM4.out.grown.trans hg1⟩⟩
          have HM5 := Lib.hid (HM4.out.read hg5 hR5)
          have hx4l := (Array.getElem?_eq_some_iff.1 HX4.out).1
          have HX5 := Lib.hid ((hg5.block wr.heap.size hx4l (by simp; omega)).trans HX4.out)
          have HO5 := Lib.hid (own_keep HO4.out (fun j hj => hg5.block j (HO4.out.lt j hj).2 (by have := (HO4.out.lt j hj).1; simp; omega)))
          have HC5 := Lib.hid (HC4.out.read (Nat.le_refl _) hg5)
          have HG5 := Lib.hid hG5
          clear hg5 hR5 hG5 HM4 HO4 HC4
          go_wp2_with fail
          refine (rint_any b ao ca bs k5 _ HM5.out.reader).mono ?_
          rintro e w6 (⟨u2, k6, hG6, rfl, hR6, hg6⟩ | ⟨c, p, hG, rfl, hg1⟩)
          case inr => exact ⟨rfl, Or.inr ⟨c, p, shut_err (hS.out.trans (by rw [HQJ.out]; exact reps_err (var_err3 HG4.out HG5.out hG))), rfl, HM5.out.grown.trans hg1⟩⟩
          have hM6 := HM5.out.read hg6 hR6
          have hx5l := (Array.getElem?_eq_some_iff.1 HX5.out).1
          have hx6 := (hg6.block wr.heap.size hx5l (by simp; omega)).trans HX5.out
          have hx6l := (Array.getElem?_eq_some_iff.1 hx6).1
          have hO6 := own_keep HO5.out (fun j hj => hg6.block j (HO5.out.lt j hj).2 (by have := (HO5.out.lt j hj).1; simp; omega))
          have hC6 := HC5.out.read (Nat.le_refl _) hg6
          have hS6 : Hid (G = andThen (rReps (rVar bs.length) (q2 - (j + 1)) (l ++ [(u0, u1, u2)])) (kTags bs.length gs) (bs.drop k6)) := Lib.hid (by
            rw [hS.out, HQJ.out]
            exact reps_step (var_ok HG4.out HG5.out hG6))
          have d0 := cell_at hx6 0
          have d1 := cell_at hx6 1
          have d2 := cell_at hx6 2
          have r0 := free_at hx6 0
          have r1 := free_at hx6 1
          have r2 := free_at hx6 2
          have hM9 := ((hM6.other wr.heap.size 0 (.int .i64 u0) (by omega)).other wr.heap.size 1 (.int .i64 u1) (by omega)).other wr.heap.size 2 (.int .i64 u2) (by omega)
          have hC9 := ((hC6.other (Nat.le_refl _) wr.heap.size 0 (.int .i64 u0) (by omega)).other (Nat.le_refl _) wr.heap.size 1 (.int .i64 u1) (by omega)).other (Nat.le_refl _) wr.heap.size 2 (.int .i64 u2) (by omega)
          have hx9 : (((w6.setCell ⟨wr.heap.size, 0, none⟩ (.int .i64 u0)).setCell ⟨wr.heap.size, 1, none⟩ (.int .i64 u1)).setCell ⟨wr.heap.size, 2, none⟩ (.int .i64 u2)).heap[wr.heap.size]? = some (.cells #[.int .i64 u0, .int .i64 u1, .int .i64 u2] 70 (0, 0)) := set_block (set_block (set_block hx6 0 (.int .i64 u0)) 1 (.int .i64 u1)) 2 (.int .i64 u2)
          have c1 : (((w6.setCell ⟨wr.heap.size, 0, none⟩ (.int .i64 u0)).setCell ⟨wr.heap.size, 1, none⟩ (.int .i64 u1)).setCell ⟨wr.heap.size, 2, none⟩ (.int .i64 u2)).cell? ⟨w.heap.size + 1, 1, none⟩ = some v := cell_at hM9.cells 1
          have e0 := cell_at hx9 0
          have e1 := cell_at hx9 1
          have e2 := cell_at hx9 2
          have HM9 := Lib.hid hM9
          have HC9 := Lib.hid hC9
          have hO9 : (((w6.setCell ⟨wr.heap.size, 0, none⟩ (.int .i64 u0)).setCell ⟨wr.heap.size, 1, none⟩ (.int .i64 u1)).setCell ⟨wr.heap.size, 2, none⟩ (.int .i64 u2)).ownsRow w3.heap.size 70 3 v l.length (flat var3 l) := own_keep hO6 (fun j hj => by
            have h1 := (HOr.out.lt j hj).2
            rw [set_other _ _ (by omega), set_other _ _ (by omega), set_other _ _ (by omega)])
          have HO9 := Lib.hid hO9
          clear hM9 hC9 hx9 hM6 hC6 hx6 hO6 hO9
          clear hg6 hR6 hG6 HM5 HO5 HC5 HX4 HX5 HX0 hS HG4 HG5
          have hnew : ((((w6.setCell ⟨wr.heap.size, 0, none⟩ (.int .i64 u0)).setCell ⟨wr.heap.size, 1, none⟩ (.int .i64 u1)).setCell ⟨wr.heap.size, 2, none⟩ (.int .i64 u2)).alloc (.cells #[.int .i64 u0, .int .i64 u1, .int .i64 u2] 70)).heap[w6.heap.size]? = some (.cells #[.int .i64 u0, .int .i64 u1, .int .i64 u2] 70 (0, 0)) := by
            have h := heap_alloc_new (((w6.setCell ⟨wr.heap.size, 0, none⟩ (.int .i64 u0)).setCell ⟨wr.heap.size, 1, none⟩ (.int .i64 u1)).setCell ⟨wr.heap.size, 2, none⟩ (.int .i64 u2)) (.cells #[.int .i64 u0, .int .i64 u1, .int .i64 u2] 70)
            simpa [World.setCell] using h
          have HNEW := Lib.hid hnew
          obtain ⟨hi7, hz70, hz71, hz72⟩ := HI7.out
          have hc6 := HC9.out.size
          clear hnew
          go_wp2_with (at_builtin; go_loud (refine wpList_append_lies _ rfl _ _ 23 rfl w3.heap.size 70 i70 (.agg #[.int .i64 0, .int .i64 0, .int .i64 0]) 3 24 Tryd.underlying23 hi7 hz70 hz71 hz72 rfl (by omega) v l.length (flat var3 l) rfl (HO9.out.alloc _) ⟨w6.heap.size, 0, none⟩ 1 1 [.int .i64 u0, .int .i64 u1, .int .i64 u2] rfl rfl (World.news_of_block (cs := #[.int .i64 u0, .int .i64 u1, .int .i64 u2]) (t := 70) (fr := (0, 0)) HNEW.out) ?v1 (by omega) ?v2 ?v3 ?v4 (w6.heap.size + 1) (by simp [World.setCell]) ?_))
          case v1 => exact var3_one [(u0, u1, u2)]
          case v2 => unfold maxLen; omega
          case v3 => omega
          case v4 => simp [World.setCell] at hc6 ⊢; omega
          intro g cap w10 hown10 hgr _ _
          have hM10 := push_mid (HM9.out.alloc (.cells #[.int .i64 u0, .int .i64 u1, .int .i64 u2] 70)) (HO9.out.alloc _) (by omega) hgr
          have c5 := cell_at hM10.cells 1
          have q5 := free_at hM10.cells 1
          have HM11 : Hid (Mid w (w10.setCell ⟨w.heap.size + 1, 1, none⟩ (.slice (some ⟨g, 0, none⟩) (l.length + 1) cap)) b ao ca bs k6 #[.slice o0 gs.length cap0, .slice (some ⟨g, 0, none⟩) (l.length + 1) cap, .slice none 0 0, .slice none 0 0, .int .i64 0, .slice none 0 0]) := Lib.hid (hM10.store 1 _)
          have HC11 := Lib.hid (push_chg (HC9.out.alloc (Nat.le_refl _) (.cells #[.int .i64 u0, .int .i64 u1, .int .i64 u2] 70)) (Nat.le_refl _) (HO9.out.alloc _) (Nat.le_refl _) hgr 1 (.slice (some ⟨g, 0, none⟩) (l.length + 1) cap))
          have HO11 : Hid ((w10.setCell ⟨w.heap.size + 1, 1, none⟩ (.slice (some ⟨g, 0, none⟩) (l.length + 1) cap)).ownsRow w3.heap.size 70 3 (.slice (some ⟨g, 0, none⟩) (l.length + 1) cap) (l ++ [(u0, u1, u2)]).length (flat var3 (l ++ [(u0, u1, u2)]))) := Lib.hid (by
            have hbl : flat var3 l ++ [.int .i64 u0, .int .i64 u1, .int .i64 u2] = flat var3 (l ++ [(u0, u1, u2)]) := by simp [flat, var3]
            have hln : (l ++ [(u0, u1, u2)]).length = l.length + 1 := by simp
            rw [hln, ← hbl]
            exact push_own hown10 (w.heap.size + 1) 1 _ (by omega))
          clear hown10 hgr hM10 c1 d0 d1 d2 r0 r1 r2 e0 e1 e2 hc6 hi7 hz70 hz71 hz72
          go_wp2
          go_roundw
          case rel => exact ⟨j + 1, k6, l ++ [(u0, u1, u2)], _, by omega, by go_num, by have := HLJ.out; simp; omega, hS6, HM11, HO11, HC11⟩
          case measure => simp [intOf]; omega
        · obtain rfl : j = q2 := by omega
          have hS2 := hS.out
          rw [Nat.sub_self] at hS2
          obtain ⟨o1, cap1, rfl⟩ := own_form hown.out
          have HS2 : Hid (G = kTags bs.length gs l (bs.drop k')) := Lib.hid hS2
          clear hS2 hS hlt hj
          go_wp2_with fail
          refine (rmany_any b ao ca bs k' 4 _ hM.out.reader).mono ?_
          rintro e w4 (⟨q3, k2, hG, rfl, hR1, hg1⟩ | ⟨c, p, hG, rfl, hg1⟩)
          case inr => exact ⟨rfl, Or.inr ⟨c, p, shut_err (HS2.out.trans (andThen_err hG)), rfl, hM.out.grown.trans hg1⟩⟩
          have HS3 : Hid (G = andThen (rReps (rTag bs.length) q3 []) (kOn bs.length gs l) (bs.drop k2)) := Lib.hid (HS2.out.trans (andThen_ok hG))
          have HM3 := Lib.hid (hM.out.read hg1 hR1)
          have F0' := Lib.hid ((F0.out.chg (hC.out.read (Nat.le_refl _) hg1) (Nat.le_refl _) (by omega) (by omega)))
          have F1 := Lib.hid (ownL_of hown.out hg1 (by omega))
          have hq3 := many_le hG
          have hl1 := HM3.out.lt
          have hl34 : w3.heap.size ≤ w4.heap.size := Nat.le_trans hC.out.size hg1.size
          generalize l = vs at *
          subst hlj
          clear HS2 hM hown hG hR1 hg1 HI7 hC F0
          obtain ⟨i3, hi3, hz30, hz31, hz32⟩ := info_parts info3
          have HI3 := Lib.hid (And.intro hi3 (And.intro hz30 (And.intro hz31 hz32)))
          clear hi3 hz30 hz31 hz32
          go_wp2
          go_loopw [62] (fun ii wr => ∃ (j k' : Nat) (l : List Int) (v : Value), j ≤ q3 ∧ ii = .int .i64 (j : Int) ∧ l.length = j ∧ Hid (G = andThen (rReps (rTag bs.length) (q3 - j) l) (kOn bs.length gs vs) (bs.drop k')) ∧ Hid (Mid w wr b ao ca bs k' #[.slice o0 gs.length cap0, .slice o1 vs.length cap1, v, .slice none 0 0, .int .i64 0, .slice none 0 0]) ∧ Hid (wr.ownsRow w4.heap.size 3 1 v l.length (nums l)) ∧ Hid (Chg w4.heap.size b (w.heap.size + 1) w4 wr)) (fun ii _ => q3 + 1 - (intOf ii).toNat)
          case atStart => exact ⟨0, k2, [], .slice none 0 0, Nat.zero_le _, rfl, rfl, HS3, HM3, Lib.hid (World.ownsRow_nil _ _ _ _), Lib.hid (Chg.refl _ _ _ _)⟩
          case round =>
            clear HS3 HM3
            obtain ⟨j, k', l, v, hj, rfl, hlj, hS, hM, hown, hC⟩ := hrel
            by_cases hlt : j < q3
            · have hqj : q3 - j = (q3 - (j + 1)) + 1 := by omega
              have HQJ := Lib.hid hqj
              have HLJ : Hid (l.length = j) := Lib.hid hlj
              have hl16 : l.length ≤ 16 := by omega
              have hlw := hM.out.lt
              have hCs := hC.out.size
              have hsv : ∀ (w' : World) (kk : Nat), Mid w w' b ao ca bs kk #[.slice o0 gs.length cap0, .slice o1 vs.length cap1, v, .slice none 0 0, .int .i64 0, .slice none 0 0] → (fun w' : World => w'.cell? ⟨w.heap.size + 1, 2, none⟩ = some v) w' := fun w' kk h => cell_at h.cells 2
              clear hqj hlj
              cases hG3 : rNum bs.length (bs.drop k') with
              | error e =>
                obtain ⟨c, p⟩ := e
                have HG3 := Lib.hid hG3
                have HS4 : Hid (G = .error (c, p)) := Lib.hid (hS.out.trans (by rw [HQJ.out]; exact reps_err (andThen_err HG3.out)))
                have c2 : wr.cell? ⟨w.heap.size + 1, 2, none⟩ = some v := cell_at hM.out.cells 2
                clear hG3
                go_wp2_with fail
                refine wp_region_any (by kernel_rfl) ?_
                try (change wpAny _ _ _ _ _ _ _ (World.drew _))
                refine wpAny_take (i := 0) (v := Value.pointer (some ⟨w.heap.size + 1, 2, none⟩)) rfl (by kernel_rfl) (by kernel_rfl) (by kernel_rfl) (fun _ _ _ h => h) (Or.inl ⟨by rfl, (by intro w; go_simp)⟩) ?_
                refine wpAny_take (i := 2) (v := Value.pointer (some ⟨b, 0, none⟩)) rfl (by kernel_rfl) (by kernel_rfl) (by kernel_rfl) (fun _ _ _ h => h) (Or.inl ⟨by rfl, (by intro w; go_simp)⟩) ?_
                refine wpAny_ready (rs := [1, 3]) (by kernel_rfl) (by simp) ?_
                refine AllReady.cons rfl (fun K hK => ?_) ?_
                · go_simp
                  refine hK _ _ ?_
                  clear hK K
                  refine wpAny_ready (rs := [3]) (by kernel_rfl) (by simp) ?_
                  refine AllReady.cons rfl (fun K hK => ?_) ?_
                  · go_simp
                    go_wp2_with (first | (go_at_call 68; refine (rnum_err HG3.out hM.out.drew.reader).mono ?_; rintro e w5 ⟨rfl, hg5⟩; exact ⟨rfl, Or.inr ⟨c, p, shut_err HS4.out, rfl, hM.out.drew.grown.trans hg5⟩⟩))
                  · exact AllReady.nil
                refine AllReady.cons rfl (fun K hK => ?_) ?_
                · go_simp
                  go_wp2_with (first | (go_at_call 68; refine (rnum_err HG3.out hM.out.drew.reader).mono ?_; rintro e w5 ⟨rfl, hg5⟩; exact ⟨rfl, Or.inr ⟨c, p, shut_err HS4.out, rfl, hM.out.drew.grown.trans hg5⟩⟩))
                · exact AllReady.nil
              | ok x =>
                obtain ⟨u, r3⟩ := x
                have HG3 := Lib.hid hG3
                have HS4 : Hid (G = andThen (rReps (rTag bs.length) (q3 - (j + 1)) (l ++ [(u : Int)])) (kOn bs.length gs vs) r3) := Lib.hid (hS.out.trans (by rw [HQJ.out]; exact reps_step (andThen_ok HG3.out)))
                obtain ⟨hi3, hz30, hz31, hz32⟩ := HI3.out
                have hmv : l.length + 1 ≤ maxLen := by unfold maxLen; omega
                have hmb : (l.length + 1) * 8 ≤ 140737488355328 := by omega
                have ho1 : ∀ y ∈ nums [(u : Int)], y.oneCell' = true := nums_one [(u : Int)]
                clear hG3
                go_wp2_with fail
                have c2 : wr.cell? ⟨w.heap.size + 1, 2, none⟩ = some v := cell_at hM.out.cells 2
                go_region_law (first | (refine step_append_lies _ (by rfl) _ _ _ (by rfl) w4.heap.size 3 i3 _ 1 8 Tryd.underlying24 hi3 hz30 hz31 hz32 rfl (by omega) v l.length (nums l) (by rfl) (HO5.out.alloc _) ⟨w5.heap.size, 0, none⟩ 1 1 (nums [(u : Int)]) (by rfl) (by rfl) (cell_one_new _ _ _) ho1 (by omega) hmv hmb (by simp; omega) (w5.heap.size + 1) (by simp) ?_; intro g cap w10 hown10 hgr _ _; have HM10 := Lib.hid (push_mid (HM5.out.alloc (.cells #[.int .i64 (u : Int)] 3)) (HO5.out.alloc _) (by omega) hgr); have c5 := cell_at HM10.out.cells 2; have q5 := free_at HM10.out.cells 2) | (go_simp; go_at_call 68; refine (rnum_ok HG3.out hM.out.drew.reader).mono ?_; rintro e w5 ⟨rfl, k5, hk5, hR5, hg5⟩; have HM5 := Lib.hid (hM.out.drew.read hg5 hR5); have c52 : w5.cell? ⟨w.heap.size + 1, 2, none⟩ = some v := cell_at HM5.out.cells 2; have HO5 := Lib.hid (own_keep (w' := w5) (own_keep (w' := wr.drew) hown.out (fun j hj => rfl)) (fun j hj => hg5.block j (hown.out.lt j hj).2 (by have := (hown.out.lt j hj).1; simp; omega))); have hz5 := HM5.out.lt; have hz45 : w4.heap.size ≤ w5.heap.size := Nat.le_trans hCs hg5.size; have HK5 := Lib.hid hk5; clear hk5))
                all_goals
                  have HM11 : Hid (Mid w (w10.setCell ⟨w.heap.size + 1, 2, none⟩ (.slice (some ⟨g, 0, none⟩) (l.length + 1) cap)) b ao ca bs k5 #[.slice o0 gs.length cap0, .slice o1 vs.length cap1, .slice (some ⟨g, 0, none⟩) (l.length + 1) cap, .slice none 0 0, .int .i64 0, .slice none 0 0]) := Lib.hid (HM10.out.store 2 _)
                  have HC11 := Lib.hid (push_chg ((hC.out.drew.read (Nat.le_refl _) hg5).alloc (Nat.le_refl _) (.cells #[.int .i64 (u : Int)] 3)) (Nat.le_refl _) (HO5.out.alloc _) (Nat.le_refl _) hgr 2 (.slice (some ⟨g, 0, none⟩) (l.length + 1) cap))
                  have HO11 : Hid ((w10.setCell ⟨w.heap.size + 1, 2, none⟩ (.slice (some ⟨g, 0, none⟩) (l.length + 1) cap)).ownsRow w4.heap.size 3 1 (.slice (some ⟨g, 0, none⟩) (l.length + 1) cap) (l ++ [(u : Int)]).length (nums (l ++ [(u : Int)]))) := Lib.hid (by
                    have hbl : nums l ++ nums [(u : Int)] = nums (l ++ [(u : Int)]) := by simp [nums]
                    have hln : (l ++ [(u : Int)]).length = l.length + 1 := by simp
                    rw [hln, ← hbl]
                    exact push_own hown10 (w.heap.size + 1) 2 _ (by omega))
                  have HS5 : Hid (G = andThen (rReps (rTag bs.length) (q3 - (j + 1)) (l ++ [(u : Int)])) (kOn bs.length gs vs) (bs.drop k5)) := Lib.hid (by rw [← HK5.out]; exact HS4.out)
                  clear hown10 hgr hg5 hR5 c5 q5 c2 c52 hi3 hz30 hz31 hz32 hsv ho1 hmv hmb
                  go_wp2
                  go_roundw
                  case rel => exact ⟨j + 1, k5, l ++ [(u : Int)], _, by omega, by go_num, by have := HLJ.out; simp; omega, HS5, HM11, HO11, HC11⟩
                  case measure => simp [intOf]; omega
            · obtain rfl : j = q3 := by omega
              have hS2 := hS.out
              rw [Nat.sub_self] at hS2
              obtain ⟨o2, cap2, rfl⟩ := own_form hown.out
              have HS2 : Hid (G = andThen (rReps (rOn bs.length) gs.length []) (kMiss bs.length gs vs l) (bs.drop k')) := Lib.hid hS2
              have G0 := Lib.hid (F0'.out.chg hC.out (by omega) (by omega) (by omega))
              have G1 := Lib.hid (F1.out.chg hC.out (Nat.le_refl _) (by omega) (by omega))
              have G2 := Lib.hid (ownL_of hown.out (World.grownBy.refl wr (some b)) (by omega))
              have hl2 := hM.out.lt
              have hl45 : w4.heap.size ≤ wr.heap.size := hC.out.size
              have hM9 := hM
              have y0 := cell_at hM.out.cells 0
              generalize l = ts at *
              generalize wr = w5 at *
              subst hlj
              have hts : ts.length ≤ 4 := by omega
              clear hS2 hS hlt hj hM hown hC F0' F1
              go_wp2
              clear y0
              go_loopw [75] (fun ii wr => ∃ (j k' : Nat) (l : List Int) (v : Value), j ≤ gs.length ∧ ii = .int .i64 (j : Int) ∧ l.length = j ∧ Hid (G = andThen (rReps (rOn bs.length) (gs.length - j) l) (kMiss bs.length gs vs ts) (bs.drop k')) ∧ Hid (Mid w wr b ao ca bs k' #[.slice o0 gs.length cap0, .slice o1 vs.length cap1, .slice o2 ts.length cap2, v, .int .i64 0, .slice none 0 0]) ∧ Hid (wr.ownsRow w5.heap.size 3 1 v l.length (nums l)) ∧ Hid (Chg w5.heap.size b (w.heap.size + 1) w5 wr)) (fun ii _ => gs.length + 1 - (intOf ii).toNat)
              case atStart => exact ⟨0, k', [], .slice none 0 0, Nat.zero_le _, rfl, rfl, HS2, hM9, Lib.hid (World.ownsRow_nil _ _ _ _), Lib.hid (Chg.refl _ _ _ _)⟩
              case round =>
                clear HS2 hM9
                clear k'
                obtain ⟨j, k', l, v, hj, rfl, hlj, hS, hM, hown, hC⟩ := hrel
                by_cases hlt : j < gs.length
                · have hqj : gs.length - j = (gs.length - (j + 1)) + 1 := by omega
                  have HQJ := Lib.hid hqj
                  have HLJ : Hid (l.length = j) := Lib.hid hlj
                  have hl16 : l.length ≤ 16 := by omega
                  have hlw := hM.out.lt
                  have hCs := hC.out.size
                  clear hqj hlj
                  cases hG3 : rNum bs.length (bs.drop k') with
                  | error e =>
                    obtain ⟨c, p⟩ := e
                    have HG3 := Lib.hid hG3
                    have HS4 : Hid (G = .error (c, p)) := Lib.hid (hS.out.trans (by rw [HQJ.out]; exact reps_err (andThen_err HG3.out)))
                    have c2 : wr.cell? ⟨w.heap.size + 1, 3, none⟩ = some v := cell_at hM.out.cells 3
                    clear hG3
                    go_wp2_with fail
                    refine wp_region_any (by kernel_rfl) ?_
                    try (change wpAny _ _ _ _ _ _ _ (World.drew _))
                    refine wpAny_take (i := 0) (v := Value.pointer (some ⟨w.heap.size + 1, 3, none⟩)) rfl (by kernel_rfl) (by kernel_rfl) (by kernel_rfl) (fun _ _ _ h => h) (Or.inl ⟨by rfl, (by intro w; go_simp)⟩) ?_
                    refine wpAny_take (i := 2) (v := Value.pointer (some ⟨b, 0, none⟩)) rfl (by kernel_rfl) (by kernel_rfl) (by kernel_rfl) (fun _ _ _ h => h) (Or.inl ⟨by rfl, (by intro w; go_simp)⟩) ?_
                    refine wpAny_ready (rs := [1, 3]) (by kernel_rfl) (by simp) ?_
                    refine AllReady.cons rfl (fun K hK => ?_) ?_
                    · go_simp
                      refine hK _ _ ?_
                      clear hK K
                      refine wpAny_ready (rs := [3]) (by kernel_rfl) (by simp) ?_
                      refine AllReady.cons rfl (fun K hK => ?_) ?_
                      · go_simp
                        go_wp2_with (first | (go_at_call 68; refine (rnum_err HG3.out hM.out.drew.reader).mono ?_; rintro e w5 ⟨rfl, hg5⟩; exact ⟨rfl, Or.inr ⟨c, p, shut_err HS4.out, rfl, hM.out.drew.grown.trans hg5⟩⟩))
                      · exact AllReady.nil
                    refine AllReady.cons rfl (fun K hK => ?_) ?_
                    · go_simp
                      go_wp2_with (first | (go_at_call 68; refine (rnum_err HG3.out hM.out.drew.reader).mono ?_; rintro e w5 ⟨rfl, hg5⟩; exact ⟨rfl, Or.inr ⟨c, p, shut_err HS4.out, rfl, hM.out.drew.grown.trans hg5⟩⟩))
                    · exact AllReady.nil
                  | ok x =>
                    obtain ⟨u, r3⟩ := x
                    have HG3 := Lib.hid hG3
                    have HS4 : Hid (G = andThen (rReps (rOn bs.length) (gs.length - (j + 1)) (l ++ [(u : Int) - 1])) (kMiss bs.length gs vs ts) r3) := Lib.hid (hS.out.trans (by rw [HQJ.out]; exact reps_step (andThen_ok HG3.out)))
                    obtain ⟨hi3, hz30, hz31, hz32⟩ := HI3.out
                    have hmv : l.length + 1 ≤ maxLen := by unfold maxLen; omega
                    have hmb : (l.length + 1) * 8 ≤ 140737488355328 := by omega
                    have ho1 : ∀ y ∈ nums [(u : Int) - 1], y.oneCell' = true := nums_one [(u : Int) - 1]
                    have hub := (num_wrote _ _ _ _ hG3).1
                    have c2 : wr.cell? ⟨w.heap.size + 1, 3, none⟩ = some v := cell_at hM.out.cells 3
                    have hwr : IntKind.i64.wrap ((u : Int) - 1) = (u : Int) - 1 := IntWalk.i64_in _ (by omega)
                    clear hG3
                    go_wp2_with fail
                    go_region_law (first | (refine step_append_lies _ (by rfl) _ _ _ (by rfl) w5.heap.size 3 i3 _ 1 8 Tryd.underlying24 hi3 hz30 hz31 hz32 rfl (by omega) v l.length (nums l) (by rfl) (HO6.out.alloc _) ⟨w6.heap.size, 0, none⟩ 1 1 (nums [(u : Int) - 1]) (by rfl) (by rfl) (cell_one_new _ _ _) ho1 (by omega) hmv hmb (by simp; omega) (w6.heap.size + 1) (by simp) ?_; intro g cap w10 hown10 hgr _ _; have HM10 := Lib.hid (push_mid (HM6.out.alloc (.cells #[.int .i64 ((u : Int) - 1)] 3)) (HO6.out.alloc _) (by omega) hgr); have c5 := cell_at HM10.out.cells 3; have q5 := free_at HM10.out.cells 3) | (go_simp; go_at_call 68; refine (rnum_ok HG3.out hM.out.drew.reader).mono ?_; rintro e w6 ⟨rfl, k6, hk6, hR6, hg6⟩; have HM6 := Lib.hid (hM.out.drew.read hg6 hR6); have c62 : w6.cell? ⟨w.heap.size + 1, 3, none⟩ = some v := cell_at HM6.out.cells 3; have HO6 := Lib.hid (own_keep (w' := w6) (own_keep (w' := wr.drew) hown.out (fun j hj => rfl)) (fun j hj => hg6.block j (hown.out.lt j hj).2 (by have := (hown.out.lt j hj).1; simp; omega))); have hz6 := HM6.out.lt; have hz56 : w5.heap.size ≤ w6.heap.size := Nat.le_trans hCs hg6.size; have HK6 := Lib.hid hk6; clear hk6))
                    all_goals
                      have HM11 : Hid (Mid w (w10.setCell ⟨w.heap.size + 1, 3, none⟩ (.slice (some ⟨g, 0, none⟩) (l.length + 1) cap)) b ao ca bs k6 #[.slice o0 gs.length cap0, .slice o1 vs.length cap1, .slice o2 ts.length cap2, .slice (some ⟨g, 0, none⟩) (l.length + 1) cap, .int .i64 0, .slice none 0 0]) := Lib.hid (HM10.out.store 3 _)
                      have HC11 := Lib.hid (push_chg ((hC.out.drew.read (Nat.le_refl _) hg6).alloc (Nat.le_refl _) (.cells #[.int .i64 ((u : Int) - 1)] 3)) (Nat.le_refl _) (HO6.out.alloc _) (Nat.le_refl _) hgr 3 (.slice (some ⟨g, 0, none⟩) (l.length + 1) cap))
                      have HO11 : Hid ((w10.setCell ⟨w.heap.size + 1, 3, none⟩ (.slice (some ⟨g, 0, none⟩) (l.length + 1) cap)).ownsRow w5.heap.size 3 1 (.slice (some ⟨g, 0, none⟩) (l.length + 1) cap) (l ++ [(u : Int) - 1]).length (nums (l ++ [(u : Int) - 1]))) := Lib.hid (by
                        have hbl : nums l ++ nums [(u : Int) - 1] = nums (l ++ [(u : Int) - 1]) := by simp [nums]
                        have hln : (l ++ [(u : Int) - 1]).length = l.length + 1 := by simp
                        rw [hln, ← hbl]
                        exact push_own hown10 (w.heap.size + 1) 3 _ (by omega))
                      have HS5 : Hid (G = andThen (rReps (rOn bs.length) (gs.length - (j + 1)) (l ++ [(u : Int) - 1])) (kMiss bs.length gs vs ts) (bs.drop k6)) := Lib.hid (by rw [← HK6.out]; exact HS4.out)
                      clear hown10 hgr hg6 hR6 c5 q5 c2 c62 hi3 hz30 hz31 hz32 ho1 hmv hmb hwr
                      go_wp2
                      go_roundw
                      case rel => exact ⟨j + 1, k6, l ++ [(u : Int) - 1], _, by omega, by go_num, by have := HLJ.out; simp; omega, HS5, HM11, HO11, HC11⟩
                      case measure => simp [intOf]; omega
                · obtain rfl : j = gs.length := by omega
                  have hS2 := hS.out
                  rw [Nat.sub_self] at hS2
                  obtain ⟨o3, cap3, rfl⟩ := own_form hown.out
                  have HS2 : Hid (G = kMiss bs.length gs vs ts l (bs.drop k')) := Lib.hid hS2
                  have HLJ : Hid (l.length = gs.length) := Lib.hid hlj
                  have hos : l.length ≤ 16 := by omega
                  clear hS2 hS hlt hj hlj HI3
                  go_wp2_with fail
                  refine (rnumber_any b ao ca bs k' _ hM.out.reader).mono ?_
                  rintro e w6 (⟨u, k6, hG, rfl, hR6, hg6⟩ | ⟨c, p, hG, rfl, hg1⟩)
                  case inr => exact ⟨rfl, Or.inr ⟨c, p, shut_err (HS2.out.trans (andThen_err (andThen_err hG))), rfl, hM.out.grown.trans hg1⟩⟩
                  have hub := (num_wrote _ _ _ _ hG).1
                  have hm1 : rOn bs.length (bs.drop k') = .ok ((u : Int) - 1, bs.drop k6) := andThen_ok hG
                  have HS3 : Hid (G = kCode bs.length gs vs ts l ((u : Int) - 1) (bs.drop k6)) := Lib.hid (HS2.out.trans (andThen_ok hm1))
                  have hM6 := hM.out.read hg6 hR6
                  have hO6 := own_keep hown.out (fun j hj => hg6.block j (hown.out.lt j hj).2 (by have := (hown.out.lt j hj).1; simp; omega))
                  have hC6 := hC.out.read (Nat.le_refl _) hg6
                  have d4 := cell_at hM6.cells 4
                  have q4 := free_at hM6.cells 4
                  have HM6 : Hid (Mid w (w6.setCell ⟨w.heap.size + 1, 4, none⟩ (.int .i64 ((u : Int) - 1))) b ao ca bs k6 #[.slice o0 gs.length cap0, .slice o1 vs.length cap1, .slice o2 ts.length cap2, .slice o3 l.length cap3, .int .i64 ((u : Int) - 1), .slice none 0 0]) := Lib.hid (hM6.store 4 _)
                  have HO6 := Lib.hid (ownsRow_setCell_below hO6 (a := ⟨w.heap.size + 1, 4, none⟩) (by show w.heap.size + 1 < w5.heap.size; omega) (.int .i64 ((u : Int) - 1)))
                  have HC6 := Lib.hid (hC6.store 4 (.int .i64 ((u : Int) - 1)))
                  clear HS2 hM hown hC hG hm1 hR6 hg6 hM6 hO6 hC6
                  go_wp2_with fail
                  refine (rmany_any b ao ca bs k6 262144 _ HM6.out.reader).mono ?_
                  rintro e w7 (⟨q5, k7, hG, rfl, hR7, hg7⟩ | ⟨c, p, hG, rfl, hg1⟩)
                  case inr => exact ⟨rfl, Or.inr ⟨c, p, shut_err (HS3.out.trans (andThen_err hG)), rfl, HM6.out.grown.trans hg1⟩⟩
                  have hq5 := many_le hG
                  generalize hmiss : (u : Int) - 1 = ms at *
                  have HS4 : Hid (G = andThen (rReps (rIns bs.length) q5 []) (fun is => told ⟨gs, vs, ts, l, ms, is⟩) (bs.drop k7)) := Lib.hid (HS3.out.trans (andThen_ok hG))
                  have HM7 := Lib.hid (HM6.out.read hg7 hR7)
                  have hC7 := HC6.out.read (Nat.le_refl _) hg7
                  have G0' := Lib.hid (G0.out.chg hC7 (by omega) (by omega) (by omega))
                  have G1' := Lib.hid (G1.out.chg hC7 (by omega) (by omega) (by omega))
                  have G2' := Lib.hid (G2.out.chg hC7 (Nat.le_refl _) (by omega) (by omega))
                  have G3 := Lib.hid (ownL_of HO6.out hg7 (by omega))
                  have hl3 := HM7.out.lt
                  have hl57 : w5.heap.size ≤ w7.heap.size := hC7.size
                  generalize l = os at *
                  clear d4 q4 hub HS3 HM6 HO6 HC6 hG hR7 hg7 hC7 G0 G1 G2 hmiss
                  obtain ⟨i57, hi5, hz50, hz51, hz52⟩ := info_parts info57
                  have HI5 := Lib.hid (And.intro hi5 (And.intro hz50 (And.intro hz51 hz52)))
                  clear hi5 hz50 hz51 hz52
                  go_wp2
                  go_loopw [92] (fun ii wr => ∃ (j k' : Nat) (l : List Ins5) (v : Value), j ≤ q5 ∧ ii = .int .i64 (j : Int) ∧ Hid (l.length = j) ∧ Hid (G = andThen (rReps (rIns bs.length) (q5 - j) l) (fun is => told ⟨gs, vs, ts, os, ms, is⟩) (bs.drop k')) ∧ Hid (Mid w wr b ao ca bs k' #[.slice o0 gs.length cap0, .slice o1 vs.length cap1, .slice o2 ts.length cap2, .slice o3 os.length cap3, .int .i64 ms, v]) ∧ Hid (wr.ownsRow w7.heap.size 57 5 v l.length (flat ins5 l)) ∧ Hid (Chg w7.heap.size b (w.heap.size + 1) w7 wr)) (fun ii _ => q5 + 1 - (intOf ii).toNat)
                  case atStart => exact ⟨0, k7, [], .slice none 0 0, Nat.zero_le _, rfl, Lib.hid rfl, HS4, HM7, Lib.hid (World.ownsRow_nil _ _ _ _), Lib.hid (Chg.refl _ _ _ _)⟩
                  case round =>
                    clear HS4 HM7
                    clear k' k6 k7
                    obtain ⟨j, k', l, v, hj, rfl, HLJ, hSS, hM, hown, hC⟩ := hrel
                    by_cases hlt : j < q5
                    · have hqj : q5 - j = (q5 - (j + 1)) + 1 := by omega
                      have HQJ := Lib.hid hqj
                      have hl16 : l.length ≤ 262144 := by have := HLJ.out; omega
                      have hlw := hM.out.lt
                      have hCs := hC.out.size
                      have c1 : wr.cell? ⟨b, 1, none⟩ = some (.int .i64 (k' : Int)) := cell_at hM.out.reader.1 1
                      have hkb := hM.out.reader.2.2.2.2
                      have hx0 : (wr.alloc (.cells #[.int .i64 0, .int .i64 0, .int .i64 0, .int .i64 0, .int .i64 0] 57)).heap[wr.heap.size]? = some (.cells #[.int .i64 0, .int .i64 0, .int .i64 0, .int .i64 0, .int .i64 0] 57 (0, 0)) := (MapKept.heap_alloc wr _).1
                      have hzx : (wr.alloc (.cells #[.int .i64 0, .int .i64 0, .int .i64 0, .int .i64 0, .int .i64 0] 57)).heap.size = wr.heap.size + 1 := by simp
                      have HMx := Lib.hid (hM.out.alloc (.cells #[.int .i64 0, .int .i64 0, .int .i64 0, .int .i64 0, .int .i64 0] 57))
                      have HOx := Lib.hid (hown.out.alloc (.cells #[.int .i64 0, .int .i64 0, .int .i64 0, .int .i64 0, .int .i64 0] 57))
                      have HCx := Lib.hid (hC.out.alloc (Nat.le_refl _) (.cells #[.int .i64 0, .int .i64 0, .int .i64 0, .int .i64 0, .int .i64 0] 57))
                      have HVB0 : Hid (∀ j, v.ownBlock = some j → j < wr.heap.size) := Lib.hid (fun j hj => (hown.out.lt j hj).2)
                      have HX0 := Lib.hid hx0
                      have HZX := Lib.hid hzx
                      clear hqj hx0 hzx hM hown hC
                      go_wp2_with fail
                      refine (rnumber_any b ao ca bs k' _ HMx.out.reader).mono ?_
                      rintro e w8 (⟨op, k8, hG8, rfl, hR8, hg8⟩ | ⟨c, p, hG, rfl, hg1⟩)
                      case inr => exact ⟨rfl, Or.inr ⟨c, p, shut_err (hSS.out.trans (by rw [HQJ.out]; exact reps_err (ins_err hG))), rfl, HMx.out.grown.trans hg1⟩⟩
                      have hM8 := HMx.out.read hg8 hR8
                      have hx8 := (hg8.block wr.heap.size (by have := HZX.out; omega) (by simp; omega)).trans HX0.out
                      have hO8 := own_keep HOx.out (fun j hj => hg8.block j (HOx.out.lt j hj).2 (by have := (HOx.out.lt j hj).1; simp; omega))
                      have hC8 := HCx.out.read (Nat.le_refl _) hg8
                      have hx8l := (Array.getElem?_eq_some_iff.1 hx8).1
                      have d0 := cell_at hx8 0
                      have r0 := free_at hx8 0
                      have hx9 : (w8.setCell ⟨wr.heap.size, 0, none⟩ (.int .i64 (op : Int))).heap[wr.heap.size]? = some (.cells #[.int .i64 (op : Int), .int .i64 0, .int .i64 0, .int .i64 0, .int .i64 0] 57 (0, 0)) := set_block hx8 0 (.int .i64 (op : Int))
                      have hM9 := hM8.other wr.heap.size 0 (.int .i64 (op : Int)) (by omega)
                      have hC9 := hC8.other (Nat.le_refl _) wr.heap.size 0 (.int .i64 (op : Int)) (by omega)
                      have hO9 := own_keep (w' := w8.setCell ⟨wr.heap.size, 0, none⟩ (.int .i64 (op : Int))) hO8 (fun j hj => set_other 0 _ (by have := HVB0.out j hj; omega))
                      have hz9 : (w8.setCell ⟨wr.heap.size, 0, none⟩ (.int .i64 (op : Int))).heap.size = w8.heap.size := by simp [World.setCell]
                      obtain ⟨w9, hw9⟩ : ∃ w9, w9 = w8.setCell ⟨wr.heap.size, 0, none⟩ (.int .i64 (op : Int)) := ⟨_, rfl⟩
                      rw [← hw9] at hx9 hM9 hC9 hO9 hz9
                      have e0 := cell_at hx9 0
                      have HX9 := Lib.hid hx9
                      have HM9 := Lib.hid hM9
                      have HC9 := Lib.hid hC9
                      have HO9 := Lib.hid hO9
                      have HZ9 := Lib.hid hz9
                      have HW9 := Lib.hid hw9
                      have HG8 := Lib.hid hG8
                      have e0' : (w8.setCell ⟨wr.heap.size, 0, none⟩ (.int .i64 (op : Int))).cell? ⟨wr.heap.size, 0, none⟩ = some (.int .i64 (op : Int)) := by rw [← hw9]; exact e0
                      clear hx8 hM8 hO8 hC8 hx9 hM9 hC9 hO9 hz9 hw9 e0 hG8 hR8 hg8 HMx HOx HCx HX0
                      by_cases ho : 42 ≤ op
                      · have HE : Hid (G = .error (91, k')) := Lib.hid (hSS.out.trans (by rw [HQJ.out]; exact reps_err (ins_big rfl hkb HG8.out ho)))
                        have hsh := shape_out (op : Int) (Or.inr (by omega)) w9
                        clear HZX
                        go_wp2_with fail
                        rw [← HW9.out]
                        refine hsh.mono ?_
                        rintro e w10 ⟨rfl, hb10⟩
                        have HM10 := Lib.hid ((HM9.out.below hb10).alloc (.cells #[.string ⟨#[]⟩, .string ⟨#[]⟩] 59))
                        clear hsh hb10
                        go_wp2_with fail
                        refine (fail_any b 91 k' _).mono ?_
                        rintro e w' ⟨rfl, rfl⟩
                        exact ⟨rfl, Or.inr ⟨91, k', shut_err HE.out, rfl, HM10.out.grown⟩⟩
                      · have hop : op < 42 := by omega
                        have hks : kindsOf (op : Int) = (shapes.getD op ([], [])).2 := by unfold kindsOf; simp
                        have hk4 := kinds_short (op : Int)
                        have hsh := shape_in op hop w9
                        rw [← hks] at hsh
                        have HI0 := Lib.hid (ins_op rfl hkb HG8.out hop)
                        generalize kindsOf (op : Int) = ks at *
                        generalize str (shapes.getD op ([], [])).1 = nm at *
                        clear hks ho
                        go_wp2_with fail
                        rw [← HW9.out]
                        refine hsh.mono ?_
                        rintro e w10 ⟨rfl, hb10⟩
                        have hz10 := hb10.size
                        have hz98 := HZ9.out
                        have hX10 := (hb10.block _ (Array.getElem?_eq_some_iff.1 HX9.out).1).trans HX9.out
                        have hX11 := (Below.heap_alloc w10 (.cells #[.string nm, .string (str ks)] 59) _ (Array.getElem?_eq_some_iff.1 hX10).1).trans hX10
                        have hS11 : (w10.alloc (.cells #[.string nm, .string (str ks)] 59)).heap[w10.heap.size]? = some (.cells #[.string nm, .string (str ks)] 59 (0, 0)) := (MapKept.heap_alloc w10 _).1
                        have hM11 := (HM9.out.below hb10).alloc (.cells #[.string nm, .string (str ks)] 59)
                        have hC11 := (HC9.out.below (Nat.le_refl _) hb10).alloc (Nat.le_refl _) (.cells #[.string nm, .string (str ks)] 59)
                        have hO11 := (own_keep (w' := w10) HO9.out (fun j hj => hb10.block j (HO9.out.lt j hj).2)).alloc (.cells #[.string nm, .string (str ks)] 59)
                        have hz11 : (w10.alloc (.cells #[.string nm, .string (str ks)] 59)).heap.size = w10.heap.size + 1 := by simp
                        have s1 := cell_at hS11 1
                        have hss : (str ks).size = ks.length := rfl
                        have hss' : (str ks).size ≤ 4 := by rw [hss]; exact hk4
                        have hX12 := (Below.heap_alloc (w10.alloc (.cells #[.string nm, .string (str ks)] 59)) (.cells #[.pointer (some ⟨wr.heap.size, 1, none⟩), .pointer (some ⟨wr.heap.size, 2, none⟩), .pointer (some ⟨wr.heap.size, 3, none⟩), .pointer (some ⟨wr.heap.size, 4, none⟩)] 133) _ (Array.getElem?_eq_some_iff.1 hX11).1).trans hX11
                        have hS12 := (Below.heap_alloc (w10.alloc (.cells #[.string nm, .string (str ks)] 59)) (.cells #[.pointer (some ⟨wr.heap.size, 1, none⟩), .pointer (some ⟨wr.heap.size, 2, none⟩), .pointer (some ⟨wr.heap.size, 3, none⟩), .pointer (some ⟨wr.heap.size, 4, none⟩)] 133) _ (Array.getElem?_eq_some_iff.1 hS11).1).trans hS11
                        have hQ12 := (MapKept.heap_alloc (w10.alloc (.cells #[.string nm, .string (str ks)] 59)) (.cells #[.pointer (some ⟨wr.heap.size, 1, none⟩), .pointer (some ⟨wr.heap.size, 2, none⟩), .pointer (some ⟨wr.heap.size, 3, none⟩), .pointer (some ⟨wr.heap.size, 4, none⟩)] 133)).1
                        rw [hz11] at hQ12
                        have s1' := cell_at hS12 1
                        have HX12 := Lib.hid hX12
                        have HS12 := Lib.hid hS12
                        have HQ12 := Lib.hid hQ12
                        have HM12 := Lib.hid (hM11.alloc (.cells #[.pointer (some ⟨wr.heap.size, 1, none⟩), .pointer (some ⟨wr.heap.size, 2, none⟩), .pointer (some ⟨wr.heap.size, 3, none⟩), .pointer (some ⟨wr.heap.size, 4, none⟩)] 133))
                        have HC12 := Lib.hid (hC11.alloc (Nat.le_refl _) (.cells #[.pointer (some ⟨wr.heap.size, 1, none⟩), .pointer (some ⟨wr.heap.size, 2, none⟩), .pointer (some ⟨wr.heap.size, 3, none⟩), .pointer (some ⟨wr.heap.size, 4, none⟩)] 133))
                        have HO12 := Lib.hid (hO11.alloc (.cells #[.pointer (some ⟨wr.heap.size, 1, none⟩), .pointer (some ⟨wr.heap.size, 2, none⟩), .pointer (some ⟨wr.heap.size, 3, none⟩), .pointer (some ⟨wr.heap.size, 4, none⟩)] 133))
                        have hord : wr.heap.size < w10.heap.size := by omega
                        clear hX10 hX11 hS11 hM11 hC11 hO11 hX12 hS12 hQ12 hsh hb10 HX9 HM9 HC9 HO9 HZ9 hz98 hz10 hz11 HW9 d0 r0 e0' c1 hx8l
                        go_wp2
                        clear s1 s1'
                        generalize (w10.alloc (.cells #[.string nm, .string (str ks)] 59)).alloc (.cells #[.pointer (some ⟨wr.heap.size, 1, none⟩), .pointer (some ⟨wr.heap.size, 2, none⟩), .pointer (some ⟨wr.heap.size, 3, none⟩), .pointer (some ⟨wr.heap.size, 4, none⟩)] 133) = w12 at *
                        obtain ⟨qb, hqb⟩ : ∃ qb, qb = w10.heap.size + 1 := ⟨_, rfl⟩
                        have HQ12' : Hid (w12.heap[qb]? = some (.cells #[.pointer (some ⟨wr.heap.size, 1, none⟩), .pointer (some ⟨wr.heap.size, 2, none⟩), .pointer (some ⟨wr.heap.size, 3, none⟩), .pointer (some ⟨wr.heap.size, 4, none⟩)] 133 (0, 0))) := by rw [hqb]; exact HQ12
                        clear HQ12
                        have hq2 : w10.heap.size < qb := by omega
                        rw [← hqb] at *
                        clear hqb
                        clear HZX
                        generalize w10.heap.size = sb at *
                        generalize wr.heap.size = xb at *
                        have HI1 : Hid (rIns bs.length (bs.drop k') = andThen (rOpnds bs.length (ks.drop 0) []) (fun l => told (insOf op l)) (bs.drop k8)) := HI0
                        have HVB : Hid (∀ j, v.ownBlock = some j → j < xb) := HVB0
                        clear HVB0 HI0 HG8
                        go_loopw [122] (fun ii wq => ∃ (i k'' : Nat) (l2 : List Int), i ≤ ks.length ∧ ii = .int .i64 (i : Int) ∧ Hid (l2.length = i) ∧ Hid (rIns bs.length (bs.drop k') = andThen (rOpnds bs.length (ks.drop i) l2) (fun l => told (insOf op l)) (bs.drop k'')) ∧ Hid (Mid w wq b ao ca bs k'' #[.slice o0 gs.length cap0, .slice o1 vs.length cap1, .slice o2 ts.length cap2, .slice o3 os.length cap3, .int .i64 ms, v]) ∧ Hid (wq.ownsRow w7.heap.size 57 5 v l.length (flat ins5 l)) ∧ Hid (Chg w7.heap.size b (w.heap.size + 1) w7 wq) ∧ Hid (wq.heap[xb]? = some (.cells (ins5 (insOf op l2)).toArray 57 (0, 0))) ∧ Hid (wq.heap[sb]? = some (.cells #[.string nm, .string (str ks)] 59 (0, 0))) ∧ Hid (wq.heap[qb]? = some (.cells #[.pointer (some ⟨xb, 1, none⟩), .pointer (some ⟨xb, 2, none⟩), .pointer (some ⟨xb, 3, none⟩), .pointer (some ⟨xb, 4, none⟩)] 133 (0, 0)))) (fun ii _ => ks.length + 1 - (intOf ii).toNat)
                        case atStart => exact ⟨0, k8, [], Nat.zero_le _, rfl, Lib.hid rfl, HI1, HM12, HO12, HC12, HX12, HS12, HQ12'⟩
                        case round =>
                          clear HI1 HM12 HO12 HC12 HX12 HS12 HQ12'
                          obtain ⟨i, k'', l2, hi, rfl, HL2, hI, hM, hown, hC, hX, hSb, hQb⟩ := hrel
                          by_cases hik : i < ks.length
                          · have hcq : wr.cell? ⟨qb, i, none⟩ = some (.pointer (some ⟨xb, i + 1, none⟩)) := by
                              rw [cell_at hQb.out i]
                              rcases (show i = 0 ∨ i = 1 ∨ i = 2 ∨ i = 3 by omega) with hi | hi | hi | hi <;> (rw [hi]; rfl)
                            have hcs : wr.cell? ⟨sb, 1, none⟩ = some (.string (str ks)) := cell_at hSb.out 1
                            obtain ⟨c, hc⟩ : ∃ c, ks[i] = c := ⟨_, rfl⟩
                            have hget : (str ks)[i]'(by rw [hss]; exact hik) = c := hc
                            have hf := form_any c.toNat wr
                            unfold formF formG at hf
                            have hfd := field1
                            have HC0 := Lib.hid hc
                            clear hc
                            by_cases h110 : c.toNat = 110
                            · rw [if_pos h110, if_pos h110] at hf
                              have HOP : Hid (rOpnd bs.length ks[i] = rInt bs.length) := Lib.hid (by rw [HC0.out]; exact if_pos h110)
                              clear h110
                              go_wp2_with fail
                              refine hf.mono ?_
                              rintro e w11 ⟨rfl, hb11⟩
                              have HM11 := Lib.hid (hM.out.below hb11)
                              have HX11 := Lib.hid ((hb11.block _ (Array.getElem?_eq_some_iff.1 hX.out).1).trans hX.out)
                              have HS11 := Lib.hid ((hb11.block _ (Array.getElem?_eq_some_iff.1 hSb.out).1).trans hSb.out)
                              have HQ11 := Lib.hid ((hb11.block _ (Array.getElem?_eq_some_iff.1 hQb.out).1).trans hQb.out)
                              have HO11 := Lib.hid (own_keep hown.out (fun j hj => hb11.block j (hown.out.lt j hj).2))
                              have HC11 := Lib.hid (hC.out.below (Nat.le_refl _) hb11)
                              clear hb11 hf hM hX hSb hQb hown hC
                              go_wp2_with fail
                              refine (rint_any b ao ca bs k'' _ HM11.out.reader).mono ?_
                              rintro e w12 (⟨n, k12, hG, rfl, hR12, hg12⟩ | ⟨c, p, hG, rfl, hg1⟩)
                              case inr => exact ⟨rfl, Or.inr ⟨c, p, shut_err (hSS.out.trans (by rw [HQJ.out]; exact reps_err (hI.out.trans (opnds_err hik (by rw [HOP.out]; exact hG))))), rfl, HM11.out.grown.trans hg1⟩⟩
                              have hop2 : rOpnd bs.length ks[i] (bs.drop k'') = .ok (n, bs.drop k12) := by rw [HOP.out]; exact hG
                              have HI12 : Hid (rIns bs.length (bs.drop k') = andThen (rOpnds bs.length (ks.drop (i + 1)) (l2 ++ [n])) (fun l => told (insOf op l)) (bs.drop k12)) := Lib.hid (hI.out.trans (opnds_step hik hop2))
                              have hblt := HM11.out.blt
                              have hx12 := (hg12.block xb (Array.getElem?_eq_some_iff.1 HX11.out).1 (by simp; omega)).trans HX11.out
                              have hs12 := (hg12.block sb (Array.getElem?_eq_some_iff.1 HS11.out).1 (by simp; omega)).trans HS11.out
                              have hq12 := (hg12.block qb (Array.getElem?_eq_some_iff.1 HQ11.out).1 (by simp; omega)).trans HQ11.out
                              have hM12 := HM11.out.read hg12 hR12
                              have hO12 := own_keep HO11.out (fun j hj => hg12.block j (HO11.out.lt j hj).2 (by have := (HO11.out.lt j hj).1; simp; omega))
                              have hC12 := HC11.out.read (Nat.le_refl _) hg12
                              have dX : w12.cell? ⟨xb, i + 1, none⟩ = some (.int .i64 ((opnds (insOf op l2)).getD i 0)) := by
                                rw [cell_at hx12 (i + 1)]
                                rcases (show i = 0 ∨ i = 1 ∨ i = 2 ∨ i = 3 by omega) with hi | hi | hi | hi <;> (rw [hi]; rfl)
                              have qX := free_at hx12 (i + 1)
                              have HX13 : Hid ((w12.setCell ⟨xb, i + 1, none⟩ (.int .i64 n)).heap[xb]? = some (.cells (ins5 (insOf op (l2 ++ [n]))).toArray 57 (0, 0))) := Lib.hid (by
                                have h := set_block hx12 (i + 1) (.int .i64 n)
                                have hl2' := HL2.out
                                rw [← ins_set op l2 _ (by omega), hl2']
                                exact h)
                              have HS13 := Lib.hid ((set_other (w := w12) (b := xb) (i + 1) (.int .i64 n) (show sb ≠ xb by omega)).trans hs12)
                              have HQ13 := Lib.hid ((set_other (w := w12) (b := xb) (i + 1) (.int .i64 n) (show qb ≠ xb by omega)).trans hq12)
                              have HM13 := Lib.hid (hM12.other xb (i + 1) (.int .i64 n) (by omega))
                              have HC13 := Lib.hid (hC12.other (Nat.le_refl _) xb (i + 1) (.int .i64 n) (by omega))
                              have HO13 := Lib.hid (own_keep (w' := w12.setCell ⟨xb, i + 1, none⟩ (.int .i64 n)) hO12 (fun j hj => set_other (i + 1) _ (by have := HVB.out j hj; omega)))
                              have HL3 : Hid ((l2 ++ [n]).length = i + 1) := Lib.hid (by have := HL2.out; simp; omega)
                              clear hx12 hs12 hq12 hM12 hO12 hC12 hop2 hG hR12 hg12 HM11 HX11 HS11 HQ11 HO11 HC11
                              go_wp2
                              go_roundw
                              case rel => exact ⟨i + 1, k12, l2 ++ [n], by omega, by go_num, HL3, HI12, HM13, HO13, HC13, HX13, HS13, HQ13⟩
                              case measure => simp [intOf]; omega
                            · rw [if_neg h110, if_neg h110] at hf
                              have HOP : Hid (rOpnd bs.length ks[i] = rTag bs.length) := Lib.hid (by rw [HC0.out]; exact if_neg h110)
                              clear h110
                              go_wp2_with fail
                              refine hf.mono ?_
                              rintro e w11 ⟨rfl, hb11⟩
                              have HM11 := Lib.hid (hM.out.below hb11)
                              have HX11 := Lib.hid ((hb11.block _ (Array.getElem?_eq_some_iff.1 hX.out).1).trans hX.out)
                              have HS11 := Lib.hid ((hb11.block _ (Array.getElem?_eq_some_iff.1 hSb.out).1).trans hSb.out)
                              have HQ11 := Lib.hid ((hb11.block _ (Array.getElem?_eq_some_iff.1 hQb.out).1).trans hQb.out)
                              have HO11 := Lib.hid (own_keep hown.out (fun j hj => hb11.block j (hown.out.lt j hj).2))
                              have HC11 := Lib.hid (hC.out.below (Nat.le_refl _) hb11)
                              clear hb11 hf hM hX hSb hQb hown hC
                              go_wp2_with fail
                              refine (rnumber_any b ao ca bs k'' _ HM11.out.reader).mono ?_
                              rintro e w12 (⟨n, k12, hG, rfl, hR12, hg12⟩ | ⟨c, p, hG, rfl, hg1⟩)
                              case inr => exact ⟨rfl, Or.inr ⟨c, p, shut_err (hSS.out.trans (by rw [HQJ.out]; exact reps_err (hI.out.trans (opnds_err hik (by rw [HOP.out]; exact andThen_err hG))))), rfl, HM11.out.grown.trans hg1⟩⟩
                              have hop2 : rOpnd bs.length ks[i] (bs.drop k'') = .ok ((n : Int), bs.drop k12) := by rw [HOP.out]; exact andThen_ok hG
                              have HI12 : Hid (rIns bs.length (bs.drop k') = andThen (rOpnds bs.length (ks.drop (i + 1)) (l2 ++ [(n : Int)])) (fun l => told (insOf op l)) (bs.drop k12)) := Lib.hid (hI.out.trans (opnds_step hik hop2))
                              have hblt := HM11.out.blt
                              have hx12 := (hg12.block xb (Array.getElem?_eq_some_iff.1 HX11.out).1 (by simp; omega)).trans HX11.out
                              have hs12 := (hg12.block sb (Array.getElem?_eq_some_iff.1 HS11.out).1 (by simp; omega)).trans HS11.out
                              have hq12 := (hg12.block qb (Array.getElem?_eq_some_iff.1 HQ11.out).1 (by simp; omega)).trans HQ11.out
                              have hM12 := HM11.out.read hg12 hR12
                              have hO12 := own_keep HO11.out (fun j hj => hg12.block j (HO11.out.lt j hj).2 (by have := (HO11.out.lt j hj).1; simp; omega))
                              have hC12 := HC11.out.read (Nat.le_refl _) hg12
                              have dX : w12.cell? ⟨xb, i + 1, none⟩ = some (.int .i64 ((opnds (insOf op l2)).getD i 0)) := by
                                rw [cell_at hx12 (i + 1)]
                                rcases (show i = 0 ∨ i = 1 ∨ i = 2 ∨ i = 3 by omega) with hi | hi | hi | hi <;> (rw [hi]; rfl)
                              have qX := free_at hx12 (i + 1)
                              have HX13 : Hid ((w12.setCell ⟨xb, i + 1, none⟩ (.int .i64 (n : Int))).heap[xb]? = some (.cells (ins5 (insOf op (l2 ++ [(n : Int)]))).toArray 57 (0, 0))) := Lib.hid (by
                                have h := set_block hx12 (i + 1) (.int .i64 (n : Int))
                                have hl2' := HL2.out
                                rw [← ins_set op l2 _ (by omega), hl2']
                                exact h)
                              have HS13 := Lib.hid ((set_other (w := w12) (b := xb) (i + 1) (.int .i64 (n : Int)) (show sb ≠ xb by omega)).trans hs12)
                              have HQ13 := Lib.hid ((set_other (w := w12) (b := xb) (i + 1) (.int .i64 (n : Int)) (show qb ≠ xb by omega)).trans hq12)
                              have HM13 := Lib.hid (hM12.other xb (i + 1) (.int .i64 (n : Int)) (by omega))
                              have HC13 := Lib.hid (hC12.other (Nat.le_refl _) xb (i + 1) (.int .i64 (n : Int)) (by omega))
                              have HO13 := Lib.hid (own_keep (w' := w12.setCell ⟨xb, i + 1, none⟩ (.int .i64 (n : Int))) hO12 (fun j hj => set_other (i + 1) _ (by have := HVB.out j hj; omega)))
                              have HL3 : Hid ((l2 ++ [(n : Int)]).length = i + 1) := Lib.hid (by have := HL2.out; simp; omega)
                              clear hx12 hs12 hq12 hM12 hO12 hC12 hop2 hG hR12 hg12 HM11 HX11 HS11 HQ11 HO11 HC11
                              go_wp2
                              go_roundw
                              case rel => exact ⟨i + 1, k12, l2 ++ [(n : Int)], by omega, by go_num, HL3, HI12, HM13, HO13, HC13, HX13, HS13, HQ13⟩
                              case measure => simp [intOf]; omega
                          · obtain rfl : i = ks.length := by omega
                            have hIn : rIns bs.length (bs.drop k') = .ok (insOf op l2, bs.drop k'') := by
                              rw [hI.out, List.drop_length]; rfl
                            have HS9 : Hid (G = andThen (rReps (rIns bs.length) (q5 - (j + 1)) (l ++ [insOf op l2])) (fun is => told ⟨gs, vs, ts, os, ms, is⟩) (bs.drop k'')) := Lib.hid (hSS.out.trans (by rw [HQJ.out]; exact reps_step hIn))
                            have hx := hX.out
                            generalize insOf op l2 = x5 at *
                            obtain ⟨p0, p1, p2, p3, p4⟩ := x5
                            have f0 : wr.cell? ⟨xb, 0, none⟩ = some (.int .i64 p0) := cell_at hx 0
                            have f1 : wr.cell? ⟨xb, 1, none⟩ = some (.int .i64 p1) := cell_at hx 1
                            have f2 : wr.cell? ⟨xb, 2, none⟩ = some (.int .i64 p2) := cell_at hx 2
                            have f3 : wr.cell? ⟨xb, 3, none⟩ = some (.int .i64 p3) := cell_at hx 3
                            have f4 : wr.cell? ⟨xb, 4, none⟩ = some (.int .i64 p4) := cell_at hx 4
                            have c5 : wr.cell? ⟨w.heap.size + 1, 5, none⟩ = some v := cell_at hM.out.cells 5
                            obtain ⟨hi5, hz50, hz51, hz52⟩ := HI5.out
                            have hwz : w7.heap.size ≤ wr.heap.size := hC.out.size
                            clear hIn hx hX hSb hQb hI HL2 hSS
                            go_wp2_with (at_builtin; go_loud (refine wpList_append_lies _ rfl _ _ 25 rfl w7.heap.size 57 i57 (.agg #[.int .i64 0, .int .i64 0, .int .i64 0, .int .i64 0, .int .i64 0]) 5 40 Tryd.underlying25 hi5 hz50 hz51 hz52 rfl (by omega) v l.length (flat ins5 l) rfl (hown.out.alloc _) ⟨wr.heap.size, 0, none⟩ 1 1 [.int .i64 p0, .int .i64 p1, .int .i64 p2, .int .i64 p3, .int .i64 p4] rfl rfl (World.news_of_block (cs := #[.int .i64 p0, .int .i64 p1, .int .i64 p2, .int .i64 p3, .int .i64 p4]) (t := 57) (fr := (0, 0)) (heap_alloc_new wr _)) ?y1 (by omega) ?y2 ?y3 ?y4 (wr.heap.size + 1) (by simp) ?_))
                            case y1 => exact ins5_one [(p0, p1, p2, p3, p4)]
                            case y2 => unfold maxLen; omega
                            case y3 => omega
                            case y4 => simp; omega
                            intro g cap w14 hown14 hgr _ _
                            have hM14 := push_mid (hM.out.alloc (.cells #[.int .i64 p0, .int .i64 p1, .int .i64 p2, .int .i64 p3, .int .i64 p4] 57)) (hown.out.alloc _) (by omega) hgr
                            have c6 := cell_at hM14.cells 5
                            have q6 := free_at hM14.cells 5
                            have HM15 : Hid (Mid w (w14.setCell ⟨w.heap.size + 1, 5, none⟩ (.slice (some ⟨g, 0, none⟩) (l.length + 1) cap)) b ao ca bs k'' #[.slice o0 gs.length cap0, .slice o1 vs.length cap1, .slice o2 ts.length cap2, .slice o3 os.length cap3, .int .i64 ms, .slice (some ⟨g, 0, none⟩) (l.length + 1) cap]) := Lib.hid (hM14.store 5 _)
                            have HC15 := Lib.hid (push_chg (hC.out.alloc (Nat.le_refl _) (.cells #[.int .i64 p0, .int .i64 p1, .int .i64 p2, .int .i64 p3, .int .i64 p4] 57)) (Nat.le_refl _) (hown.out.alloc _) (Nat.le_refl _) hgr 5 (.slice (some ⟨g, 0, none⟩) (l.length + 1) cap))
                            have HO15 : Hid ((w14.setCell ⟨w.heap.size + 1, 5, none⟩ (.slice (some ⟨g, 0, none⟩) (l.length + 1) cap)).ownsRow w7.heap.size 57 5 (.slice (some ⟨g, 0, none⟩) (l.length + 1) cap) (l ++ [(p0, p1, p2, p3, p4)]).length (flat ins5 (l ++ [(p0, p1, p2, p3, p4)]))) := Lib.hid (by
                              have hbl : flat ins5 l ++ [.int .i64 p0, .int .i64 p1, .int .i64 p2, .int .i64 p3, .int .i64 p4] = flat ins5 (l ++ [(p0, p1, p2, p3, p4)]) := by simp [flat, ins5]
                              have hln : (l ++ [(p0, p1, p2, p3, p4)]).length = l.length + 1 := by simp
                              rw [hln, ← hbl]
                              exact push_own hown14 (w.heap.size + 1) 5 _ (by omega))
                            clear hown14 hgr hM14 c5 f0 f1 f2 f3 f4 hi5 hz50 hz51 hz52 hM hown hC
                            go_wp2
                            go_roundw
                            case rel => exact ⟨j + 1, k'', l ++ [(p0, p1, p2, p3, p4)], _, by omega, by go_num, Lib.hid (by have := HLJ.out; simp; omega), HS9, HM15, HO15, HC15⟩
                            case measure => simp [intOf]; omega
                    · obtain rfl : j = q5 := by omega
                      have hS2 := hSS.out
                      rw [Nat.sub_self] at hS2
                      obtain ⟨o4, cap4, rfl⟩ := own_form hown.out
                      have HOK : Hid (G = .ok (⟨gs, vs, ts, os, ms, l⟩, bs.drop k')) := Lib.hid hS2
                      have hat : wr.cell? ⟨b, 1, none⟩ = some (.int .i64 (k' : Int)) := cell_at hM.out.reader.1 1
                      have hbs : wr.cell? ⟨b, 0, none⟩ = some (.slice ao bs.length ca) := cell_at hM.out.reader.1 0
                      have hkb := hM.out.reader.2.2.2.2
                      clear hS2 hSS hlt hj HI5
                      by_cases hend : k' < bs.length
                      · have HE : Hid (shut bs.length G = .error (84, k')) := Lib.hid (by
                          rw [HOK.out]
                          unfold shut
                          simp only
                          rw [if_neg (by intro e; have := congrArg List.length e; rw [List.length_drop] at this; simp at this; omega), List.length_drop, show bs.length - (bs.length - k') = k' by omega])
                        go_wp2_with fail
                        go_quiet (fail)
                        go_wp2_with fail
                        refine (fail_any b 84 k' _).mono ?_
                        rintro e w' ⟨rfl, rfl⟩
                        exact ⟨rfl, Or.inr ⟨84, k', HE.out, rfl, hM.out.grown.trans ((grown_drewN _ _).but _)⟩⟩
                      · have HE : Hid (shut bs.length G = .ok ⟨gs, vs, ts, os, ms, l⟩) := Lib.hid (by
                          rw [HOK.out]
                          unfold shut
                          simp only
                          rw [if_pos (by apply List.eq_nil_of_length_eq_zero; rw [List.length_drop]; omega)])
                        have F0 := G0'.out.chg hC.out (by omega) (by omega) (by omega)
                        have F1 := G1'.out.chg hC.out (by omega) (by omega) (by omega)
                        have F2 := G2'.out.chg hC.out (by omega) (by omega) (by omega)
                        have F3 := G3.out.chg hC.out (Nat.le_refl _) (by omega) (by omega)
                        have F4 := ownL_of hown.out (World.grownBy.refl wr (some b)) (by omega)
                        have HF : Hid (POwn wr (w.heap.size + 2) ⟨o0, cap0, o1, cap1, o2, cap2, o3, cap3, o4, cap4⟩ ⟨gs, vs, ts, os, ms, l⟩) := Lib.hid
                          ⟨w3.heap.size, w4.heap.size, w5.heap.size, w7.heap.size, wr.heap.size, by omega, by omega, by omega, by omega, hC.out.size, Nat.le_refl _, F0, F1, F2, F3, F4⟩
                        have hpc := hM.out.cells
                        have hz := hM.out.zero
                        go_wp2_with fail
                        go_quiet (fail)
                        generalize hw9 : wr.drewN _ = w9
                        have hg9 : wr.grownBy w9 none := by rw [← hw9]; exact grown_drewN _ _
                        have hh9 : w9.heap = wr.heap := by rw [← hw9]; exact (drewN_same _ _).1
                        rw [← hh9] at hpc hz
                        have HG9 := Lib.hid (hM.out.grown.trans (hg9.but (some b)))
                        have HH9 := Lib.hid hh9
                        have f0 : w9.cell? ⟨w.heap.size + 1, 0, none⟩ = some (.slice o0 gs.length cap0) := cell_at hpc 0
                        have f1 : w9.cell? ⟨w.heap.size + 1, 1, none⟩ = some (.slice o1 vs.length cap1) := cell_at hpc 1
                        have f2 : w9.cell? ⟨w.heap.size + 1, 2, none⟩ = some (.slice o2 ts.length cap2) := cell_at hpc 2
                        have f3 : w9.cell? ⟨w.heap.size + 1, 3, none⟩ = some (.slice o3 os.length cap3) := cell_at hpc 3
                        have f4 : w9.cell? ⟨w.heap.size + 1, 4, none⟩ = some (.int .i64 ms) := cell_at hpc 4
                        have f5 : w9.cell? ⟨w.heap.size + 1, 5, none⟩ = some (.slice o4 l.length cap4) := cell_at hpc 5
                        have z0 := cell_at hz 0
                        have z1 := cell_at hz 1
                        have z2 := cell_at hz 2
                        have z3 := cell_at hz 3
                        have z4 := cell_at hz 4
                        have z5 := cell_at hz 5
                        have q0 := free_at hz 0
                        have q1 := free_at hz 1
                        have q2' := free_at hz 2
                        have q3' := free_at hz 3
                        have q4 := free_at hz 4
                        have q5 := free_at hz 5
                        have HZ := Lib.hid hz
                        have hblt := hM.out.blt
                        clear hpc hz hw9 hg9 hh9 F0 F1 F2 F3 F4 hM hown hC hat hbs G0' G1' G2' G3 HOK
                        go_wp2
                        have SB := six_set HZ.out (.slice o0 gs.length cap0) (.slice o1 vs.length cap1) (.slice o2 ts.length cap2) (.slice o3 os.length cap3) (.int .i64 ms) (.slice o4 l.length cap4)
                        have so := fun k h => six_other w9 w.heap.size k h (.slice o0 gs.length cap0) (.slice o1 vs.length cap1) (.slice o2 ts.length cap2) (.slice o3 os.length cap3) (.int .i64 ms) (.slice o4 l.length cap4)
                        refine bodyPost_ret_by (results_cell_row (p := 2) (ty := 27) (by kernel_rfl) _ _ w.heap.size 27 _ (0, 0) _ rfl SB Tryd.underlying27 rfl (by kernel_rfl)) rfl ?_
                        refine Or.inl ⟨⟨gs, vs, ts, os, ms, l⟩, ⟨o0, cap0, o1, cap1, o2, cap2, o3, cap3, o4, cap4⟩, HE.out, rfl, ?_, ?_⟩
                        · refine (HF.out.stay (fun j hj => ?_) ?_).mono (by omega)
                          · rw [so j (by omega), HH9.out]
                          · have := HH9.out
                            simp [World.setCell, this]
                        · refine ⟨HG9.out.os, HG9.out.tape, HG9.out.output, ?_, fun j hj hb => (so j (by omega)).trans (HG9.out.block j hj hb)⟩
                          have := HG9.out.size
                          simpa [World.setCell] using this
end Go.Proofs.YtfjiikadnlhekaaDoor
