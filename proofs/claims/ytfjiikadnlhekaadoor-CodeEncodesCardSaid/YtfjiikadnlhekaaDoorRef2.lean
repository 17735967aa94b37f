/-
  What is proved here: the reference's Operands and Check: what the program's own Check says. Conditions: the program lies in memory.
-/
import Derived.Test.YtfjiikadnlhekaaDoorRef1
import Derived.Test.YtfjiikadnlhekaaDoorFits
import Derived.Deep.RegionHeld3
import Derived.BigQuiet
namespace Go.Proofs.YtfjiikadnlhekaaDoor
open Go.RowKit

set_option maxHeartbeats 1000000 in
set_option maxRecDepth 100000 in
theorem operands_any (p0 p1 p2 p3 p4 : Int) (w : World) :
    Calls Tryd.prog 44 #[.agg #[.int .i64 p0, .int .i64 p1, .int .i64 p2, .int .i64 p3, .int .i64 p4]] w fun e w' => e = .returned (.agg #[.int .i64 p1, .int .i64 p2, .int .i64 p3, .int .i64 p4]) ∧ Below w.heap.size w w' := by
  have hb : Below w.heap.size w ((w.alloc (.cells #[.int .i64 p0, .int .i64 p1, .int .i64 p2, .int .i64 p3, .int .i64 p4] 57)).alloc (.cells #[.int .i64 p1, .int .i64 p2, .int .i64 p3, .int .i64 p4] 93)) := ((Below.refl _ w).alloc (Nat.le_refl _) _).alloc (by simp) _
  have HB := Lib.hid hb
  clear hb
  go_enter Tryd.func44, Tryd.ntmps44
  go_wp2
  refine bodyPost_ret (v := _) (by simp [results, Tryd.results44, go_sem]) rfl ⟨rfl, HB.out⟩

theorem tab_lens (P : Prg) (h : ¬ lensOk P) : tabOk P = false := by unfold tabOk; simp [h]

def cellInt (v : Option Value) : Option Int := match v with | some (.int .i64 z) => some z | _ => none
theorem cellInt_some {v : Option Value} {z : Int} (h : cellInt v = some z) : v = some (.int .i64 z) := by
  unfold cellInt at h
  split at h
  · cases h; rfl
  · cases h
theorem table_kind : ∀ op, op < 42 → ∀ i, i < 4 → cellInt tableCells[op * 5 + 1 + i]? = some (tabKind op i : Int) := by decide +kernel

set_option maxHeartbeats 8000000 in
set_option maxRecDepth 100000 in
theorem rcheck_any (s : Spots) (P : Prg) (w : World) (hP : PAt w s P) :
    Calls Tryd.prog 17 #[pval s P] w fun e w' => e = .returned (.int .i64 (checkErr P)) ∧ Below w.heap.size w w' := by
  obtain ⟨fA, hbA⟩ := one_block w s P 27
  unfold pcells at fA hbA
  have l0 := hP.lghost
  have l1 := hP.lvars
  have l2 := hP.ltags
  have l3 := hP.lon
  have l4 := hP.lcode
  have x0 := fA.f0
  have x1 := fA.f1
  have x2 := fA.f2
  have x3 := fA.f3
  have x4 := fA.f4
  have x5 := fA.f5
  generalize hA : w.alloc (.cells #[.slice s.a0 P.ghost.length s.c0, .slice s.a1 P.vars.length s.c1, .slice s.a2 P.tags.length s.c2, .slice s.a3 P.on.length s.c3, .int .i64 P.miss, .slice s.a4 P.code.length s.c4] 27) = wA at *
  have H85 : Hid (tabOk P = false → checkErr P = 85) := Lib.hid (fun h => by unfold checkErr; rw [h]; rfl)
  have HP := Lib.hid (hP.below hbA)
  have FA := Lib.hid fA
  have HB := Lib.hid hbA
  have hzA := hbA.size
  clear hP fA hbA
  unfold pval
  by_cases c0 : P.ghost.length ≤ 16
  case neg =>
    have d0 : decide (((P.ghost.length : Nat) : Int) > 16) = true := decide_eq_true (by omega)
    have h := Lib.hid (H85.out (tab_lens P fun h => c0 h.1))
    go_enter Tryd.func17, Tryd.ntmps17
    go_wp2
    go_ret
    exact ⟨ret_int h.out, HB.out⟩
  have d0 : decide (((P.ghost.length : Nat) : Int) > 16) = false := decide_eq_false (by omega)
  by_cases c1 : P.vars.length ≤ 16
  case neg =>
    have d1 : decide (((P.vars.length : Nat) : Int) > 16) = true := decide_eq_true (by omega)
    have h := Lib.hid (H85.out (tab_lens P fun h => c1 h.2.1))
    go_enter Tryd.func17, Tryd.ntmps17
    go_wp2
    go_ret
    exact ⟨ret_int h.out, HB.out⟩
  have d1 : decide (((P.vars.length : Nat) : Int) > 16) = false := decide_eq_false (by omega)
  by_cases c2 : P.tags.length ≤ 4
  case neg =>
    have d2 : decide (((P.tags.length : Nat) : Int) > 4) = true := decide_eq_true (by omega)
    have h := Lib.hid (H85.out (tab_lens P fun h => c2 h.2.2.1))
    go_enter Tryd.func17, Tryd.ntmps17
    go_wp2
    go_ret
    exact ⟨ret_int h.out, HB.out⟩
  have d2 : decide (((P.tags.length : Nat) : Int) > 4) = false := decide_eq_false (by omega)
  go_enter Tryd.func17, Tryd.ntmps17
  go_wp2_with fail
  try rw [hA]
  refine (vars_any s.a1 s.c1 P.vars wA HP.out.vars l1).mono ?_
  rintro e w1 ⟨rfl, hb1⟩
  have HB1 := Lib.hid hb1
  have hz1 := hb1.size
  have f1 := FA.out.below hb1
  have y0 := f1.f0
  have y1 := f1.f1
  have y2 := f1.f2
  have y3 := f1.f3
  have y4 := f1.f4
  have y5 := f1.f5
  have hw1 : Hid (Below w.heap.size w w1) := Lib.hid (HB.out.trans (hb1.mono hzA))
  clear hb1 f1 x0 x1 x2 x3 x4 x5
  cases hv : P.vars.all varOk
  case false =>
    have h := Lib.hid (H85.out (by unfold tabOk; rw [hv]; simp))
    go_wp2
    go_ret
    exact ⟨ret_int h.out, hw1.out⟩
  have HV := Lib.hid hv
  clear hv
  go_wp2_with fail
  refine (tags_any s.a2 s.c2 P.tags w1 (HP.out.below HB1.out).tags l2).mono ?_
  rintro e w2 ⟨rfl, hb2⟩
  have HB2 := Lib.hid (HB1.out.trans (hb2.mono hz1))
  have hz2 := hb2.size
  have f1 := FA.out.below HB2.out
  have z0 := f1.f0
  have z1 := f1.f1
  have z2 := f1.f2
  have z3 := f1.f3
  have z4 := f1.f4
  have z5 := f1.f5
  have hw2 : Hid (Below w.heap.size w w2) := Lib.hid (HB.out.trans (HB2.out.mono hzA))
  clear hb2 f1 y0 y1 y2 y3 y4 y5
  cases ht : P.tags.all tagOk
  case false =>
    have h := Lib.hid (H85.out (by unfold tabOk; rw [ht]; simp))
    go_wp2
    go_ret
    exact ⟨ret_int h.out, hw2.out⟩
  have HT := Lib.hid ht
  clear ht
  by_cases c3 : P.on.length = P.ghost.length
  case neg =>
    have d3 : decide (((P.on.length : Nat) : Int) ≠ ((P.ghost.length : Nat) : Int)) = true := decide_eq_true (by omega)
    have d3' : (((P.on.length : Nat) : Int) != ((P.ghost.length : Nat) : Int)) = true := by simp; omega
    have h := Lib.hid (H85.out (by unfold tabOk lensOk; simp [c3]))
    go_wp2
    go_ret
    exact ⟨ret_int h.out, hw2.out⟩
  have C3 := Lib.hid c3
  rw [← c3] at z0
  clear c3
  by_cases c4 : P.code.length ≤ 262144
  case neg =>
    have d4 : decide (((P.code.length : Nat) : Int) > 262144) = true := decide_eq_true (by omega)
    have h := Lib.hid (H85.out (tab_lens P fun h => c4 h.2.2.2.2))
    go_wp2
    go_ret
    exact ⟨ret_int h.out, hw2.out⟩
  have d4 : decide (((P.code.length : Nat) : Int) > 262144) = false := decide_eq_false (by omega)
  have HL : Hid (lensOk P) := Lib.hid ⟨c0, c1, c2, C3.out, c4⟩
  by_cases c5 : -1 ≤ P.miss
  case neg =>
    have d5 : decide (P.miss < -1) = true := decide_eq_true (by omega)
    have h := Lib.hid (H85.out (by unfold tabOk within; simp [c5]))
    go_wp2
    go_ret
    exact ⟨ret_int h.out, hw2.out⟩
  have d5 : decide (P.miss < -1) = false := decide_eq_false (by omega)
  by_cases c6 : P.miss < (P.code.length : Int)
  case neg =>
    have d6 : decide (P.miss ≥ ((P.code.length : Nat) : Int)) = true := decide_eq_true (by omega)
    have h := Lib.hid (H85.out (by unfold tabOk; rw [show within P P.miss = false by unfold within; simp; omega]; simp))
    go_wp2
    go_ret
    exact ⟨ret_int h.out, hw2.out⟩
  have d6 : decide (P.miss ≥ ((P.code.length : Nat) : Int)) = false := decide_eq_false (by omega)
  have HM : Hid (within P P.miss = true) := Lib.hid (by unfold within; simp; omega)
  go_wp2
  clear z0 z1 z2 z3 z4 z5
  go_loopw [3] (fun i wr => ∃ k : Nat, k ≤ P.on.length ∧ i = .int .i64 k ∧ Hid ((P.on.take k).all (within P) = true) ∧ Hid (Below wA.heap.size wA wr)) (fun i _ => P.on.length + 1 - (intOf i).toNat)
  case atStart => exact ⟨0, Nat.zero_le _, rfl, Lib.hid rfl, by first | exact HB2 | exact Lib.hid (below_drewN HB2.out _) | exact Lib.hid HB2.out.drew⟩
  case round =>
    obtain ⟨k, hk, rfl, hall, hb⟩ := hrel
    have f1 := FA.out.below hb.out
    have y3 := f1.f3
    have y5 := f1.f5
    by_cases hlt : k < P.on.length
    · obtain ⟨a, ha, hca⟩ := (HP.out.below hb.out).on.at k (by rw [nums_length]; exact hlt)
      simp only [nums, List.getElem_map] at hca
      have HTT : Hid (within P P.on[k] = true → (P.on.take (k + 1)).all (within P) = true) := Lib.hid (all_more (within P) P.on k hlt hall.out)
      have HFF : Hid (within P P.on[k] = false → tabOk P = false) := Lib.hid (fun h => by unfold tabOk; rw [all_not (within P) P.on k hlt h]; simp)
      generalize P.on[k] = v at *
      rw [ha] at y3
      have hw : Hid (Below w.heap.size w wr) := Lib.hid (HB.out.trans (hb.out.mono hzA))
      clear hall ha f1
      go_wp2_with fail
      by_cases e1 : v < -1
      · have g1 : decide (v < -1) = true := decide_eq_true e1
        have h := Lib.hid (H85.out (HFF.out (by unfold within; simp; omega)))
        clear HTT HFF
        go_quiet (fail)
        go_wp2
        go_ret
        exact ⟨ret_int h.out, below_drewN hw.out _⟩
      have g1 : decide (v < -1) = false := decide_eq_false e1
      by_cases e2 : v ≥ (P.code.length : Int)
      · have g2 : decide (v ≥ ((P.code.length : Nat) : Int)) = true := decide_eq_true e2
        have h := Lib.hid (H85.out (HFF.out (by unfold within; simp; omega)))
        clear HTT HFF
        go_quiet (fail)
        go_wp2
        go_ret
        exact ⟨ret_int h.out, below_drewN hw.out _⟩
      have g2 : decide (v ≥ ((P.code.length : Nat) : Int)) = false := decide_eq_false e2
      have h := Lib.hid (HTT.out (by unfold within; simp; omega))
      clear HTT HFF
      go_quiet (fail)
      go_wp2
      go_roundw
      case rel => exact ⟨k + 1, by omega, by go_num, h, Lib.hid (below_drewN hb.out _)⟩
      case measure => simp [intOf]; omega
    · obtain rfl : k = P.on.length := by omega
      have ho : Hid (P.on.all (within P) = true) := Lib.hid (all_done _ _ hall.out)
      have hok : Hid (tabOk P = true) := Lib.hid (by unfold tabOk; rw [HV.out, HT.out, ho.out, HM.out]; simp [HL.out])
      have hc : Hid (checkErr P = codeErr P P.code) := Lib.hid (by unfold checkErr; rw [hok.out]; rfl)
      have hw : Hid (Below w.heap.size w wr) := Lib.hid (HB.out.trans (hb.out.mono hzA))
      clear hall f1
      go_wp2_with fail
      refine (table_any wr).mono ?_
      rintro e w3 ⟨gt, rfl, hgt, htab, hb3⟩
      have hzr := hb.out.size
      have HB3 := Lib.hid (hb.out.trans (hb3.mono hzr))
      have HTAB := Lib.hid htab
      have hz3 := HB3.out.size
      have hgt3 : gt < w3.heap.size := (Array.getElem?_eq_some_iff.1 htab).1
      have hw3 : Hid (Below w.heap.size w w3) := Lib.hid (HB.out.trans (HB3.out.mono hzA))
      have HP3 := Lib.hid (HP.out.below HB3.out)
      have FA3 := Lib.hid (FA.out.below HB3.out)
      clear hb3 htab y3 y5 hgt
      go_wp2
      go_loopw [5] (fun i wq => ∃ k : Nat, k ≤ P.code.length ∧ i = .int .i64 k ∧ Hid (∀ j (hj : j < P.code.length), j < k → insErr P P.code[j] = 0) ∧ Hid (Below w3.heap.size w3 wq)) (fun i _ => P.code.length + 1 - (intOf i).toNat)
      case atStart => exact ⟨0, Nat.zero_le _, rfl, Lib.hid (fun j _ h => by omega), Lib.hid (Below.refl _ _)⟩
      case round =>
        obtain ⟨k, hk, rfl, hall, hb4⟩ := hrel
        have y5 := (FA3.out.below hb4.out).f5
        by_cases hlt : k < P.code.length
        · obtain ⟨a, ha, hca⟩ := (HP3.out.below hb4.out).code.row 5 (fun _ => rfl) (by decide) k hlt
          have HE : Hid (insErr P P.code[k] ≠ 0 → checkErr P = insErr P P.code[k]) := Lib.hid (fun h => hc.out.trans (codeErr_at P P.code k hlt (fun j hj => hall.out j (by omega) hj) h))
          have HN : Hid (insErr P P.code[k] = 0 → ∀ j (hj : j < P.code.length), j < k + 1 → insErr P P.code[j] = 0) := Lib.hid (fun h j hj hjk => by
            rcases Nat.lt_or_ge j k with h1 | h1
            · exact hall.out j hj h1
            · obtain rfl : j = k := by omega
              exact h)
          generalize P.code[k] = v at *
          obtain ⟨p0, p1, p2, p3, p4⟩ := v
          have a0 : wr.cell? (a.add (k * 5)) = some (.int .i64 p0) := by have h := hca 0 _ rfl; rwa [add_zero'] at h
          have a1 : wr.cell? ⟨(a.add (k * 5)).block, (a.add (k * 5)).off + 1, none⟩ = some (.int .i64 p1) := by have h := hca 1 _ rfl; rwa [add_pos' _ _ (by decide)] at h
          have a2 : wr.cell? ⟨(a.add (k * 5)).block, (a.add (k * 5)).off + 2, none⟩ = some (.int .i64 p2) := by have h := hca 2 _ rfl; rwa [add_pos' _ _ (by decide)] at h
          have a3 : wr.cell? ⟨(a.add (k * 5)).block, (a.add (k * 5)).off + 3, none⟩ = some (.int .i64 p3) := by have h := hca 3 _ rfl; rwa [add_pos' _ _ (by decide)] at h
          have a4 : wr.cell? ⟨(a.add (k * 5)).block, (a.add (k * 5)).off + 4, none⟩ = some (.int .i64 p4) := by have h := hca 4 _ rfl; rwa [add_pos' _ _ (by decide)] at h
          rw [ha] at y5
          have hzq := hb4.out.size
          have hwq : Hid (Below w.heap.size w wr) := Lib.hid (hw3.out.trans (hb4.out.mono (by have := hw3.out.size; omega)))
          have hwx : Hid (Below w.heap.size w (wr.alloc (.cells #[.int .i64 p0, .int .i64 p1, .int .i64 p2, .int .i64 p3, .int .i64 p4] 57))) := Lib.hid (hwq.out.alloc hwq.out.size _)
          clear hall ha hca
          by_cases o1 : p0 < 0
          · have g1 : decide (p0 < 0) = true := decide_eq_true o1
            have h := Lib.hid ((HE.out (by simp [insErr, o1])).trans (show insErr P (p0, p1, p2, p3, p4) = 91 by simp [insErr, o1]))
            clear HE HN
            go_wp2
            go_ret
            exact ⟨ret_int h.out, hwx.out⟩
          have g1 : decide (p0 < 0) = false := decide_eq_false o1
          by_cases o2 : 42 ≤ p0
          · have g2 : decide (p0 ≥ 42) = true := decide_eq_true o2
            have h := Lib.hid ((HE.out (by simp [insErr, o2])).trans (show insErr P (p0, p1, p2, p3, p4) = 91 by simp [insErr, o2]))
            clear HE HN
            go_wp2
            go_ret
            exact ⟨ret_int h.out, hwx.out⟩
          have g2 : decide (p0 ≥ 42) = false := decide_eq_false o2
          obtain ⟨kop, rfl⟩ : ∃ kop : Nat, p0 = (kop : Int) := ⟨p0.toNat, by omega⟩
          have hkop : kop < 42 := by omega
          have HX : Hid ((wr.alloc (.cells #[.int .i64 (kop : Int), .int .i64 p1, .int .i64 p2, .int .i64 p3, .int .i64 p4] 57)).heap[wr.heap.size]? = some (.cells #[.int .i64 (kop : Int), .int .i64 p1, .int .i64 p2, .int .i64 p3, .int .i64 p4] 57 (0, 0))) := Lib.hid (MapKept.heap_alloc wr _).1
          have h3x : Hid (Below w3.heap.size w3 (wr.alloc (.cells #[.int .i64 (kop : Int), .int .i64 p1, .int .i64 p2, .int .i64 p3, .int .i64 p4] 57))) := Lib.hid (hb4.out.alloc hzq _)
          have hzx : (wr.alloc (.cells #[.int .i64 (kop : Int), .int .i64 p1, .int .i64 p2, .int .i64 p3, .int .i64 p4] 57)).heap.size = wr.heap.size + 1 := by simp
          go_wp2_with fail
          generalize wr.alloc (.cells #[.int .i64 (kop : Int), .int .i64 p1, .int .i64 p2, .int .i64 p3, .int .i64 p4] 57) = wx at *
          refine (operands_any _ _ _ _ _ wx).mono ?_
          rintro e w4 ⟨rfl, hb5⟩
          have hz5 := hb5.size
          have HX4 := Lib.hid ((hb5.block wr.heap.size (by omega)).trans HX.out)
          have h34 : Hid (Below w3.heap.size w3 w4) := Lib.hid (h3x.out.trans (hb5.mono (by omega)))
          clear hb5 HX h3x a0 a1 a2 a3 a4 y5 o1 o2 g1 g2 hwx
          go_wp2_with fail
          have hb45 : Below w4.heap.size w4 (w4.alloc (.cells #[.int .i64 p1, .int .i64 p2, .int .i64 p3, .int .i64 p4] 93)) := (Below.refl _ w4).alloc (Nat.le_refl _) _
          have hx5 := (hb45.block wr.heap.size (by omega)).trans HX4.out
          have hn5 := (MapKept.heap_alloc w4 (.cells #[.int .i64 p1, .int .i64 p2, .int .i64 p3, .int .i64 p4] 93)).1
          have h35 : Hid (Below w3.heap.size w3 (w4.alloc (.cells #[.int .i64 p1, .int .i64 p2, .int .i64 p3, .int .i64 p4] 93))) := Lib.hid (h34.out.trans (hb45.mono (by omega)))
          have hz6 : (w4.alloc (.cells #[.int .i64 p1, .int .i64 p2, .int .i64 p3, .int .i64 p4] 93)).heap.size = w4.heap.size + 1 := by simp
          have HX5 := Lib.hid hx5
          have HN5 := Lib.hid hn5
          clear hb45 hx5 hn5 HX4 h34
          generalize w4.alloc (.cells #[.int .i64 p1, .int .i64 p2, .int .i64 p3, .int .i64 p4] 93) = w5 at *
          generalize wr.heap.size = xb at *
          go_loopw [8] (fun i wz => ∃ q : Nat, q ≤ 4 ∧ i = .int .i64 q ∧ Hid (∀ j, j < q → fitAt P ((kop : Int), p1, p2, p3, p4) j = true) ∧ Hid (Below w5.heap.size w5 wz)) (fun i _ => 5 - (intOf i).toNat)
          case atStart => exact ⟨0, by omega, rfl, Lib.hid (fun j h => by omega), Lib.hid (Below.refl _ _)⟩
          case round =>
            obtain ⟨q, hq, rfl, hfit, hb6⟩ := hrel
            have h3z : Hid (Below w3.heap.size w3 wr) := Lib.hid (h35.out.trans (hb6.out.mono h35.out.size))
            have hwz : Hid (Below w.heap.size w wr) := Lib.hid (hw3.out.trans (h3z.out.mono (by have := hw3.out.size; omega)))
            by_cases hql : q < 4
            · have hxl : xb < w5.heap.size := (Array.getElem?_eq_some_iff.1 HX5.out).1
              obtain ⟨nq, hnq⟩ : ∃ nq, nq = (opnds ((kop : Int), p1, p2, p3, p4)).getD q 0 := ⟨_, rfl⟩
              have hnqc : #[Value.int .i64 p1, .int .i64 p2, .int .i64 p3, .int .i64 p4][q]? = some (.int .i64 nq) := by
                rw [hnq]
                rcases (show q = 0 ∨ q = 1 ∨ q = 2 ∨ q = 3 by omega) with rfl | rfl | rfl | rfl <;> rfl
              have hS : ∀ w' : World, Below w5.heap.size w5 w' → (fun w' : World => w'.cell? ⟨w.heap.size, 0, none⟩ = some (.slice s.a0 P.ghost.length s.c0) ∧ w'.cell? ⟨w.heap.size, 1, none⟩ = some (.slice s.a1 P.vars.length s.c1) ∧ w'.cell? ⟨w.heap.size, 2, none⟩ = some (.slice s.a2 P.tags.length s.c2) ∧ w'.cell? ⟨w.heap.size, 3, none⟩ = some (.slice s.a3 P.on.length s.c3) ∧ w'.cell? ⟨w.heap.size, 4, none⟩ = some (.int .i64 P.miss) ∧ w'.cell? ⟨w.heap.size, 5, none⟩ = some (.slice s.a4 P.code.length s.c4) ∧ w'.cell? ⟨xb, 0, none⟩ = some (.int .i64 (kop : Int)) ∧ w'.cell? ⟨gt, kop * 5 + 1 + q, none⟩ = some (.int .i64 (tabKind kop q : Int)) ∧ w'.cell? ⟨w4.heap.size, q, none⟩ = some (.int .i64 nq)) w' := fun w' hb => by
                have h3 : Below w3.heap.size w3 w' := h35.out.trans (hb.mono h35.out.size)
                have f := FA3.out.below h3
                refine ⟨f.f0, f.f1, f.f2, f.f3, f.f4, f.f5, cell_at ((hb.block xb hxl).trans HX5.out) 0, ?_, ?_⟩
                · rw [cell_at ((h3.block gt hgt3).trans HTAB.out) _]
                  exact cellInt_some (table_kind kop hkop q hql)
                · rw [cell_at ((hb.block w4.heap.size (by omega)).trans HN5.out) q]
                  exact hnqc
              have HFT : Hid (fitK P (tabKind kop q) nq = fitAt P ((kop : Int), p1, p2, p3, p4) q) := Lib.hid (by rw [hnq]; exact fit_same P _ kop rfl hkop q hql)
              have hfa := fun (wz : World) (h : PAt wz s P) => fits_any s P (tabKind kop q) (kinds_same kop hkop q hql).2.2 nq wz h
              unfold pval at hfa
              have HPz := fun (w' : World) (hb : Below w5.heap.size w5 w') => HP3.out.below (h35.out.trans (hb.mono h35.out.size))
              have hb6' := hb6.out
              clear hnq hnqc
              have hk0 : (0 : Int) ≤ (kop : Int) := by omega
              have hk1 : (kop : Int) < 42 := by omega
              have hk2 : ¬ (kop : Int) < 0 := by omega
              have hk3 : ¬ (42 : Int) ≤ (kop : Int) := by omega
              go_wp2_with fail
              go_region_held3 (fun w' : World => w'.cell? ⟨w.heap.size, 0, none⟩ = some (.slice s.a0 P.ghost.length s.c0) ∧ w'.cell? ⟨w.heap.size, 1, none⟩ = some (.slice s.a1 P.vars.length s.c1) ∧ w'.cell? ⟨w.heap.size, 2, none⟩ = some (.slice s.a2 P.tags.length s.c2) ∧ w'.cell? ⟨w.heap.size, 3, none⟩ = some (.slice s.a3 P.on.length s.c3) ∧ w'.cell? ⟨w.heap.size, 4, none⟩ = some (.int .i64 P.miss) ∧ w'.cell? ⟨w.heap.size, 5, none⟩ = some (.slice s.a4 P.code.length s.c4) ∧ w'.cell? ⟨xb, 0, none⟩ = some (.int .i64 (kop : Int)) ∧ w'.cell? ⟨gt, kop * 5 + 1 + q, none⟩ = some (.int .i64 (tabKind kop q : Int)) ∧ w'.cell? ⟨w4.heap.size, q, none⟩ = some (.int .i64 nq)) (with_reducible first | exact hS _ hc1 | exact hS _ hb6'.drew | exact hS _ hb6') (first | (go_at_call 49; refine (hfa _ (HPz _ hb6'.drew)).mono ?_; rintro e w6 ⟨rfl, hc6⟩; have hc1 : Below w5.heap.size w5 w6 := hb6'.drew.trans (hc6.mono hb6'.drew.size)))
              have HC1 := Lib.hid hc1
              have h36 : Hid (Below w3.heap.size w3 w6) := Lib.hid (h35.out.trans (hc1.mono h35.out.size))
              have hw6 : Hid (Below w.heap.size w w6) := Lib.hid (hw3.out.trans (h36.out.mono (by have := hw3.out.size; omega)))
              clear hc1 hc6 hS hfa HPz hb6'
              cases hft : fitK P (tabKind kop q) nq
              case false =>
                have hn : fitAt P ((kop : Int), p1, p2, p3, p4) q = false := HFT.out.symm.trans hft
                have h92 : Hid (insErr P ((kop : Int), p1, p2, p3, p4) = 92) := Lib.hid (by
                  unfold insErr
                  rw [if_neg (by simp; omega), if_neg]
                  intro h
                  rw [List.all_eq_true] at h
                  rw [h q (by simpa using hql)] at hn
                  cases hn)
                have h := Lib.hid ((HE.out (by rw [h92.out]; decide)).trans h92.out)
                clear HE HN HFT hn
                go_wp2
                go_ret
                exact ⟨ret_int h.out, hw6.out⟩
              have hn : Hid (∀ j, j < q + 1 → fitAt P ((kop : Int), p1, p2, p3, p4) j = true) := Lib.hid (fun j hj => by
                rcases Nat.lt_or_ge j q with h1 | h1
                · exact hfit.out j h1
                · obtain rfl : j = q := by omega
                  exact HFT.out.symm.trans hft)
              clear HFT hfit
              go_wp2
              go_roundw
              case rel => exact ⟨q + 1, by omega, by go_num, hn, HC1⟩
              case measure => simp [intOf]; omega
            · obtain rfl : q = 4 := by omega
              have h0 : Hid (insErr P ((kop : Int), p1, p2, p3, p4) = 0) := Lib.hid (by
                unfold insErr
                rw [if_neg (by simp; omega), if_pos]
                rw [List.all_eq_true]
                intro j hj
                exact hfit.out j (by simpa using hj))
              have h := Lib.hid (HN.out h0.out)
              clear HE HN hfit
              go_wp2
              go_roundw
              case rel => exact ⟨k + 1, by omega, by go_num, h, h3z⟩
              case measure => simp [intOf]; omega
        · obtain rfl : k = P.code.length := by omega
          have h := Lib.hid (hc.out.trans (codeErr_none P P.code (fun j hj => hall.out j hj hj)))
          have hwq : Hid (Below w.heap.size w wr) := Lib.hid (hw3.out.trans (hb4.out.mono (by have := hw3.out.size; omega)))
          clear hall
          go_wp2
          go_ret
          exact ⟨ret_int h.out, hwq.out⟩
end Go.Proofs.YtfjiikadnlhekaaDoor
