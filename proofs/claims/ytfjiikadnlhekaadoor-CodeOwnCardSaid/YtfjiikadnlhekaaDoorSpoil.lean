/-
  What is proved here: spoil writes its marks into a program's lists, and changes nothing outside the program's zone. Conditions: the program's lists are rows of the zone.
-/
import Derived.Test.YtfjiikadnlhekaaDoorZone3
namespace Go.Proofs.YtfjiikadnlhekaaDoor
open Go.RowKit

theorem there_cell {w : World} {b o n : Nat} (h : w.there b o n) (j : Nat) (hj : j < n) : (∃ u, w.cell? ⟨b, o + j, none⟩ = some u) ∧ w.frozen? ⟨b, o + j, none⟩ = false := ⟨Option.isSome_iff_exists.1 (h j hj).1, (h j hj).2⟩

set_option maxHeartbeats 8000000 in
set_option maxRecDepth 100000 in
theorem spoil_any (B E : Nat) (s : Spots) (P : Prg) (m : Nat) (hm : m ≤ 5) (w : World) (hP : PIn w B E s P) (hE : E ≤ w.heap.size) (hn : P.code.length ≤ 1000000 ∧ P.on.length ≤ 1000000 ∧ P.tags.length ≤ 1000000 ∧ P.vars.length ≤ 1000000) :
    Calls Tryd.prog 27 #[pval s P, .int .i64 (m : Int)] w fun e w' => e = .returned (.tuple #[]) ∧ PIn w' B E s (marked P m) ∧ Fr B E w w' := by
  obtain ⟨fA, hbA⟩ := one_block w s P 27
  have hrA : (w.alloc (.cells (pcells s P) 27)).heap[w.heap.size]? = some (.cells (pcells s P) 27 (0, 0)) := (MapKept.heap_alloc w _).1
  unfold pcells at fA hbA hrA
  generalize hA : w.alloc (.cells #[.slice s.a0 P.ghost.length s.c0, .slice s.a1 P.vars.length s.c1, .slice s.a2 P.tags.length s.c2, .slice s.a3 P.on.length s.c3, .int .i64 P.miss, .slice s.a4 P.code.length s.c4] 27) = wA at *
  have hzA : w.heap.size < wA.heap.size := (Array.getElem?_eq_some_iff.1 hrA).1
  have HI0 := Lib.hid (hP.keep (w' := wA) (fun j _ hj => hbA.block j (by omega)))
  have HF0 : Hid (Fr B E w wA) := Lib.hid (Fr.of_below hbA)
  have HFA : Hid (∀ wr, Fr B E wA wr → Fields wr w.heap.size s P) := Lib.hid (fun wr h => fields_of (T := 27) (fz := (0, 0)) (by rw [h.block w.heap.size hzA (by omega)]; exact hrA))
  have HA := Lib.hid hA
  obtain ⟨n1, n2, n3, n4⟩ := hn
  have hzw := HF0.out.size
  have hS0 : Hid (PIn wA B E s { P with code := front (mCode m) 0 P.code }) := Lib.hid (by rw [front_zero]; exact HI0.out)
  have HR : Hid (Fr B E wA wA) := Lib.hid (Fr.refl _ _ _)
  have x0 := (HFA.out wA HR.out).f5
  clear hP hA fA hbA hrA HI0
  unfold pval
  go_enter Tryd.func27, Tryd.ntmps27
  go_wp2_with fail
  try rw [HA.out]
  go_wp2_with fail
  go_loopw [4] (fun ii wr => ∃ j : Nat, j ≤ P.code.length ∧ ii = .int .i64 (j : Int) ∧ Hid (PIn wr B E s { P with code := front (mCode m) j P.code }) ∧ Hid (Fr B E wA wr)) (fun ii _ => P.code.length + 1 - (intOf ii).toNat)
  case atStart => exact ⟨0, Nat.zero_le _, rfl, hS0, HR⟩
  case round =>
    clear hS0 x0 HR
    obtain ⟨j, hj, rfl, HI, HF⟩ := hrel
    have y := (HFA.out wr HF.out).f5
    by_cases hlt : j < P.code.length
    case pos =>
      obtain ⟨g, hg, hgB, hgE, hgw, hth, HI2⟩ := PIn.code_store (P := P) (f := mCode m) (j := j) HI.out hlt
      have HI2 := Lib.hid HI2
      have HF2 := Lib.hid (HF.out.cells hgB hgE (j * 5) (ins5 (mCode m j)))
      obtain ⟨⟨u0, c0⟩, q0⟩ := there_cell hth 0 (by decide)
      obtain ⟨⟨u1, c1⟩, q1⟩ := there_cell hth 1 (by decide)
      obtain ⟨⟨u2, c2⟩, q2⟩ := there_cell hth 2 (by decide)
      obtain ⟨⟨u3, c3⟩, q3⟩ := there_cell hth 3 (by decide)
      obtain ⟨⟨u4, c4⟩, q4⟩ := there_cell hth 4 (by decide)
      rw [Nat.add_zero] at c0 q0
      rw [hg] at y
      clear HI hg HF hth 
      go_wp2
      go_roundw
      case rel => exact ⟨j + 1, by omega, by go_num, HI2, HF2⟩
      case measure => simp [intOf]; omega
    case neg =>
      obtain rfl : j = P.code.length := by omega
      have hS1 : Hid (PIn wr B E s { P with code := front (mCode m) P.code.length P.code, on := front (mOn m) 0 P.on }) := Lib.hid (by rw [front_zero]; exact HI.out)
      have x1 := (HFA.out wr HF.out).f3
      have HR := HF
      clear HI HF hlt hj
      go_wp2
      clear y
      go_loopw [5] (fun ii wr => ∃ j : Nat, j ≤ P.on.length ∧ ii = .int .i64 (j : Int) ∧ Hid (PIn wr B E s { P with code := front (mCode m) P.code.length P.code, on := front (mOn m) j P.on }) ∧ Hid (Fr B E wA wr)) (fun ii _ => P.on.length + 1 - (intOf ii).toNat)
      case atStart => exact ⟨0, Nat.zero_le _, rfl, hS1, HR⟩
      case round =>
        clear hS1 x1 HR
        obtain ⟨j, hj, rfl, HI, HF⟩ := hrel
        have y := (HFA.out wr HF.out).f3
        by_cases hlt : j < P.on.length
        case pos =>
          obtain ⟨g, hg, hgB, hgE, hgw, ⟨u0, c0⟩, q0, HI2⟩ := PIn.on_store (P := { P with code := front (mCode m) P.code.length P.code }) (f := mOn m) (j := j) HI.out hlt
          have HI2 := Lib.hid HI2
          have HF2 := Lib.hid (HF.out.cell hgB hgE j (.int .i64 (mOn m j)))
          rw [hg] at y
          clear HI hg HF 
          go_wp2
          go_roundw
          case rel => exact ⟨j + 1, by omega, by go_num, HI2, HF2⟩
          case measure => simp [intOf]; omega
        case neg =>
          obtain rfl : j = P.on.length := by omega
          have hS2 : Hid (PIn wr B E s { P with code := front (mCode m) P.code.length P.code, on := front (mOn m) P.on.length P.on, tags := front (mTag m) 0 P.tags }) := Lib.hid (by rw [front_zero]; exact HI.out)
          have x2 := (HFA.out wr HF.out).f2
          have HR := HF
          clear HI HF hlt hj
          go_wp2
          clear y
          go_loopw [6] (fun ii wr => ∃ j : Nat, j ≤ P.tags.length ∧ ii = .int .i64 (j : Int) ∧ Hid (PIn wr B E s { P with code := front (mCode m) P.code.length P.code, on := front (mOn m) P.on.length P.on, tags := front (mTag m) j P.tags }) ∧ Hid (Fr B E wA wr)) (fun ii _ => P.tags.length + 1 - (intOf ii).toNat)
          case atStart => exact ⟨0, Nat.zero_le _, rfl, hS2, HR⟩
          case round =>
            clear hS2 x2 HR
            obtain ⟨j, hj, rfl, HI, HF⟩ := hrel
            have y := (HFA.out wr HF.out).f2
            by_cases hlt : j < P.tags.length
            case pos =>
              obtain ⟨g, hg, hgB, hgE, hgw, ⟨u0, c0⟩, q0, HI2⟩ := PIn.tags_store (P := { P with code := front (mCode m) P.code.length P.code, on := front (mOn m) P.on.length P.on }) (f := mTag m) (j := j) HI.out hlt
              have HI2 := Lib.hid HI2
              have HF2 := Lib.hid (HF.out.cell hgB hgE j (.int .i64 (mTag m j)))
              rw [hg] at y
              clear HI hg HF 
              go_wp2
              go_roundw
              case rel => exact ⟨j + 1, by omega, by go_num, HI2, HF2⟩
              case measure => simp [intOf]; omega
            case neg =>
              obtain rfl : j = P.tags.length := by omega
              have hS3 : Hid (PIn wr B E s { P with code := front (mCode m) P.code.length P.code, on := front (mOn m) P.on.length P.on, tags := front (mTag m) P.tags.length P.tags, vars := front (mVar m) 0 P.vars }) := Lib.hid (by rw [front_zero]; exact HI.out)
              have x3 := (HFA.out wr HF.out).f1
              have HR := HF
              clear HI HF hlt hj
              go_wp2
              clear y
              go_loopw [7] (fun ii wr => ∃ j : Nat, j ≤ P.vars.length ∧ ii = .int .i64 (j : Int) ∧ Hid (PIn wr B E s { P with code := front (mCode m) P.code.length P.code, on := front (mOn m) P.on.length P.on, tags := front (mTag m) P.tags.length P.tags, vars := front (mVar m) j P.vars }) ∧ Hid (Fr B E wA wr)) (fun ii _ => P.vars.length + 1 - (intOf ii).toNat)
              case atStart => exact ⟨0, Nat.zero_le _, rfl, hS3, HR⟩
              case round =>
                clear hS3 x3 HR
                obtain ⟨j, hj, rfl, HI, HF⟩ := hrel
                have y := (HFA.out wr HF.out).f1
                by_cases hlt : j < P.vars.length
                case pos =>
                  obtain ⟨g, hg, hgB, hgE, hgw, hth, HI2⟩ := PIn.vars_store (P := { P with code := front (mCode m) P.code.length P.code, on := front (mOn m) P.on.length P.on, tags := front (mTag m) P.tags.length P.tags }) (f := mVar m) (j := j) HI.out hlt
                  have HI2 := Lib.hid HI2
                  have HF2 := Lib.hid (HF.out.cells hgB hgE (j * 3) (var3 (mVar m j)))
                  obtain ⟨⟨u0, c0⟩, q0⟩ := there_cell hth 0 (by decide)
                  obtain ⟨⟨u1, c1⟩, q1⟩ := there_cell hth 1 (by decide)
                  obtain ⟨⟨u2, c2⟩, q2⟩ := there_cell hth 2 (by decide)
                  rw [Nat.add_zero] at c0 q0
                  rw [hg] at y
                  clear HI hg HF hth 
                  go_wp2
                  go_roundw
                  case rel => exact ⟨j + 1, by omega, by go_num, HI2, HF2⟩
                  case measure => simp [intOf]; omega
                case neg =>
                  obtain rfl : j = P.vars.length := by omega
                  have HM0 : Hid (PIn wr B E s (marked P m)) := HI
                  have l4 : (marked P m).code.length = P.code.length := front_length _ _ _ (Nat.le_refl _)
                  have l3 : (marked P m).on.length = P.on.length := front_length _ _ _ (Nat.le_refl _)
                  have l2 : (marked P m).tags.length = P.tags.length := front_length _ _ _ (Nat.le_refl _)
                  obtain ⟨Q, hQ⟩ : ∃ Q, Q = marked P m := ⟨_, rfl⟩
                  rw [← hQ] at HM0 l4 l3 l2
                  have HQ := Lib.hid hQ
                  clear hQ
                  have hEw : E ≤ wr.heap.size := by have := HF.out.size; omega
                  obtain ⟨i5, hi5, hz50, hz51, hz52⟩ := info_parts info57
                  obtain ⟨i3, hi3, hz30, hz31, hz32⟩ := info_parts info3
                  have HF0' := HF
                  clear HI hlt hj
                  have y0 := (HFA.out wr HF.out).f5
                  have hX0 : Below wr.heap.size wr (wr.alloc (.cells #[.int .i64 (900 + (m : Int)), .int .i64 0, .int .i64 0, .int .i64 0, .int .i64 0] 57)) := (Below.refl _ _).alloc (Nat.le_refl _) _
                  have hB0 : (wr.alloc (.cells #[.int .i64 (900 + (m : Int)), .int .i64 0, .int .i64 0, .int .i64 0, .int .i64 0] 57)).heap[wr.heap.size]? = some (.cells #[.int .i64 (900 + (m : Int)), .int .i64 0, .int .i64 0, .int .i64 0, .int .i64 0] 57 (0, 0)) := (MapKept.heap_alloc wr _).1
                  have HMX0 := Lib.hid (HM0.out.keep (w' := (wr.alloc (.cells #[.int .i64 (900 + (m : Int)), .int .i64 0, .int .i64 0, .int .i64 0, .int .i64 0] 57))) (fun j _ hj => hX0.block j (by omega)))
                  have HFX0 : Hid (Fr B E wA (wr.alloc (.cells #[.int .i64 (900 + (m : Int)), .int .i64 0, .int .i64 0, .int .i64 0, .int .i64 0] 57))) := Lib.hid (HF.out.below hX0)
                  have hEX0 : E ≤ (wr.alloc (.cells #[.int .i64 (900 + (m : Int)), .int .i64 0, .int .i64 0, .int .i64 0, .int .i64 0] 57)).heap.size := Nat.le_trans hEw hX0.size
                  obtain ⟨C0, D0, hC0, hD0, hO0⟩ := HMX0.out.code_own
                  have hZ0 := HMX0.out.code_zone
                  have hO0' := hO0.1
                  rw [l4] at hO0' hZ0
                  have HO0 := Lib.hid hO0'
                  have hCl0 : B ≤ C0 := hC0
                  clear hO0' hX0
                  go_wp2_with (at_builtin; go_loud (refine wpList_push _ rfl _ _ 25 rfl (min C0 E) 57 i5 (.agg #[.int .i64 0, .int .i64 0, .int .i64 0, .int .i64 0, .int .i64 0]) 5 40 Tryd.underlying25 hi5 hz50 hz51 hz52 rfl (by decide) (Value.slice s.a4 P.code.length s.c4) P.code.length (flat ins5 Q.code) rfl (own_mono HO0.out (Nat.min_le_left _ _)) ⟨wr.heap.size, 0, none⟩ 1 1 [.int .i64 (900 + (m : Int)), .int .i64 0, .int .i64 0, .int .i64 0, .int .i64 0] rfl rfl ?n0 ?o0 (by decide) ?a0 ?b0 ?d0 ?_))
                  case n0 => exact World.news_of_block hB0
                  case o0 => intro u hu; simp at hu; rcases hu with rfl | rfl <;> rfl
                  case a0 => unfold maxLen; omega
                  case b0 => omega
                  case d0 => exact Nat.le_trans (Nat.min_le_right _ _) hEX0
                  intro g0 k0 wp0 hown0 hold0 hgr0 hor0
                  obtain ⟨cur0, hcur0, hsz0⟩ := own_last hown0
                  have hz0 : (Value.slice s.a4 P.code.length s.c4).ownBlock = some g0 ∨ E ≤ g0 := by rcases hor0 with h | h; exact .inl h; exact .inr (by have := hEw; omega)
                  have HM1 := Lib.hid (HMX0.out.code_pushed hEX0 (by rw [l4]; exact hold0) (by rw [l4]; exact hgr0))
                  have HF1 := Lib.hid (HFX0.out.grown hgr0 hZ0)
                  have hE1 : E ≤ wp0.heap.size := Nat.le_trans hEX0 hgr0.size
                  have hg0 : (B ≤ g0 ∧ g0 < E) ∨ wA.heap.size ≤ g0 := by
                    rcases hor0 with h | h
                    · exact .inl (hZ0 g0 h)
                    · have := HF.out.size; exact .inr (by omega)
                  clear HO0 HMX0 HFX0 hB0 hown0 hold0 hgr0 hor0 hZ0 hO0 hCl0 y
                  have y1 := (HFA.out wp0 HF1.out).f3
                  have hX1 : Below wp0.heap.size wp0 (wp0.alloc (.cells #[.int .i64 (900 + (m : Int))] 3)) := (Below.refl _ _).alloc (Nat.le_refl _) _
                  have hB1 : (wp0.alloc (.cells #[.int .i64 (900 + (m : Int))] 3)).heap[wp0.heap.size]? = some (.cells #[.int .i64 (900 + (m : Int))] 3 (0, 0)) := (MapKept.heap_alloc wp0 _).1
                  have HMX1 := Lib.hid (HM1.out.keep (w' := (wp0.alloc (.cells #[.int .i64 (900 + (m : Int))] 3))) (fun j _ hj => hX1.block j (by omega)))
                  have HFX1 : Hid (Fr B E wA (wp0.alloc (.cells #[.int .i64 (900 + (m : Int))] 3))) := Lib.hid (HF1.out.below hX1)
                  have hEX1 : E ≤ (wp0.alloc (.cells #[.int .i64 (900 + (m : Int))] 3)).heap.size := Nat.le_trans hE1 hX1.size
                  have hcX0_1 := (hX1.block _ (Array.getElem?_eq_some_iff.1 hcur0).1).trans hcur0
                  obtain ⟨C1, D1, hC1, hD1, hO1⟩ := HMX1.out.on_own
                  have hZ1 := HMX1.out.on_zone
                  have hO1' := hO1.1
                  rw [l3] at hO1' hZ1
                  have HO1 := Lib.hid hO1'
                  have hCl1 : B ≤ C1 := hC1
                  clear hO1' hX1
                  go_wp2_with (at_builtin; go_loud (refine wpList_push _ rfl _ _ 24 rfl (min C1 E) 3 i3 (.int .i64 0) 1 8 Tryd.underlying24 hi3 hz30 hz31 hz32 rfl (by decide) (Value.slice s.a3 P.on.length s.c3) P.on.length (nums Q.on) rfl (own_mono HO1.out (Nat.min_le_left _ _)) ⟨wp0.heap.size, 0, none⟩ 1 1 [.int .i64 (900 + (m : Int))] rfl rfl ?n1 ?o1 (by decide) ?a1 ?b1 ?d1 ?_))
                  case n1 => exact World.news_of_block hB1
                  case o1 => intro u hu; simp at hu; subst hu; rfl
                  case a1 => unfold maxLen; omega
                  case b1 => omega
                  case d1 => exact Nat.le_trans (Nat.min_le_right _ _) hEX1
                  intro g1 k1 wp1 hown1 hold1 hgr1 hor1
                  obtain ⟨cur1, hcur1, hsz1⟩ := own_last hown1
                  have hz1 : (Value.slice s.a3 P.on.length s.c3).ownBlock = some g1 ∨ E ≤ g1 := by rcases hor1 with h | h; exact .inl h; exact .inr (by have := hE1; omega)
                  have HM2 := Lib.hid (HMX1.out.on_pushed hEX1 (by rw [l3]; exact hold1) (by rw [l3]; exact hgr1))
                  have HF2 := Lib.hid (HFX1.out.grown hgr1 hZ1)
                  have hE2 : E ≤ wp1.heap.size := Nat.le_trans hEX1 hgr1.size
                  have hcur0 := (hgr1.block g0 (Array.getElem?_eq_some_iff.1 hcX0_1).1 (by
                    intro hne
                    rcases hz0 with h | h
                    · have hh := HMX1.out.code_on g0 (by rw [l4]; exact h)
                      rw [l3] at hh
                      exact hh hne.symm
                    · have := hZ1 g0 hne.symm; omega)).trans hcX0_1
                  have hg1 : (B ≤ g1 ∧ g1 < E) ∨ wA.heap.size ≤ g1 := by
                    rcases hor1 with h | h
                    · exact .inl (hZ1 g1 h)
                    · have := HF1.out.size; exact .inr (by omega)
                  have ne0_1 : g0 ≠ g1 := by
                    intro e
                    rcases hor1 with h | h
                    · rcases hz0 with h' | h'
                      · have hh := HMX1.out.code_on g0 (by rw [l4]; exact h')
                        rw [l3, e] at hh
                        exact hh h
                      · have := hZ1 g1 h; omega
                    · have := (Array.getElem?_eq_some_iff.1 hcX0_1).1; simp at this; omega
                  clear HO1 HMX1 HFX1 hB1 hown1 hold1 hgr1 hor1 hZ1 hO1 hCl1 hcX0_1
                  have y2 := (HFA.out wp1 HF2.out).f2
                  have hX2 : Below wp1.heap.size wp1 (wp1.alloc (.cells #[.int .i64 (900 + (m : Int))] 3)) := (Below.refl _ _).alloc (Nat.le_refl _) _
                  have hB2 : (wp1.alloc (.cells #[.int .i64 (900 + (m : Int))] 3)).heap[wp1.heap.size]? = some (.cells #[.int .i64 (900 + (m : Int))] 3 (0, 0)) := (MapKept.heap_alloc wp1 _).1
                  have HMX2 := Lib.hid (HM2.out.keep (w' := (wp1.alloc (.cells #[.int .i64 (900 + (m : Int))] 3))) (fun j _ hj => hX2.block j (by omega)))
                  have HFX2 : Hid (Fr B E wA (wp1.alloc (.cells #[.int .i64 (900 + (m : Int))] 3))) := Lib.hid (HF2.out.below hX2)
                  have hEX2 : E ≤ (wp1.alloc (.cells #[.int .i64 (900 + (m : Int))] 3)).heap.size := Nat.le_trans hE2 hX2.size
                  have hcX0_2 := (hX2.block _ (Array.getElem?_eq_some_iff.1 hcur0).1).trans hcur0
                  have hcX1_2 := (hX2.block _ (Array.getElem?_eq_some_iff.1 hcur1).1).trans hcur1
                  obtain ⟨C2, D2, hC2, hD2, hO2⟩ := HMX2.out.tags_own
                  have hZ2 := HMX2.out.tags_zone
                  have hO2' := hO2.1
                  rw [l2] at hO2' hZ2
                  have HO2 := Lib.hid hO2'
                  have hCl2 : B ≤ C2 := hC2
                  clear hO2' hX2
                  go_wp2_with (at_builtin; go_loud (refine wpList_push _ rfl _ _ 24 rfl (min C2 E) 3 i3 (.int .i64 0) 1 8 Tryd.underlying24 hi3 hz30 hz31 hz32 rfl (by decide) (Value.slice s.a2 P.tags.length s.c2) P.tags.length (nums Q.tags) rfl (own_mono HO2.out (Nat.min_le_left _ _)) ⟨wp1.heap.size, 0, none⟩ 1 1 [.int .i64 (900 + (m : Int))] rfl rfl ?n2 ?o2 (by decide) ?a2 ?b2 ?d2 ?_))
                  case n2 => exact World.news_of_block hB2
                  case o2 => intro u hu; simp at hu; subst hu; rfl
                  case a2 => unfold maxLen; omega
                  case b2 => omega
                  case d2 => exact Nat.le_trans (Nat.min_le_right _ _) hEX2
                  intro g2 k2 wp2 hown2 hold2 hgr2 hor2
                  obtain ⟨cur2, hcur2, hsz2⟩ := own_last hown2
                  have hz2 : (Value.slice s.a2 P.tags.length s.c2).ownBlock = some g2 ∨ E ≤ g2 := by rcases hor2 with h | h; exact .inl h; exact .inr (by have := hE2; omega)
                  have HM3 := Lib.hid (HMX2.out.tags_pushed hEX2 (by rw [l2]; exact hold2) (by rw [l2]; exact hgr2))
                  have HF3 := Lib.hid (HFX2.out.grown hgr2 hZ2)
                  have hE3 : E ≤ wp2.heap.size := Nat.le_trans hEX2 hgr2.size
                  have hcur0 := (hgr2.block g0 (Array.getElem?_eq_some_iff.1 hcX0_2).1 (by
                    intro hne
                    rcases hz0 with h | h
                    · have hh := HMX2.out.code_tags g0 (by rw [l4]; exact h)
                      rw [l2] at hh
                      exact hh hne.symm
                    · have := hZ2 g0 hne.symm; omega)).trans hcX0_2
                  have hcur1 := (hgr2.block g1 (Array.getElem?_eq_some_iff.1 hcX1_2).1 (by
                    intro hne
                    rcases hz1 with h | h
                    · have hh := HMX2.out.on_tags g1 (by rw [l3]; exact h)
                      rw [l2] at hh
                      exact hh hne.symm
                    · have := hZ2 g1 hne.symm; omega)).trans hcX1_2
                  have hg2 : (B ≤ g2 ∧ g2 < E) ∨ wA.heap.size ≤ g2 := by
                    rcases hor2 with h | h
                    · exact .inl (hZ2 g2 h)
                    · have := HF2.out.size; exact .inr (by omega)
                  have ne0_2 : g0 ≠ g2 := by
                    intro e
                    rcases hor2 with h | h
                    · rcases hz0 with h' | h'
                      · have hh := HMX2.out.code_tags g0 (by rw [l4]; exact h')
                        rw [l2, e] at hh
                        exact hh h
                      · have := hZ2 g2 h; omega
                    · have := (Array.getElem?_eq_some_iff.1 hcX0_2).1; simp at this; omega
                  have ne1_2 : g1 ≠ g2 := by
                    intro e
                    rcases hor2 with h | h
                    · rcases hz1 with h' | h'
                      · have hh := HMX2.out.on_tags g1 (by rw [l3]; exact h')
                        rw [l2, e] at hh
                        exact hh h
                      · have := hZ2 g2 h; omega
                    · have := (Array.getElem?_eq_some_iff.1 hcX1_2).1; simp at this; omega
                  clear HO2 HMX2 HFX2 hB2 hown2 hold2 hgr2 hor2 hZ2 hO2 hCl2 hcX0_2 hcX1_2
                  obtain ⟨⟨p0, s0⟩, r0⟩ := cell_in (i := P.code.length * 5 + 1) hcur0 (by omega)
                  obtain ⟨⟨p1, s1⟩, r1⟩ := cell_in (i := P.on.length) hcur1 (by omega)
                  obtain ⟨⟨p2, s2⟩, r2⟩ := cell_in (i := P.tags.length) hcur2 (by omega)
                  have A0 := HM3.out.code_past (g := g0) (o := P.code.length * 5 + 1) (u := .int .i64 (m : Int)) rfl (by rw [s0]; rfl) (by rw [l4]; omega) (by rw [l4]; exact hz0)
                  have s1' : (wp2.setCell ⟨g0, P.code.length * 5 + 1, none⟩ (.int .i64 (m : Int))).cell? ⟨g1, P.on.length, none⟩ = some p1 := (World.cell?_setCell_other _ _ _ _ (fun e => ne0_1 (congrArg Addr.block e))).trans s1
                  have A1 := A0.on_past (g := g1) (o := P.on.length) (u := .int .i64 (m : Int)) rfl (by rw [s1']; rfl) (by rw [l3]; omega) (by rw [l3]; exact hz1)
                  have s2' : ((wp2.setCell ⟨g0, P.code.length * 5 + 1, none⟩ (.int .i64 (m : Int))).setCell ⟨g1, P.on.length, none⟩ (.int .i64 (m : Int))).cell? ⟨g2, P.tags.length, none⟩ = some p2 := (World.cell?_setCell_other _ _ _ _ (fun e => ne1_2 (congrArg Addr.block e))).trans ((World.cell?_setCell_other _ _ _ _ (fun e => ne0_2 (congrArg Addr.block e))).trans s2)
                  have A2 := Lib.hid (A1.tags_past (g := g2) (o := P.tags.length) (u := .int .i64 (m : Int)) rfl (by rw [s2']; rfl) (by rw [l2]; omega) (by rw [l2]; exact hz2))
                  have AF := Lib.hid (HF0.out.trans (((HF3.out.store hg0 (P.code.length * 5 + 1) (.int .i64 (m : Int))).store hg1 P.on.length (.int .i64 (m : Int))).store hg2 P.tags.length (.int .i64 (m : Int))))
                  clear hcur0 hcur1 hcur2 hsz0 hsz1 hsz2 HM0 HM1 HM2 HM3 HF3 HF1 HF2 HF0' hEw hE1 hE2 hi5 hz50 hz51 hz52 hi3 hz30 hz31 hz32 y0 y1 y2 A0 A1 hg0 hg1 hg2 hz0 hz1 hz2
                  have ne1_0 := ne0_1.symm
                  have ne2_0 := ne0_2.symm
                  have ne2_1 := ne1_2.symm
                  clear s1' s2'
                  go_wp2
                  go_end0
                  exact ⟨rfl, HQ.out ▸ A2.out, AF.out⟩
end Go.Proofs.YtfjiikadnlhekaaDoor
