/-
  What is proved here: code's tables: may all but the instructions be? Conditions: the program lies in memory.
-/
import Derived.Test.YtfjiikadnlhekaaDoorCheck2
namespace Go.Proofs.YtfjiikadnlhekaaDoor
open Go.RowKit

def varOk (v : Var3) : Bool := !(decide (v.1 < v.2.1)) && (!(decide (v.2.2 < v.1)) && (!(decide (v.2.1 < -1073741824)) && !(decide (1073741824 < v.2.2))))
def within (P : Prg) (n : Int) : Bool := decide (-1 ≤ n) && decide (n ≤ (P.code.length : Int) - 1)
def tagOk (t : Int) : Bool := decide (1 ≤ t) && decide (t ≤ 255)
def lensOk (P : Prg) : Prop := P.ghost.length ≤ 16 ∧ P.vars.length ≤ 16 ∧ P.tags.length ≤ 4 ∧ P.on.length = P.ghost.length ∧ P.code.length ≤ 262144
instance (P : Prg) : Decidable (lensOk P) := by unfold lensOk; infer_instance
def tabOk (P : Prg) : Bool := decide (lensOk P) && (P.vars.all varOk && (P.tags.all tagOk && (P.on.all (within P) && within P P.miss)))

theorem all_more {α : Type} (f : α → Bool) (l : List α) (k : Nat) (hk : k < l.length) (h : (l.take k).all f = true) (hf : f l[k] = true) : (l.take (k + 1)).all f = true := by
  rw [List.take_succ_eq_append_getElem hk, List.all_append, h]
  simp [hf]
theorem all_not {α : Type} (f : α → Bool) (l : List α) (k : Nat) (hk : k < l.length) (hf : f l[k] = false) : l.all f = false := by
  rw [Bool.eq_false_iff]
  intro h
  rw [List.all_eq_true] at h
  rw [h _ (List.getElem_mem hk)] at hf
  cases hf
theorem all_done {α : Type} (f : α → Bool) (l : List α) (h : (l.take l.length).all f = true) : l.all f = true := by rwa [List.take_length] at h

set_option maxHeartbeats 4000000 in
set_option maxRecDepth 100000 in
theorem tables_any (s : Spots) (P : Prg) (w : World) (hP : PAt w s P) :
    Calls Tryd.prog 29 #[pval s P] w fun e w' => e = .returned (.bool (tabOk P)) ∧ Below w.heap.size w w' := by
  obtain ⟨fA, hbA⟩ := one_block w s P 27
  unfold pcells at fA hbA
  have l0 := hP.lghost
  have l1 := hP.lvars
  have l2 := hP.ltags
  have l3 := hP.lon
  have l4 := hP.lcode
  have x0 := fA.f0
  have x1 := fA.f1
  have x2 := fA.f2
  have x3 := fA.f3
  have x4 := fA.f4
  have x5 := fA.f5
  have HP := Lib.hid hP
  have HB := Lib.hid hbA
  clear hP
  by_cases hok : lensOk P
  · have hok' := hok
    unfold lensOk at hok
    obtain ⟨g0, g1, g2, g3, g4⟩ := hok
    have HOK := Lib.hid hok'
    have G3 := Lib.hid g3
    have n0 : ¬ ((16 : Int) < (P.ghost.length : Int)) := by omega
    have n1 : ¬ ((16 : Int) < (P.vars.length : Int)) := by omega
    have n2 : ¬ ((4 : Int) < (P.tags.length : Int)) := by omega
    have n4 : ¬ ((262144 : Int) < (P.code.length : Int)) := by omega
    have hbx := hbA.size
    rw [g3] at x3 hbA HB fA hbx
    unfold pval
    rw [g3]
    clear hok' g3 l0 l1 l2 l3 l4
    go_enter Tryd.func29, Tryd.ntmps29
    go_wp2
    clear x0 x1 x2 x3 x4 x5
    generalize hA : w.alloc (.cells #[.slice s.a0 P.ghost.length s.c0, .slice s.a1 P.vars.length s.c1, .slice s.a2 P.tags.length s.c2, .slice s.a3 P.ghost.length s.c3, .int .i64 P.miss, .slice s.a4 P.code.length s.c4] 27) = wA at *
    have FA := Lib.hid fA
    clear fA hA
    go_loopw [43] (fun i wr => ∃ k : Nat, k ≤ P.vars.length ∧ i = .int .i64 k ∧ Hid ((P.vars.take k).all varOk = true) ∧ Below w.heap.size w wr ∧ Hid (Below wA.heap.size wA wr)) (fun i _ => P.vars.length + 1 - (intOf i).toNat)
    case atStart => exact ⟨0, Nat.zero_le _, rfl, Lib.hid rfl, by first | exact hbA | exact hbA.drew, Lib.hid (by first | exact Below.refl _ _ | exact (Below.refl _ _).drew)⟩
    case round =>
      obtain ⟨k, hk, rfl, hall, hb, hbA2⟩ := hrel
      by_cases hlt : k < P.vars.length
      · obtain ⟨a, ha, hca⟩ := (HP.out.below hb).vars.row 3 (fun _ => rfl) (by decide) k hlt
        have HT : Hid (varOk P.vars[k] = true → (P.vars.take (k + 1)).all varOk = true) := Lib.hid (all_more varOk P.vars k hlt hall.out)
        have HF : Hid (varOk P.vars[k] = false → tabOk P = false) := Lib.hid (fun h => by unfold tabOk; rw [all_not varOk P.vars k hlt h]; simp)
        generalize P.vars[k] = v at *
        obtain ⟨u0, u1, u2⟩ := v
        have a0 : wr.cell? (a.add (k * 3)) = some (.int .i64 u0) := by have h := hca 0 _ rfl; rwa [add_zero'] at h
        have a1 : wr.cell? ⟨(a.add (k * 3)).block, (a.add (k * 3)).off + 1, none⟩ = some (.int .i64 u1) := by have h := hca 1 _ rfl; rwa [add_pos' _ _ (by decide)] at h
        have a2 : wr.cell? ⟨(a.add (k * 3)).block, (a.add (k * 3)).off + 2, none⟩ = some (.int .i64 u2) := by have h := hca 2 _ rfl; rwa [add_pos' _ _ (by decide)] at h
        rw [ha] at *
        have hle : w.heap.size ≤ wr.heap.size := hb.size
        have hle2 : wA.heap.size ≤ wr.heap.size := hbA2.out.size
        clear hall hca ha HP HOK FA hbA hbx HB G3
        by_cases c1 : u0 < u1
        · have h := Lib.hid (HF.out (by simp [varOk, c1]))
          clear HT HF
          go_wp2
          go_ret
          exact ⟨ret_bool h.out, hb.alloc hle _⟩
        · by_cases c2 : u2 < u0
          · have h := Lib.hid (HF.out (by simp [varOk, c1, c2]))
            clear HT HF
            go_wp2
            go_ret
            exact ⟨ret_bool h.out, hb.alloc hle _⟩
          · by_cases c3 : u1 < -1073741824
            · have h := Lib.hid (HF.out (by simp [varOk, c1, c2, c3]))
              clear HT HF
              go_wp2
              go_ret
              exact ⟨ret_bool h.out, hb.alloc hle _⟩
            · by_cases c4 : 1073741824 < u2
              · have h := Lib.hid (HF.out (by simp [varOk, c1, c2, c3, c4]))
                clear HT HF
                go_wp2
                go_ret
                exact ⟨ret_bool h.out, hb.alloc hle _⟩
              · have h := Lib.hid (HT.out (by simp [varOk, c1, c2, c3, c4]))
                clear HT HF
                go_wp2
                go_roundw
                case rel => exact ⟨k + 1, by omega, by go_num, h, hb.alloc hle _, Lib.hid (hbA2.out.alloc hle2 _)⟩
                case measure => simp [intOf]; omega
      · obtain rfl : k = P.vars.length := by omega
        have hv : Hid (P.vars.all varOk = true) := Lib.hid (all_done _ _ hall.out)
        have y2 := (FA.out.below hbA2.out).f2
        clear hall
        go_wp2
        clear y2
        go_loopw [73] (fun i wq => ∃ j : Nat, j ≤ P.tags.length ∧ i = .int .i64 j ∧ Hid ((P.tags.take j).all tagOk = true) ∧ Below w.heap.size w wq ∧ Hid (Below wA.heap.size wA wq)) (fun i _ => P.tags.length + 1 - (intOf i).toNat)
        case atStart => exact ⟨0, Nat.zero_le _, rfl, Lib.hid rfl, hb, hbA2⟩
        case round =>
          obtain ⟨j, hj, rfl, hall, hb', hbA3⟩ := hrel
          by_cases hlt : j < P.tags.length
          · obtain ⟨a, ha, hca⟩ := (HP.out.below hb').tags.at j (by rw [nums_length]; exact hlt)
            simp only [nums, List.getElem_map] at hca
            have HT : Hid (tagOk P.tags[j] = true → (P.tags.take (j + 1)).all tagOk = true) := Lib.hid (all_more tagOk P.tags j hlt hall.out)
            have HF : Hid (tagOk P.tags[j] = false → tabOk P = false) := Lib.hid (fun h => by unfold tabOk; rw [all_not tagOk P.tags j hlt h]; simp)
            generalize P.tags[j] = v at *
            rw [ha] at *
            clear hall ha HP HOK FA hbA hbx HB G3 hb hbA2 hv
            go_wp2_with fail
            refine (from_any v 1 255 _).mono ?_
            rintro e w' ⟨rfl, rfl⟩
            rw [show (decide ((1 : Int) ≤ v) && decide (v ≤ 255)) = tagOk v from rfl]
            cases hc : tagOk v
            · have h := Lib.hid (HF.out hc)
              clear HT HF
              go_wp2
              go_ret
              exact ⟨ret_bool h.out, hb'⟩
            · have h := Lib.hid (HT.out hc)
              clear HT HF
              go_wp2
              go_roundw
              case rel => exact ⟨j + 1, by omega, by go_num, h, hb', hbA3⟩
              case measure => simp [intOf]; omega
          · obtain rfl : j = P.tags.length := by omega
            have ht : Hid (P.tags.all tagOk = true) := Lib.hid (all_done _ _ hall.out)
            have y3 := (FA.out.below hbA3.out).f3
            rw [G3.out] at y3
            clear hall hb hbA2
            go_wp2
            clear y3
            go_loopw [84] (fun i wq => ∃ q : Nat, q ≤ P.ghost.length ∧ i = .int .i64 q ∧ Hid ((P.on.take q).all (within P) = true) ∧ Below w.heap.size w wq ∧ Hid (Below wA.heap.size wA wq)) (fun i _ => P.ghost.length + 1 - (intOf i).toNat)
            case atStart => exact ⟨0, Nat.zero_le _, rfl, Lib.hid rfl, hb', hbA3⟩
            case round =>
              obtain ⟨q, hq, rfl, hall, hb2, hbA4⟩ := hrel
              have y4 := (FA.out.below hbA4.out).f4
              have y5 := (FA.out.below hbA4.out).f5
              clear hb' hbA3
              by_cases hlt : q < P.ghost.length
              · have hqo : q < P.on.length := by rw [G3.out]; exact hlt
                obtain ⟨a, ha, hca⟩ := (HP.out.below hb2).on.at q (by rw [nums_length]; exact hqo)
                simp only [nums, List.getElem_map] at hca
                have HT : Hid (within P P.on[q] = true → (P.on.take (q + 1)).all (within P) = true) := Lib.hid (all_more (within P) P.on q hqo hall.out)
                have HF : Hid (within P P.on[q] = false → tabOk P = false) := Lib.hid (fun h => by unfold tabOk; rw [all_not (within P) P.on q hqo h]; simp)
                generalize P.on[q] = v at *
                rw [ha] at *
                clear hall ha HP HOK FA hbA hbx HB G3 hv ht hqo
                go_wp2_with fail
                refine (from_any v (-1) ((P.code.length : Int) - 1) _).mono ?_
                rintro e w' ⟨rfl, rfl⟩
                rw [show (decide ((-1 : Int) ≤ v) && decide (v ≤ (P.code.length : Int) - 1)) = within P v from rfl]
                cases hc : within P v
                · have h := Lib.hid (HF.out hc)
                  clear HT HF
                  go_wp2
                  go_ret
                  exact ⟨ret_bool h.out, hb2⟩
                · have h := Lib.hid (HT.out hc)
                  clear HT HF
                  go_wp2
                  go_roundw
                  case rel => exact ⟨q + 1, by omega, by go_num, h, hb2, hbA4⟩
                  case measure => simp [intOf]; omega
              · have hql : q = P.ghost.length := by omega
                have ho : Hid (P.on.all (within P) = true) := Lib.hid (by
                  have h := hall.out
                  rw [hql, ← G3.out] at h
                  exact all_done _ _ h)
                subst hql
                clear hall
                go_wp2_with fail
                refine (from_any P.miss (-1) ((P.code.length : Int) - 1) _).mono ?_
                rintro e w' ⟨rfl, rfl⟩
                rw [show (decide ((-1 : Int) ≤ P.miss) && decide (P.miss ≤ (P.code.length : Int) - 1)) = within P P.miss from rfl]
                have hfin : Hid (tabOk P = within P P.miss) := Lib.hid (by unfold tabOk; rw [hv.out, ht.out, ho.out]; simp [HOK.out])
                generalize within P P.miss = z at *
                go_wp2
                go_ret
                exact ⟨ret_bool hfin.out, hb2⟩
  · have hne := Lib.hid (show tabOk P = false by unfold tabOk; simp [hok])
    unfold pval
    clear HP l3
    by_cases n0 : (16 : Int) < (P.ghost.length : Int)
    · clear hok
      go_enter Tryd.func29, Tryd.ntmps29
      go_wp2
      go_ret
      exact ⟨ret_bool hne.out, by first | exact HB.out | exact (Below.refl _ w).alloc (Nat.le_refl _) _⟩
    by_cases n1 : (16 : Int) < (P.vars.length : Int)
    · clear hok
      go_enter Tryd.func29, Tryd.ntmps29
      go_wp2
      go_ret
      exact ⟨ret_bool hne.out, by first | exact HB.out | exact (Below.refl _ w).alloc (Nat.le_refl _) _⟩
    by_cases n2 : (4 : Int) < (P.tags.length : Int)
    · clear hok
      go_enter Tryd.func29, Tryd.ntmps29
      go_wp2
      go_ret
      exact ⟨ret_bool hne.out, by first | exact HB.out | exact (Below.refl _ w).alloc (Nat.le_refl _) _⟩
    by_cases n3 : P.on.length = P.ghost.length
    · have n4 : (262144 : Int) < (P.code.length : Int) := by
        unfold lensOk at hok
        omega
      clear hok
      go_enter Tryd.func29, Tryd.ntmps29
      go_wp2
      go_ret
      exact ⟨ret_bool hne.out, by first | exact HB.out | exact (Below.refl _ w).alloc (Nat.le_refl _) _⟩
    · clear hok
      go_enter Tryd.func29, Tryd.ntmps29
      go_wp2
      go_ret
      exact ⟨ret_bool hne.out, by first | exact HB.out | exact (Below.refl _ w).alloc (Nat.le_refl _) _⟩
end Go.Proofs.YtfjiikadnlhekaaDoor
