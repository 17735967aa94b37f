/-
  What is proved here: the reference's Vars and Tags tell whether variables and tags may be. Conditions: they lie in memory.
-/
import Derived.Test.YtfjiikadnlhekaaDoorCheck4
import Derived.BigQuiet
namespace Go.Proofs.YtfjiikadnlhekaaDoor
open Go.RowKit

set_option maxHeartbeats 4000000 in
set_option maxRecDepth 100000 in
theorem vars_any (ao : Option Addr) (c : Nat) (l : List Var3) (w : World) (hL : Lies w ao (flat var3 l)) (hl : l.length ≤ 9223372036854775807) :
    Calls Tryd.prog 47 #[.slice ao l.length c] w fun e w' => e = .returned (.bool (l.all varOk)) ∧ Below w.heap.size w w' := by
  have HL := Lib.hid hL
  clear hL
  go_enter Tryd.func47, Tryd.ntmps47
  go_wp2
  go_loopw [3] (fun i wr => ∃ k : Nat, k ≤ l.length ∧ i = .int .i64 k ∧ Hid ((l.take k).all varOk = true) ∧ Below w.heap.size w wr) (fun i _ => l.length + 1 - (intOf i).toNat)
  case atStart => exact ⟨0, Nat.zero_le _, rfl, Lib.hid rfl, Below.refl _ _⟩
  case round =>
    obtain ⟨k, hk, rfl, hall, hb⟩ := hrel
    by_cases hlt : k < l.length
    · obtain ⟨a, ha, hca⟩ := (HL.out.below hb).row 3 (fun _ => rfl) (by decide) k hlt
      have HT : Hid (varOk l[k] = true → (l.take (k + 1)).all varOk = true) := Lib.hid (all_more varOk l k hlt hall.out)
      have HF : Hid (varOk l[k] = false → l.all varOk = false) := Lib.hid (fun h => all_not varOk l k hlt h)
      generalize l[k] = v at *
      obtain ⟨u0, u1, u2⟩ := v
      have a0 : wr.cell? (a.add (k * 3)) = some (.int .i64 u0) := by have h := hca 0 _ rfl; rwa [add_zero'] at h
      have a1 : wr.cell? ⟨(a.add (k * 3)).block, (a.add (k * 3)).off + 1, none⟩ = some (.int .i64 u1) := by have h := hca 1 _ rfl; rwa [add_pos' _ _ (by decide)] at h
      have a2 : wr.cell? ⟨(a.add (k * 3)).block, (a.add (k * 3)).off + 2, none⟩ = some (.int .i64 u2) := by have h := hca 2 _ rfl; rwa [add_pos' _ _ (by decide)] at h
      rw [ha] at *
      have hle : w.heap.size ≤ wr.heap.size := hb.size
      have HB := Lib.hid hb
      clear hall hca ha HL hb
      go_wp2_with fail
      by_cases c1 : u0 < u1
      · have h := Lib.hid (HF.out (by simp [varOk, c1]))
        have d1 : decide (u1 > u0) = true := decide_eq_true c1
        clear HT HF
        go_quiet (fail)
        go_wp2
        go_ret
        exact ⟨ret_bool h.out, below_drewN HB.out _⟩
      have d1 : decide (u1 > u0) = false := decide_eq_false c1
      by_cases c2 : u2 < u0
      · have h := Lib.hid (HF.out (by simp [varOk, c1, c2]))
        have d2 : decide (u0 > u2) = true := decide_eq_true c2
        clear HT HF
        go_quiet (fail)
        go_wp2
        go_ret
        exact ⟨ret_bool h.out, below_drewN HB.out _⟩
      have d2 : decide (u0 > u2) = false := decide_eq_false c2
      by_cases c3 : u1 < -1073741824
      · have h := Lib.hid (HF.out (by simp [varOk, c1, c2, c3]))
        have d3 : decide (u1 < -1073741824) = true := decide_eq_true c3
        clear HT HF
        go_quiet (fail)
        go_wp2
        go_ret
        exact ⟨ret_bool h.out, below_drewN HB.out _⟩
      have d3 : decide (u1 < -1073741824) = false := decide_eq_false c3
      by_cases c4 : 1073741824 < u2
      · have h := Lib.hid (HF.out (by simp [varOk, c1, c2, c3, c4]))
        have d4 : decide (u2 > 1073741824) = true := decide_eq_true c4
        clear HT HF
        go_quiet (fail)
        go_wp2
        go_ret
        exact ⟨ret_bool h.out, below_drewN HB.out _⟩
      have d4 : decide (u2 > 1073741824) = false := decide_eq_false c4
      have h := Lib.hid (HT.out (by simp [varOk, c1, c2, c3, c4]))
      clear HT HF
      go_quiet (fail)
      go_wp2
      go_roundw
      case rel => exact ⟨k + 1, by omega, by go_num, h, below_drewN HB.out _⟩
      case measure => simp [intOf]; omega
    · obtain rfl : k = l.length := by omega
      have hv : Hid (l.all varOk = true) := Lib.hid (all_done _ _ hall.out)
      clear hall
      go_wp2
      go_ret
      exact ⟨ret_bool hv.out, hb⟩

set_option maxHeartbeats 4000000 in
set_option maxRecDepth 100000 in
theorem in_any (n lo hi : Int) (w : World) : Calls Tryd.prog 73 #[.int .i64 n, .int .i64 lo, .int .i64 hi] w fun e w' => e = .returned (.bool (decide (lo ≤ n) && decide (n ≤ hi))) ∧ w = w' := by
  by_cases c1 : lo ≤ n
  · have d1 : decide (n ≥ lo) = true := decide_eq_true c1
    go_enter Tryd.func73, Tryd.ntmps73
    go_wp2
    go_ret
    exact ⟨ret_bool (by simp [c1]), rfl⟩
  · have d1 : decide (n ≥ lo) = false := decide_eq_false c1
    go_enter Tryd.func73, Tryd.ntmps73
    go_wp2
    go_ret
    exact ⟨ret_bool (by simp), rfl⟩

set_option maxHeartbeats 4000000 in
set_option maxRecDepth 100000 in
theorem tags_any (ao : Option Addr) (c : Nat) (l : List Int) (w : World) (hL : Lies w ao (nums l)) (hl : l.length ≤ 9223372036854775807) :
    Calls Tryd.prog 48 #[.slice ao l.length c] w fun e w' => e = .returned (.bool (l.all tagOk)) ∧ Below w.heap.size w w' := by
  have HL := Lib.hid hL
  clear hL
  go_enter Tryd.func48, Tryd.ntmps48
  go_wp2
  go_loopw [3] (fun i wr => ∃ k : Nat, k ≤ l.length ∧ i = .int .i64 k ∧ Hid ((l.take k).all tagOk = true) ∧ Below w.heap.size w wr) (fun i _ => l.length + 1 - (intOf i).toNat)
  case atStart => exact ⟨0, Nat.zero_le _, rfl, Lib.hid rfl, Below.refl _ _⟩
  case round =>
    obtain ⟨j, hj, rfl, hall, hb⟩ := hrel
    by_cases hlt : j < l.length
    · obtain ⟨a, ha, hca⟩ := (HL.out.below hb).at j (by rw [nums_length]; exact hlt)
      simp only [nums, List.getElem_map] at hca
      have HT : Hid (tagOk l[j] = true → (l.take (j + 1)).all tagOk = true) := Lib.hid (all_more tagOk l j hlt hall.out)
      have HF : Hid (tagOk l[j] = false → l.all tagOk = false) := Lib.hid (fun h => all_not tagOk l j hlt h)
      generalize l[j] = v at *
      rw [ha] at *
      clear hall ha HL
      go_wp2_with fail
      refine (in_any v 1 255 _).mono ?_
      rintro e w' ⟨rfl, rfl⟩
      rw [show (decide ((1 : Int) ≤ v) && decide (v ≤ 255)) = tagOk v from rfl]
      cases hc : tagOk v
      · have h := Lib.hid (HF.out hc)
        clear HT HF
        go_wp2
        go_ret
        exact ⟨ret_bool h.out, hb⟩
      · have h := Lib.hid (HT.out hc)
        clear HT HF
        go_wp2
        go_roundw
        case rel => exact ⟨j + 1, by omega, by go_num, h, hb⟩
        case measure => simp [intOf]; omega
    · obtain rfl : j = l.length := by omega
      have hv : Hid (l.all tagOk = true) := Lib.hid (all_done _ _ hall.out)
      clear hall
      go_wp2
      go_ret
      exact ⟨ret_bool hv.out, hb⟩
end Go.Proofs.YtfjiikadnlhekaaDoor
