/-
  What is proved here: slices.Equal on bools and on ints tells whether two lists are the same. Conditions: the lists lie in memory.
-/
import Derived.Test.YtfjiikadnlhekaaDoorBase
namespace Go.Proofs.YtfjiikadnlhekaaDoor
open Go.RowKit

set_option maxHeartbeats 1000000 in
set_option maxRecDepth 100000 in
theorem equal_bool (ao bo : Option Addr) (ca cb : Nat) (x y : List Bool) (w : World) (hx : Lies w ao (bools x)) (hy : Lies w bo (bools y)) (hlx : x.length ≤ 9223372036854775807) :
    Calls Tryd.prog 59 #[.slice ao x.length ca, .slice bo y.length cb] w fun e w' => e = .returned (.bool (x == y)) ∧ Below w.heap.size w w' := by
  have HX := Lib.hid hx
  have HY := Lib.hid hy
  clear hx hy
  by_cases hl : x.length = y.length
  · rw [hl] at hlx ⊢
    have HL := Lib.hid hl
    clear hl
    go_enter Tryd.func59, Tryd.ntmps59
    go_wp2
    go_loopw [13] (fun i wr => ∃ k : Nat, k ≤ y.length ∧ i = .int .i64 k ∧ Hid (x.take k = y.take k) ∧ Below w.heap.size w wr) (fun i _ => y.length + 1 - (intOf i).toNat)
    case atStart => exact ⟨0, Nat.zero_le _, rfl, Lib.hid (by simp), Below.refl _ _⟩
    case round =>
      obtain ⟨k, hk, rfl, he, hb⟩ := hrel
      by_cases hlt : k < y.length
      · have hxl : k < x.length := by rw [HL.out]; exact hlt
        obtain ⟨a, rfl, hca⟩ := (HX.out.below hb).at k (by rw [bools_length]; first | exact hxl | exact hlt)
        obtain ⟨b, rfl, hcb⟩ := (HY.out.below hb).at k (by rw [bools_length]; first | exact hxl | exact hlt)
        simp only [bools, List.getElem_map] at hca hcb
        have HN : Hid (x[k] = y[k] → x.take (k + 1) = y.take (k + 1)) := Lib.hid (take_more x y k hxl hlt he.out)
        have HE : Hid (x[k] ≠ y[k] → (x == y) = false) := Lib.hid (fun h => by rw [beq_eq_false_iff_ne]; exact ne_at x y k hxl hlt h)
        generalize x[k] = u at *
        generalize y[k] = v at *
        clear he HX HY hxl
        by_cases huv : u = v
        · subst huv
          have HN2 := Lib.hid (HN.out rfl)
          clear HN HE
          go_wp2
          go_quiet (fail)
          go_wp2
          go_roundw
          case rel => exact ⟨k + 1, by omega, by go_num, HN2, below_drewN hb _⟩
          case measure => simp [intOf]; omega
        · have hbu : (u == v) = false := by rw [beq_eq_false_iff_ne]; exact huv
          go_wp2
          go_quiet (fail)
          go_wp2
          go_ret
          exact ⟨ret_bool (HE.out huv), below_drewN hb _⟩
      · have hkl : k = y.length := by omega
        have hxy : Hid ((x == y) = true) := Lib.hid (by
          rw [beq_iff_eq]
          have := he.out
          rw [hkl] at this
          exact take_all x y HL.out (by rw [HL.out]; exact this))
        subst hkl
        clear he HX HY
        go_wp2
        go_ret
        exact ⟨ret_bool (hxy.out), hb⟩
  · have hne : Hid ((x == y) = false) := Lib.hid (by rw [beq_eq_false_iff_ne]; intro e; exact hl (by rw [e]))
    clear HX HY
    go_enter Tryd.func59, Tryd.ntmps59
    go_wp2
    go_ret
    exact ⟨ret_bool (hne.out), Below.refl _ _⟩

set_option maxHeartbeats 1000000 in
set_option maxRecDepth 100000 in
theorem equal_int (ao bo : Option Addr) (ca cb : Nat) (x y : List Int) (w : World) (hx : Lies w ao (nums x)) (hy : Lies w bo (nums y)) (hlx : x.length ≤ 9223372036854775807) :
    Calls Tryd.prog 61 #[.slice ao x.length ca, .slice bo y.length cb] w fun e w' => e = .returned (.bool (x == y)) ∧ Below w.heap.size w w' := by
  have HX := Lib.hid hx
  have HY := Lib.hid hy
  clear hx hy
  by_cases hl : x.length = y.length
  · rw [hl] at hlx ⊢
    have HL := Lib.hid hl
    clear hl
    go_enter Tryd.func61, Tryd.ntmps61
    go_wp2
    go_loopw [13] (fun i wr => ∃ k : Nat, k ≤ y.length ∧ i = .int .i64 k ∧ Hid (x.take k = y.take k) ∧ Below w.heap.size w wr) (fun i _ => y.length + 1 - (intOf i).toNat)
    case atStart => exact ⟨0, Nat.zero_le _, rfl, Lib.hid (by simp), Below.refl _ _⟩
    case round =>
      obtain ⟨k, hk, rfl, he, hb⟩ := hrel
      by_cases hlt : k < y.length
      · have hxl : k < x.length := by rw [HL.out]; exact hlt
        obtain ⟨a, rfl, hca⟩ := (HX.out.below hb).at k (by rw [nums_length]; first | exact hxl | exact hlt)
        obtain ⟨b, rfl, hcb⟩ := (HY.out.below hb).at k (by rw [nums_length]; first | exact hxl | exact hlt)
        simp only [nums, List.getElem_map] at hca hcb
        have HN : Hid (x[k] = y[k] → x.take (k + 1) = y.take (k + 1)) := Lib.hid (take_more x y k hxl hlt he.out)
        have HE : Hid (x[k] ≠ y[k] → (x == y) = false) := Lib.hid (fun h => by rw [beq_eq_false_iff_ne]; exact ne_at x y k hxl hlt h)
        generalize x[k] = u at *
        generalize y[k] = v at *
        clear he HX HY hxl
        by_cases huv : u = v
        · subst huv
          have HN2 := Lib.hid (HN.out rfl)
          clear HN HE
          go_wp2
          go_quiet (fail)
          go_wp2
          go_roundw
          case rel => exact ⟨k + 1, by omega, by go_num, HN2, below_drewN hb _⟩
          case measure => simp [intOf]; omega
        · have hbu : (u == v) = false := by rw [beq_eq_false_iff_ne]; exact huv
          go_wp2
          go_quiet (fail)
          go_wp2
          go_ret
          exact ⟨ret_bool (HE.out huv), below_drewN hb _⟩
      · have hkl : k = y.length := by omega
        have hxy : Hid ((x == y) = true) := Lib.hid (by
          rw [beq_iff_eq]
          have := he.out
          rw [hkl] at this
          exact take_all x y HL.out (by rw [HL.out]; exact this))
        subst hkl
        clear he HX HY
        go_wp2
        go_ret
        exact ⟨ret_bool (hxy.out), hb⟩
  · have hne : Hid ((x == y) = false) := Lib.hid (by rw [beq_eq_false_iff_ne]; intro e; exact hl (by rw [e]))
    clear HX HY
    go_enter Tryd.func61, Tryd.ntmps61
    go_wp2
    go_ret
    exact ⟨ret_bool (hne.out), Below.refl _ _⟩

end Go.Proofs.YtfjiikadnlhekaaDoor
