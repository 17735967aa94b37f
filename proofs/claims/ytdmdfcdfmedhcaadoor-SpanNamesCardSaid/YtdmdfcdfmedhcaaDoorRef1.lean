/-
  What is proved here: the reference's Lines and bounds compute the number of lines and a line's bounds. Conditions: the bytes lie in memory; fewer than 2^40 of them.
-/
import Derived.Test.YtdmdfcdfmedhcaaDoorRows
import Derived.Test.YtdmdfcdfmedhcaaDoorComm
namespace Go.Proofs.YtdmdfcdfmedhcaaDoor
open Go.RowKit

theorem take_count_succ (bs : List UInt8) (k : Nat) (h : k < bs.length) : (bs.take (k + 1)).count 10 = (bs.take k).count 10 + if bs[k] = 10 then 1 else 0 := by
  rw [List.take_succ_eq_append_getElem h, List.count_append]
  by_cases hc : bs[k] = 10 <;> simp [hc]

set_option maxHeartbeats 400000 in
theorem lines_any (ao : Option Addr) (cap : Nat) (bs : List UInt8) (w : World) (hB : BAt w ao bs) (hn : bs.length ≤ 1099511627776) :
    Calls Tryd.prog 16 #[.slice ao bs.length cap] w fun e w' => e = .returned (.int .i64 ((bs.count 10 : Nat) + 1 : Int)) ∧ w = w' := by
  go_enter Tryd.func16, Tryd.ntmps16
  go_wp2
  go_loop [3, 4] (fun n i => ∃ k : Nat, k ≤ bs.length ∧ i = .int .i64 k ∧ n = .int .i64 (((bs.take k).count 10 : Nat) + 1 : Int)) (fun _ i => bs.length - (intOf i).toNat)
  case atStart => exact ⟨0, Nat.zero_le _, rfl, by simp⟩
  case round =>
    obtain ⟨k, hk, rfl, rfl⟩ := hrel
    have hcl : (bs.take k).count 10 ≤ k := Nat.le_trans List.count_le_length (by simp; omega)
    by_cases hlt : k < bs.length
    · obtain ⟨a, rfl, hc⟩ := hB.at k hlt
      have hs := take_count_succ bs k hlt
      by_cases h10 : bs[k] = 10
      · rw [if_pos h10] at hs
        have ht : (((bs[k]).toNat : Int) == 10) = true := by rw [h10]; rfl
        have HS := Lib.hid hs
        have H10 := Lib.hid h10
        clear hs h10
        go_wp2
        go_round
        case rel => exact ⟨k + 1, by omega, by go_num, by rw [HS.out]; go_num⟩
        case measure => simp [intOf]; omega
      · rw [if_neg h10] at hs
        have ht : (((bs[k]).toNat : Int) == 10) = false := by
          rw [beq_eq_false_iff_ne]; intro e; apply h10; exact UInt8.toNat_inj.1 (by have : (10 : UInt8).toNat = 10 := rfl; omega)
        have HS := Lib.hid hs
        have H10 := Lib.hid h10
        clear hs h10
        go_wp2
        go_round
        case rel => exact ⟨k + 1, by omega, by go_num, by rw [HS.out]; go_num⟩
        case measure => simp [intOf]; omega
    · go_wp2
      go_ret
      exact ⟨by rw [List.take_of_length_le (by omega)]; rfl, rfl⟩

theorem bnd_step (bs : List UInt8) (k f : Nat) (m : Int) (h : k < bs.length) :
    bnd (bs.drop k) k f m = if bs[k] = 10 then (if m = 1 then (f, k) else bnd (bs.drop (k + 1)) (k + 1) (k + 1) (m - 1)) else bnd (bs.drop (k + 1)) (k + 1) f m := by
  rw [List.drop_eq_getElem_cons h]
  rfl
theorem bnd_stop (bs : List UInt8) (k f : Nat) (m : Int) (h : bs.length ≤ k) : bnd (bs.drop k) k f m = (f, k) := by
  rw [List.drop_eq_nil_of_le h]
  rfl
theorem ten_int {c : UInt8} (h : ¬ c = 10) : ¬ (c.toNat : Int) = 10 := by
  intro e; apply h; exact UInt8.toNat_inj.1 (by have : (10 : UInt8).toNat = 10 := rfl; omega)
theorem ret2_int {a b c d : Int} (h1 : a = c) (h2 : b = d) : Ending.returned (.tuple #[.int .i64 a, .int .i64 b]) = .returned (.tuple #[.int .i64 c, .int .i64 d]) := by rw [h1, h2]

set_option maxHeartbeats 400000 in
theorem bounds_any (ao : Option Addr) (cap : Nat) (bs : List UInt8) (n : Int) (w : World) (hB : BAt w ao bs) (hn : bs.length ≤ 1099511627776) (hn1 : 1 ≤ n) (hn2 : n ≤ 1099511627777) :
    Calls Tryd.prog 37 #[.slice ao bs.length cap, .int .i64 n] w fun e w' => e = .returned (.tuple #[.int .i64 ((bnd bs 0 0 n).1 : Nat), .int .i64 ((bnd bs 0 0 n).2 : Nat)]) ∧ w = w' := by
  obtain ⟨R, HR⟩ : ∃ R, bnd bs 0 0 n = R := ⟨_, rfl⟩
  rw [HR]
  have HR := Lib.hid HR
  go_enter Tryd.func37, Tryd.ntmps37
  go_wp2
  go_loop [1, 6, 7] (fun m f i => ∃ (k x : Nat) (y : Int), k ≤ bs.length ∧ x ≤ k ∧ 1 ≤ y ∧ y ≤ n ∧ i = .int .i64 k ∧ f = .int .i64 x ∧ m = .int .i64 y ∧ Hid (bnd (bs.drop k) k x y = R)) (fun _ _ i => bs.length - (intOf i).toNat)
  case atStart => exact ⟨0, 0, n, Nat.zero_le _, Nat.le_refl _, hn1, Int.le_refl _, rfl, rfl, rfl, HR⟩
  case round =>
    obtain ⟨k, x, y, hk, hx, hy1, hy2, rfl, rfl, rfl, HP⟩ := hrel
    by_cases hlt : k < bs.length
    · obtain ⟨a, rfl, hc⟩ := hB.at k hlt
      have hs := bnd_step bs k x y hlt
      rw [HP.out] at hs
      by_cases h10 : bs[k] = 10
      · rw [if_pos h10] at hs
        have ht : (((bs[k]).toNat : Int) != 10) = false := by rw [h10]; rfl
        by_cases hy : y = 1
        · rw [if_pos hy] at hs
          have hyt : (y == 1) = true := by rw [hy]; rfl
          have HS := Lib.hid hs
          clear hs h10 hy
          go_wp2
          go_ret2
          rw [HS.out]
          exact ⟨rfl, rfl⟩
        · rw [if_neg hy] at hs
          have hyt : (y == 1) = false := by rw [beq_eq_false_iff_ne]; exact hy
          have HS := Lib.hid hs.symm
          have hy3 : 2 ≤ y := by omega
          clear hs h10 hy
          go_wp2
          go_round
          case rel => exact ⟨k + 1, k + 1, y - 1, by omega, Nat.le_refl _, by omega, by omega, by go_num, by go_num, rfl, HS⟩
          case measure => simp [intOf]; omega
      · rw [if_neg h10] at hs
        have ht : (((bs[k]).toNat : Int) != 10) = true := by
          rw [bne_iff_ne]; exact ten_int h10
        have HS := Lib.hid hs.symm
        clear hs h10
        go_wp2
        go_round
        case rel => exact ⟨k + 1, x, y, by omega, by omega, hy1, hy2, by go_num, rfl, rfl, HS⟩
        case measure => simp [intOf]; omega
    · have hs := bnd_stop bs k x y (by omega)
      rw [HP.out] at hs
      have HS := Lib.hid hs
      clear hs
      go_wp2
      go_ret2
      rw [HS.out]
      exact ⟨ret2_int rfl (by omega), rfl⟩
end Go.Proofs.YtdmdfcdfmedhcaaDoor
