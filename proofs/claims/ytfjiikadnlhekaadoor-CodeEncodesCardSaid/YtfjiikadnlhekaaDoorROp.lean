/-
  What is proved here: the reference's Decimal and operand: an operand as text. Conditions: the number is an int, not the least one.
-/
import Derived.Test.YtfjiikadnlhekaaDoorDecim
namespace Go.Proofs.YtfjiikadnlhekaaDoor
open Go.RowKit

set_option maxHeartbeats 4000000 in
set_option maxRecDepth 100000 in
theorem decimal_any (n : Int) (h : -9223372036854775807 ≤ n ∧ n ≤ 9223372036854775807) (w : World) : Calls Tryd.prog 45 #[.int .i64 n] w fun e w' => e = .returned (.string (str (Lib.itoa n))) ∧ Below w.heap.size w w' := by
  by_cases h0 : n < 0
  · obtain ⟨m, rfl⟩ : ∃ m : Nat, n = -(m : Int) := ⟨n.natAbs, by omega⟩
    have hm1 : 1 ≤ m := by omega
    have hm2 : m ≤ 9223372036854775807 := by omega
    have hD := decimal_nat m hm2
    have HE : Hid (str [45] ++ str (Lib.decDigits m) = str (Lib.itoa (-(m : Int)))) := Lib.hid (by rw [Lib.itoa_neg m hm1, str_app]; rfl)
    have HSZ : (str (Lib.decDigits m)).size ≤ 21 := dec_short m hm2
    have hg : decide (-(m : Int) < 0) = true := decide_eq_true h0
    have e1 : IntKind.i64.wrap (m : Int) = (m : Int) := IntWalk.i64_in _ (by omega)
    have e2 : IntKind.i64.wrap (0 - -(m : Int)) = (m : Int) := by rw [show (0 - -(m : Int)) = (m : Int) by omega]; exact e1
    have e3 : (0 : Int) - -(m : Int) = (m : Int) := by omega
    generalize str (Lib.decDigits m) = sm at *
    generalize str (Lib.itoa (-(m : Int))) = si at *
    have HD := Lib.hid hD
    clear hD
    go_enter Tryd.func45, Tryd.ntmps45
    go_wp2_with fail
    refine (HD.out _).mono ?_
    rintro e w1 ⟨rfl, hb⟩
    have HB := Lib.hid hb
    clear hb e1 e2 e3
    go_wp2
    go_ret
    exact ⟨ret_str HE.out.symm, HB.out⟩
  · obtain ⟨m, rfl⟩ : ∃ m : Nat, n = (m : Int) := ⟨n.toNat, by omega⟩
    rw [Lib.itoa_nonneg]
    exact decimal_nat m (by omega) w
theorem itoa_short2 (n : Int) (h : -9223372036854775807 ≤ n ∧ n ≤ 9223372036854775807) : (str (Lib.itoa n)).size ≤ 21 := itoa_short n ⟨by omega, h.2⟩

/-- An operand as the reference tells it. -/
def rText (k : Nat) (n : Int) : List UInt8 :=
  if k = 1 then [32, 113] ++ Lib.itoa n else if k = 2 then [32, 118] ++ Lib.itoa n else if k = 3 then [32, 116] ++ Lib.itoa n
  else if k = 4 then (if n = 1 then [32, 98, 97, 99, 107] else [32, 102, 114, 111, 110, 116]) else if k = 6 then (if n = 1 then [32, 116, 114, 117, 101] else [32, 102, 97, 108, 115, 101])
  else if k = 8 then [32, 64] ++ Lib.itoa n else if k = 5 ∨ k = 7 then [32] ++ Lib.itoa n else []

set_option maxHeartbeats 4000000 in
set_option maxRecDepth 100000 in
theorem rop_0 (n : Int) (_h : -9223372036854775807 ≤ n ∧ n ≤ 9223372036854775807) (w : World) : Calls Tryd.prog 46 #[.int .i64 0, .int .i64 n] w fun e w' => e = .returned (.string (str (rText 0 n))) ∧ Below w.heap.size w w' := by
  go_enter Tryd.func46, Tryd.ntmps46
  go_wp2
  go_ret
  exact ⟨ret_str rfl, Below.refl _ _⟩

set_option maxHeartbeats 4000000 in
set_option maxRecDepth 100000 in
theorem rop_1 (n : Int) (h : -9223372036854775807 ≤ n ∧ n ≤ 9223372036854775807) (w : World) : Calls Tryd.prog 46 #[.int .i64 1, .int .i64 n] w fun e w' => e = .returned (.string (str (rText 1 n))) ∧ Below w.heap.size w w' := by
  have hD := decimal_any n h
  have HSZ := itoa_short2 n h
  have HE : Hid (str [32, 113] ++ str (Lib.itoa n) = str (rText 1 n)) := Lib.hid (by rw [str_app]; rfl)
  generalize str (Lib.itoa n) = si at *
  generalize str (rText 1 n) = sr at *
  have HD := Lib.hid hD
  clear hD h
  go_enter Tryd.func46, Tryd.ntmps46
  go_wp2_with fail
  refine (HD.out _).mono ?_
  rintro e w1 ⟨rfl, hb⟩
  have HB := Lib.hid hb
  clear hb
  go_wp2
  go_ret
  exact ⟨ret_str HE.out.symm, HB.out⟩

set_option maxHeartbeats 4000000 in
set_option maxRecDepth 100000 in
theorem rop_2 (n : Int) (h : -9223372036854775807 ≤ n ∧ n ≤ 9223372036854775807) (w : World) : Calls Tryd.prog 46 #[.int .i64 2, .int .i64 n] w fun e w' => e = .returned (.string (str (rText 2 n))) ∧ Below w.heap.size w w' := by
  have hD := decimal_any n h
  have HSZ := itoa_short2 n h
  have HE : Hid (str [32, 118] ++ str (Lib.itoa n) = str (rText 2 n)) := Lib.hid (by rw [str_app]; rfl)
  generalize str (Lib.itoa n) = si at *
  generalize str (rText 2 n) = sr at *
  have HD := Lib.hid hD
  clear hD h
  go_enter Tryd.func46, Tryd.ntmps46
  go_wp2_with fail
  refine (HD.out _).mono ?_
  rintro e w1 ⟨rfl, hb⟩
  have HB := Lib.hid hb
  clear hb
  go_wp2
  go_ret
  exact ⟨ret_str HE.out.symm, HB.out⟩

set_option maxHeartbeats 4000000 in
set_option maxRecDepth 100000 in
theorem rop_3 (n : Int) (h : -9223372036854775807 ≤ n ∧ n ≤ 9223372036854775807) (w : World) : Calls Tryd.prog 46 #[.int .i64 3, .int .i64 n] w fun e w' => e = .returned (.string (str (rText 3 n))) ∧ Below w.heap.size w w' := by
  have hD := decimal_any n h
  have HSZ := itoa_short2 n h
  have HE : Hid (str [32, 116] ++ str (Lib.itoa n) = str (rText 3 n)) := Lib.hid (by rw [str_app]; rfl)
  generalize str (Lib.itoa n) = si at *
  generalize str (rText 3 n) = sr at *
  have HD := Lib.hid hD
  clear hD h
  go_enter Tryd.func46, Tryd.ntmps46
  go_wp2_with fail
  refine (HD.out _).mono ?_
  rintro e w1 ⟨rfl, hb⟩
  have HB := Lib.hid hb
  clear hb
  go_wp2
  go_ret
  exact ⟨ret_str HE.out.symm, HB.out⟩

set_option maxHeartbeats 4000000 in
set_option maxRecDepth 100000 in
theorem rop_4 (n : Int) (_h : -9223372036854775807 ≤ n ∧ n ≤ 9223372036854775807) (w : World) : Calls Tryd.prog 46 #[.int .i64 4, .int .i64 n] w fun e w' => e = .returned (.string (str (rText 4 n))) ∧ Below w.heap.size w w' := by
  by_cases h1 : n = 1
  · have HE : Hid (rText 4 n = rText 4 1) := Lib.hid (by rw [h1])
    have h2 : (n == 1) = true := by simpa using h1
    clear h1
    go_enter Tryd.func46, Tryd.ntmps46
    go_wp2
    go_ret
    exact ⟨ret_str (by rw [HE.out]; rfl), Below.refl _ _⟩
  · have HE : Hid (rText 4 n = rText 4 0) := Lib.hid (by unfold rText; simp [h1])
    have h2 : (n == 1) = false := by simpa using h1
    clear h1
    go_enter Tryd.func46, Tryd.ntmps46
    go_wp2
    go_ret
    exact ⟨ret_str (by rw [HE.out]; rfl), Below.refl _ _⟩

set_option maxHeartbeats 4000000 in
set_option maxRecDepth 100000 in
theorem rop_5 (n : Int) (h : -9223372036854775807 ≤ n ∧ n ≤ 9223372036854775807) (w : World) : Calls Tryd.prog 46 #[.int .i64 5, .int .i64 n] w fun e w' => e = .returned (.string (str (rText 5 n))) ∧ Below w.heap.size w w' := by
  have hD := decimal_any n h
  have HSZ := itoa_short2 n h
  have HE : Hid (str [32] ++ str (Lib.itoa n) = str (rText 5 n)) := Lib.hid (by rw [str_app]; rfl)
  generalize str (Lib.itoa n) = si at *
  generalize str (rText 5 n) = sr at *
  have HD := Lib.hid hD
  clear hD h
  go_enter Tryd.func46, Tryd.ntmps46
  go_wp2_with fail
  refine (HD.out _).mono ?_
  rintro e w1 ⟨rfl, hb⟩
  have HB := Lib.hid hb
  clear hb
  go_wp2
  go_ret
  exact ⟨ret_str HE.out.symm, HB.out⟩

set_option maxHeartbeats 4000000 in
set_option maxRecDepth 100000 in
theorem rop_6 (n : Int) (_h : -9223372036854775807 ≤ n ∧ n ≤ 9223372036854775807) (w : World) : Calls Tryd.prog 46 #[.int .i64 6, .int .i64 n] w fun e w' => e = .returned (.string (str (rText 6 n))) ∧ Below w.heap.size w w' := by
  by_cases h1 : n = 1
  · have HE : Hid (rText 6 n = rText 6 1) := Lib.hid (by rw [h1])
    have h2 : (n == 1) = true := by simpa using h1
    clear h1
    go_enter Tryd.func46, Tryd.ntmps46
    go_wp2
    go_ret
    exact ⟨ret_str (by rw [HE.out]; rfl), Below.refl _ _⟩
  · have HE : Hid (rText 6 n = rText 6 0) := Lib.hid (by unfold rText; simp [h1])
    have h2 : (n == 1) = false := by simpa using h1
    clear h1
    go_enter Tryd.func46, Tryd.ntmps46
    go_wp2
    go_ret
    exact ⟨ret_str (by rw [HE.out]; rfl), Below.refl _ _⟩

set_option maxHeartbeats 4000000 in
set_option maxRecDepth 100000 in
theorem rop_7 (n : Int) (h : -9223372036854775807 ≤ n ∧ n ≤ 9223372036854775807) (w : World) : Calls Tryd.prog 46 #[.int .i64 7, .int .i64 n] w fun e w' => e = .returned (.string (str (rText 7 n))) ∧ Below w.heap.size w w' := by
  have hD := decimal_any n h
  have HSZ := itoa_short2 n h
  have HE : Hid (str [32] ++ str (Lib.itoa n) = str (rText 7 n)) := Lib.hid (by rw [str_app]; rfl)
  generalize str (Lib.itoa n) = si at *
  generalize str (rText 7 n) = sr at *
  have HD := Lib.hid hD
  clear hD h
  go_enter Tryd.func46, Tryd.ntmps46
  go_wp2_with fail
  refine (HD.out _).mono ?_
  rintro e w1 ⟨rfl, hb⟩
  have HB := Lib.hid hb
  clear hb
  go_wp2
  go_ret
  exact ⟨ret_str HE.out.symm, HB.out⟩

set_option maxHeartbeats 4000000 in
set_option maxRecDepth 100000 in
theorem rop_8 (n : Int) (h : -9223372036854775807 ≤ n ∧ n ≤ 9223372036854775807) (w : World) : Calls Tryd.prog 46 #[.int .i64 8, .int .i64 n] w fun e w' => e = .returned (.string (str (rText 8 n))) ∧ Below w.heap.size w w' := by
  have hD := decimal_any n h
  have HSZ := itoa_short2 n h
  have HE : Hid (str [32, 64] ++ str (Lib.itoa n) = str (rText 8 n)) := Lib.hid (by rw [str_app]; rfl)
  generalize str (Lib.itoa n) = si at *
  generalize str (rText 8 n) = sr at *
  have HD := Lib.hid hD
  clear hD h
  go_enter Tryd.func46, Tryd.ntmps46
  go_wp2_with fail
  refine (HD.out _).mono ?_
  rintro e w1 ⟨rfl, hb⟩
  have HB := Lib.hid hb
  clear hb
  go_wp2
  go_ret
  exact ⟨ret_str HE.out.symm, HB.out⟩

theorem rop_any (k : Nat) (hk : k ≤ 8) (n : Int) (h : -9223372036854775807 ≤ n ∧ n ≤ 9223372036854775807) (w : World) : Calls Tryd.prog 46 #[.int .i64 (k : Int), .int .i64 n] w fun e w' => e = .returned (.string (str (rText k n))) ∧ Below w.heap.size w w' := by
  rcases (show k = 0 ∨ k = 1 ∨ k = 2 ∨ k = 3 ∨ k = 4 ∨ k = 5 ∨ k = 6 ∨ k = 7 ∨ k = 8 by omega) with rfl | rfl | rfl | rfl | rfl | rfl | rfl | rfl | rfl
  · exact rop_0 n h w
  · exact rop_1 n h w
  · exact rop_2 n h w
  · exact rop_3 n h w
  · exact rop_4 n h w
  · exact rop_5 n h w
  · exact rop_6 n h w
  · exact rop_7 n h w
  · exact rop_8 n h w
theorem rtext_short (k : Nat) (n : Int) (h : -9223372036854775807 ≤ n ∧ n ≤ 9223372036854775807) : (rText k n).length ≤ 23 := by
  have h1 := itoa_short n ⟨by omega, h.2⟩
  unfold rText
  repeat' split
  all_goals (simp; try omega)
end Go.Proofs.YtfjiikadnlhekaaDoor
