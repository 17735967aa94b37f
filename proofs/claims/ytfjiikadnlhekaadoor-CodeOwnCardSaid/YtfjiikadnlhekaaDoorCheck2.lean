/-
  What is proved here: code's bounds: the least and the greatest number that an operand of a kind may be. Conditions: the program's lists are shorter than 2^40.
-/
import Derived.Test.YtfjiikadnlhekaaDoorCheck1
namespace Go.Proofs.YtfjiikadnlhekaaDoor
open Go.RowKit

def bnds (P : Prg) (c : Nat) : Int × Int :=
  if c = 113 then (0, (P.ghost.length : Int) - 1) else if c = 118 then (0, (P.vars.length : Int) - 1) else if c = 116 then (0, (P.tags.length : Int) - 1)
  else if c = 110 then (-1073741824, 1073741824) else if c = 114 then (0, 4194304) else if c = 112 then (0, (P.code.length : Int) - 1) else (0, 1)

theorem ret2_int {a b c d : Int} (h1 : a = c) (h2 : b = d) : Ending.returned (.tuple #[.int .i64 a, .int .i64 b]) = .returned (.tuple #[.int .i64 c, .int .i64 d]) := by rw [h1, h2]

set_option maxHeartbeats 1000000 in
set_option maxRecDepth 100000 in
theorem bounds_any (s : Spots) (P : Prg) (c : Nat) (w : World) (hP : PAt w s P) :
    Calls Tryd.prog 31 #[pval s P, .int .u8 (c : Int)] w fun e w' => e = .returned (.tuple #[.int .i64 (bnds P c).1, .int .i64 (bnds P c).2]) ∧ Below w.heap.size w w' := by
  obtain ⟨fA, hbA⟩ := one_block w s P 27
  unfold pcells at fA hbA
  have l0 := hP.lghost
  have l1 := hP.lvars
  have l2 := hP.ltags
  have l4 := hP.lcode
  have x0 := fA.f0
  have x1 := fA.f1
  have x2 := fA.f2
  have x5 := fA.f5
  obtain ⟨V, hV⟩ : ∃ V, bnds P c = V := ⟨_, rfl⟩
  rw [hV]
  unfold bnds at hV
  have HV := Lib.hid hV
  have HB := Lib.hid hbA
  clear hV hP fA hbA
  unfold pval
  by_cases h1 : c = 113
  · subst h1
    have hv := HV.out
    simp at hv
    clear HV 
    go_enter Tryd.func31, Tryd.ntmps31
    go_wp2
    go_quiet (fail)
    go_wp2
    go_ret2
    exact ⟨ret2_int (by rw [← hv]) (by rw [← hv]), by first | exact below_drewN HB.out _ | exact HB.out⟩
  by_cases h2 : c = 118
  · subst h2
    have hv := HV.out
    simp at hv
    clear HV 
    go_enter Tryd.func31, Tryd.ntmps31
    go_wp2
    go_quiet (fail)
    go_wp2
    go_ret2
    exact ⟨ret2_int (by rw [← hv]) (by rw [← hv]), by first | exact below_drewN HB.out _ | exact HB.out⟩
  by_cases h3 : c = 116
  · subst h3
    have hv := HV.out
    simp at hv
    clear HV 
    go_enter Tryd.func31, Tryd.ntmps31
    go_wp2
    go_quiet (fail)
    go_wp2
    go_ret2
    exact ⟨ret2_int (by rw [← hv]) (by rw [← hv]), by first | exact below_drewN HB.out _ | exact HB.out⟩
  by_cases h4 : c = 110
  · subst h4
    have hv := HV.out
    simp at hv
    clear HV 
    go_enter Tryd.func31, Tryd.ntmps31
    go_wp2
    go_ret2
    exact ⟨ret2_int (by rw [← hv]) (by rw [← hv]), by first | exact below_drewN HB.out _ | exact HB.out⟩
  by_cases h5 : c = 114
  · subst h5
    have hv := HV.out
    simp at hv
    clear HV 
    go_enter Tryd.func31, Tryd.ntmps31
    go_wp2
    go_ret2
    exact ⟨ret2_int (by rw [← hv]) (by rw [← hv]), by first | exact below_drewN HB.out _ | exact HB.out⟩
  by_cases h6 : c = 112
  · subst h6
    have hv := HV.out
    simp at hv
    clear HV 
    go_enter Tryd.func31, Tryd.ntmps31
    go_wp2
    go_quiet (fail)
    go_wp2
    go_ret2
    exact ⟨ret2_int (by rw [← hv]) (by rw [← hv]), by first | exact below_drewN HB.out _ | exact HB.out⟩
  have hv := HV.out
  simp only [h1, h2, h3, h4, h5, h6, if_false] at hv
  have e1 : (((c : Int) == 113) = false) := by rw [beq_eq_false_iff_ne]; omega
  have e2 : (((c : Int) == 118) = false) := by rw [beq_eq_false_iff_ne]; omega
  have e3 : (((c : Int) == 116) = false) := by rw [beq_eq_false_iff_ne]; omega
  have e4 : (((c : Int) == 110) = false) := by rw [beq_eq_false_iff_ne]; omega
  have e5 : (((c : Int) == 114) = false) := by rw [beq_eq_false_iff_ne]; omega
  have e6 : (((c : Int) == 112) = false) := by rw [beq_eq_false_iff_ne]; omega
  clear HV h1 h2 h3 h4 h5 h6
  go_enter Tryd.func31, Tryd.ntmps31
  go_wp2
  go_ret2
  exact ⟨ret2_int (by rw [← hv]) (by rw [← hv]), HB.out⟩
end Go.Proofs.YtfjiikadnlhekaaDoor
