/-
  What is proved here: the reference's fits: may a number be an operand of a kind? It says what the program's bounds say. Conditions: the program lies in memory.
-/
import Derived.Test.YtfjiikadnlhekaaDoorCheck4
import Derived.Test.YtfjiikadnlhekaaDoorTab
import Derived.BigQuiet
namespace Go.Proofs.YtfjiikadnlhekaaDoor
open Go.RowKit

def fitK (P : Prg) (k : Nat) (n : Int) : Bool :=
  match k with
  | 1 => decide (0 ≤ n) && decide (n < (P.ghost.length : Int))
  | 2 => decide (0 ≤ n) && decide (n < (P.vars.length : Int))
  | 3 => decide (0 ≤ n) && decide (n < (P.tags.length : Int))
  | 4 => decide (n = 0) || decide (n = 1)
  | 5 => decide (-1073741824 ≤ n) && decide (n ≤ 1073741824)
  | 6 => decide (n = 0) || decide (n = 1)
  | 7 => decide (0 ≤ n) && decide (n ≤ 4194304)
  | 8 => decide (0 ≤ n) && decide (n < (P.code.length : Int))
  | _ => decide (n = 0)

set_option maxHeartbeats 4000000 in
set_option maxRecDepth 100000 in
theorem fits_any (s : Spots) (P : Prg) (k : Nat) (hk : k ≤ 8) (n : Int) (w : World) (hP : PAt w s P) :
    Calls Tryd.prog 49 #[pval s P, .int .i64 (k : Int), .int .i64 n] w fun e w' => e = .returned (.bool (fitK P k n)) ∧ Below w.heap.size w w' := by
  obtain ⟨fA, hbA⟩ := one_block w s P 27
  unfold pcells at fA hbA
  have l0 := hP.lghost
  have l1 := hP.lvars
  have l2 := hP.ltags
  have l4 := hP.lcode
  have x0 := fA.f0
  have x1 := fA.f1
  have x2 := fA.f2
  have x5 := fA.f5
  obtain ⟨V, hV⟩ : ∃ V, fitK P k n = V := ⟨_, rfl⟩
  rw [hV]
  have HV := Lib.hid hV
  have HB := Lib.hid hbA
  clear hV hP fA hbA
  unfold pval
  have hc : k = 0 ∨ k = 1 ∨ k = 2 ∨ k = 3 ∨ k = 4 ∨ k = 5 ∨ k = 6 ∨ k = 7 ∨ k = 8 := by omega
  by_cases z0 : 0 ≤ n
  · have d0 : decide (n ≥ 0) = true := decide_eq_true z0
    rcases hc with rfl | rfl | rfl | rfl | rfl | rfl | rfl | rfl | rfl
    all_goals
      (have hv := Lib.hid HV.out
       clear HV
       go_enter Tryd.func49, Tryd.ntmps49
       go_wp2)
    all_goals
      (go_ret
       exact ⟨ret_bool (by
        rw [← hv.out]; unfold fitK
        first | done | (rw [Bool.eq_iff_iff]; simp; done) | (rw [Bool.eq_iff_iff]; simp; omega)), HB.out⟩)
  · have d0 : decide (n ≥ 0) = false := decide_eq_false z0
    rcases hc with rfl | rfl | rfl | rfl | rfl | rfl | rfl | rfl | rfl
    all_goals
      (have hv := Lib.hid HV.out
       clear HV
       go_enter Tryd.func49, Tryd.ntmps49
       go_wp2)
    all_goals
      (go_ret
       exact ⟨ret_bool (by
        rw [← hv.out]; unfold fitK
        first | done | (rw [Bool.eq_iff_iff]; simp; done) | (rw [Bool.eq_iff_iff]; simp; omega)), HB.out⟩)

/-- The kinds' letters, and the reference's numbers of them. -/
def kindNo (c : Nat) : Nat := if c = 113 then 1 else if c = 118 then 2 else if c = 116 then 3 else if c = 101 then 4 else if c = 110 then 5 else if c = 98 then 6 else if c = 114 then 7 else if c = 112 then 8 else 0
def tabKind (op i : Nat) : Nat := ((tableRows.getD op ([], [])).2.getD i 0).toNat
theorem kinds_same : ∀ op, op < 42 → ∀ i, i < 4 → tabKind op i = (if i < (kindsOf (op : Int)).length then kindNo ((kindsOf (op : Int)).getD i 0).toNat else 0) ∧ (i < (kindsOf (op : Int)).length → kindNo ((kindsOf (op : Int)).getD i 0).toNat ≠ 0) ∧ tabKind op i ≤ 8 := by decide +kernel
theorem fit_same (P : Prg) (x : Ins5) (op : Nat) (hop : x.1 = (op : Int)) (ho : op < 42) (i : Nat) (hi : i < 4) : fitK P (tabKind op i) ((opnds x).getD i 0) = fitAt P x i := by
  obtain ⟨h1, h2, _⟩ := kinds_same op ho i hi
  rw [h1]
  unfold fitAt bndAt
  rw [hop]
  generalize (opnds x).getD i 0 = n
  by_cases hik : i < (kindsOf (op : Int)).length
  · rw [if_pos hik, if_pos hik]
    have h3 := h2 hik
    generalize ((kindsOf (op : Int)).getD i 0).toNat = c at *
    by_cases e113 : c = 113
    · subst e113
      rw [Bool.eq_iff_iff]
      simp [kindNo, bnds, fitK]
      try omega
    by_cases e118 : c = 118
    · subst e118
      rw [Bool.eq_iff_iff]
      simp [kindNo, bnds, fitK]
      try omega
    by_cases e116 : c = 116
    · subst e116
      rw [Bool.eq_iff_iff]
      simp [kindNo, bnds, fitK]
      try omega
    by_cases e101 : c = 101
    · subst e101
      rw [Bool.eq_iff_iff]
      simp [kindNo, bnds, fitK]
      try omega
    by_cases e110 : c = 110
    · subst e110
      rw [Bool.eq_iff_iff]
      simp [kindNo, bnds, fitK]
      try omega
    by_cases e98 : c = 98
    · subst e98
      rw [Bool.eq_iff_iff]
      simp [kindNo, bnds, fitK]
      try omega
    by_cases e114 : c = 114
    · subst e114
      rw [Bool.eq_iff_iff]
      simp [kindNo, bnds, fitK]
      try omega
    by_cases e112 : c = 112
    · subst e112
      rw [Bool.eq_iff_iff]
      simp [kindNo, bnds, fitK]
      try omega
    exfalso
    apply h3
    unfold kindNo
    simp [e113, e118, e116, e101, e110, e98, e114, e112]
  · rw [if_neg hik, if_neg hik]
    rw [Bool.eq_iff_iff]
    simp [fitK]
    omega
end Go.Proofs.YtfjiikadnlhekaaDoor
