/-
  What is proved here: Itoa at this seat, an operand as text. Conditions: the library's table of powers of ten is laid.
-/
import Derived.Test.YtfjiikadnlhekaaDoorBuf
import Derived.Lib.ItoaLen
namespace Go.Proofs.YtfjiikadnlhekaaDoor
open Go.RowKit

/-- The library's table is laid. -/
def Tab (w : World) : Prop := Lib.TabIs Tryd.prog w "internal/strconv.uint64pow10" .u64 Lib.pow10Tab
theorem Tab.below {w w' : World} (h : Tab w) (hb : Below w.heap.size w w') : Tab w' := by
  unfold Tab Lib.TabIs World.var? at h ⊢
  cases hg : Tryd.prog.globalNamed "internal/strconv.uint64pow10" with
  | none => rw [hg] at h; cases h
  | some g =>
    rw [hg] at h
    simp only [Option.bind_some] at h ⊢
    have hlt : g < w.heap.size := by
      rcases Nat.lt_or_ge g w.heap.size with h' | h'
      · exact h'
      · rw [Array.getElem?_eq_none h'] at h; cases h
    rw [hb.block g hlt]
    exact h
theorem below_grow (w : World) (k : Nat) (os : Array Obj) : Below w.heap.size w (Go.Sort.grow (w.drewN k) os) := by
  obtain ⟨s1, s2, s3, s4⟩ := drewN_same w k
  refine ⟨s2, s3, s4, ?_, fun j hj => ?_⟩
  · show w.heap.size ≤ ((w.drewN k).heap ++ os).size
    rw [s1, Array.size_append]; omega
  · show ((w.drewN k).heap ++ os)[j]? = _
    rw [s1, Array.getElem?_append_left hj]
theorem itoa_any (n : Int) (h : -9223372036854775808 ≤ n ∧ n ≤ 9223372036854775807) (w : World) (hT : Tab w) :
    Calls Tryd.prog 37 #[.int .i64 n] w fun e w' => e = .returned (.string (str (Lib.itoa n))) ∧ Below w.heap.size w w' := by
  refine (Tryd.strconv_Itoa n h.1 h.2 w hT).mono ?_
  rintro e w' ⟨rfl, k, os, rfl⟩
  exact ⟨rfl, below_grow w k os⟩
theorem itoa_short (n : Int) (h : -9223372036854775808 ≤ n ∧ n ≤ 9223372036854775807) : (Lib.itoa n).length ≤ 21 := Lib.itoa_length_le n h.1 h.2
theorem str_size (l : List UInt8) : (str l).size = l.length := rfl
theorem str_app (a b : List UInt8) : str a ++ str b = str (a ++ b) := by
  have h : (str a ++ str b).data = (str (a ++ b)).data := by rw [ByteArray.data_append]; simp [str]
  exact ByteArray.ext h

/-- An operand as text. -/
def opText (c : Nat) (n : Int) : List UInt8 :=
  if c = 113 ∨ c = 118 ∨ c = 116 then [UInt8.ofNat c] ++ Lib.itoa n else if c = 101 then (if n = 0 then [102, 114, 111, 110, 116] else [98, 97, 99, 107])
  else if c = 98 then (if n = 1 then [116, 114, 117, 101] else [102, 97, 108, 115, 101]) else if c = 112 then [64] ++ Lib.itoa n else Lib.itoa n
theorem ret_str {a b : ByteArray} (h : b = a) : Ending.returned (Value.string a) = .returned (.string b) := by rw [h]

set_option maxHeartbeats 2000000 in
set_option maxRecDepth 100000 in
theorem operand_any (c : Nat) (n : Int) (h : -9223372036854775808 ≤ n ∧ n ≤ 9223372036854775807) (w : World) (hT : Tab w) :
    Calls Tryd.prog 38 #[.int .u8 (c : Int), .int .i64 n] w fun e w' => e = .returned (.string (str (opText c n))) ∧ Below w.heap.size w w' := by
  have hit := itoa_any n h w hT
  have hsz : (str (Lib.itoa n)).size ≤ 21 := itoa_short n h
  obtain ⟨V, hV⟩ : ∃ V, opText c n = V := ⟨_, rfl⟩
  rw [hV]
  unfold opText at hV
  have HV := Lib.hid hV
  generalize Lib.itoa n = t at *
  clear hV hT h
  by_cases h113 : c = 113
  · subst h113
    have hv := HV.out
    simp at hv
    have HVV := Lib.hid hv
    clear HV hv
    have hs1 : (Utf8.encode 113).size = 1 := by kernel_rfl
    have he1 : Hid (Utf8.encode 113 = str [113]) := Lib.hid (by kernel_rfl)
    go_enter Tryd.func38, Tryd.ntmps38
    go_wp2_with fail
    refine hit.mono ?_
    rintro e w1 ⟨rfl, hb1⟩
    go_wp2
    go_ret
    exact ⟨ret_str (by rw [← HVV.out, he1.out]; exact (str_app [113] t).symm), hb1⟩
  by_cases h118 : c = 118
  · subst h118
    have hv := HV.out
    simp at hv
    have HVV := Lib.hid hv
    clear HV hv
    have hs1 : (Utf8.encode 118).size = 1 := by kernel_rfl
    have he1 : Hid (Utf8.encode 118 = str [118]) := Lib.hid (by kernel_rfl)
    go_enter Tryd.func38, Tryd.ntmps38
    go_wp2_with fail
    refine hit.mono ?_
    rintro e w1 ⟨rfl, hb1⟩
    go_wp2
    go_ret
    exact ⟨ret_str (by rw [← HVV.out, he1.out]; exact (str_app [118] t).symm), hb1⟩
  by_cases h116 : c = 116
  · subst h116
    have hv := HV.out
    simp at hv
    have HVV := Lib.hid hv
    clear HV hv
    have hs1 : (Utf8.encode 116).size = 1 := by kernel_rfl
    have he1 : Hid (Utf8.encode 116 = str [116]) := Lib.hid (by kernel_rfl)
    go_enter Tryd.func38, Tryd.ntmps38
    go_wp2_with fail
    refine hit.mono ?_
    rintro e w1 ⟨rfl, hb1⟩
    go_wp2
    go_ret
    exact ⟨ret_str (by rw [← HVV.out, he1.out]; exact (str_app [116] t).symm), hb1⟩
  by_cases h101 : c = 101
  · subst h101
    by_cases hn : n = 0
    · subst hn
      have hv := HV.out
      simp at hv
      have HVV := Lib.hid hv
      clear HV hv hit
      go_enter Tryd.func38, Tryd.ntmps38
      go_wp2
      go_ret
      exact ⟨ret_str (by rw [← HVV.out]; rfl), Below.refl _ _⟩
    · have hv := HV.out
      simp [hn] at hv
      have HVV := Lib.hid hv
      have hn' : (n == 0) = false := by rw [beq_eq_false_iff_ne]; exact hn
      clear HV hv hit
      go_enter Tryd.func38, Tryd.ntmps38
      go_wp2
      go_ret
      exact ⟨ret_str (by rw [← HVV.out]; rfl), Below.refl _ _⟩
  by_cases h98 : c = 98
  · subst h98
    by_cases hn : n = 1
    · subst hn
      have hv := HV.out
      simp at hv
      have HVV := Lib.hid hv
      clear HV hv hit
      go_enter Tryd.func38, Tryd.ntmps38
      go_wp2_with fail
      refine (fbool_any _ _).mono ?_
      rintro e w1 ⟨rfl, rfl⟩
      go_wp2
      go_ret
      exact ⟨ret_str (by rw [← HVV.out]; rfl), Below.refl _ _⟩
    · have hv := HV.out
      simp [hn] at hv
      have HVV := Lib.hid hv
      have hn' : (n == 1) = false := by rw [beq_eq_false_iff_ne]; exact hn
      clear HV hv hit
      go_enter Tryd.func38, Tryd.ntmps38
      go_wp2_with fail
      refine (fbool_any _ _).mono ?_
      rintro e w1 ⟨rfl, rfl⟩
      go_wp2
      go_ret
      exact ⟨ret_str (by rw [← HVV.out]; rfl), Below.refl _ _⟩
  by_cases h112 : c = 112
  · subst h112
    have hv := HV.out
    simp at hv
    have HVV := Lib.hid hv
    clear HV hv
    have hs1 : (⟨#[64]⟩ : ByteArray).size = 1 := rfl
    go_enter Tryd.func38, Tryd.ntmps38
    go_wp2_with fail
    refine hit.mono ?_
    rintro e w1 ⟨rfl, hb1⟩
    go_wp2
    go_ret
    exact ⟨ret_str (by rw [← HVV.out]; exact (str_app [64] t).symm), hb1⟩
  have hv := HV.out
  simp only [h113, h118, h116, h101, h98, h112, or_self, if_false] at hv
  have HVV := Lib.hid hv
  have e1 : (((c : Int) == 113) = false) := by rw [beq_eq_false_iff_ne]; omega
  have e2 : (((c : Int) == 118) = false) := by rw [beq_eq_false_iff_ne]; omega
  have e3 : (((c : Int) == 116) = false) := by rw [beq_eq_false_iff_ne]; omega
  have e4 : (((c : Int) == 101) = false) := by rw [beq_eq_false_iff_ne]; omega
  have e5 : (((c : Int) == 98) = false) := by rw [beq_eq_false_iff_ne]; omega
  have e6 : (((c : Int) == 112) = false) := by rw [beq_eq_false_iff_ne]; omega
  clear HV hv h113 h118 h116 h101 h98 h112
  go_enter Tryd.func38, Tryd.ntmps38
  go_wp2_with fail
  refine hit.mono ?_
  rintro e w1 ⟨rfl, hb1⟩
  go_wp2
  go_ret
  exact ⟨ret_str (by rw [← HVV.out]), hb1⟩
end Go.Proofs.YtfjiikadnlhekaaDoor
