/-
  What is proved here: the law SpanMarked answers true. Conditions: the bytes lie in memory; at most 2^20 bytes; the number is an int's; the library's variable internal/bytealg.MaxLen holds a number.
-/
import Derived.Test.YtdmdfcdfmedhcaaDoorLawMarks
namespace Go.Proofs.YtdmdfcdfmedhcaaDoor
open Go.RowKit

theorem str_take (L : List UInt8) (n : Nat) : (str L).extract 0 n = str (L.take n) := by
  apply ByteArray.ext
  simp [str, ByteArray.data_extract]
theorem str_get (L : List UInt8) (i : Nat) (c : UInt8) (h : i < (str L).size) (hc : L[i]? = some c) : (str L)[i]'h = c := by
  have h1 : L[i]? = some ((str L)[i]'h) := List.getElem?_eq_getElem (show i < L.length from h)
  rw [hc] at h1
  exact (Option.some.inj h1).symm
theorem str_two (l : List UInt8) : str (l ++ [10]) = str l ++ (⟨#[10]⟩ : ByteArray) := by
  apply ByteArray.ext
  simp [str]

/-- What round answers. -/
theorem round_any (x : Int) (n : Nat) (w : World) (_hx0 : -9223372036854775808 ≤ x) (_hx1 : x ≤ 9223372036854775807) (hn0 : 0 < n) (hn1 : n ≤ 1048577) :
    Calls Tryd.prog 28 #[.int .i64 x, .int .i64 (n : Int)] w fun e w' => (∃ k : Nat, k < n ∧ e = .returned (.int .i64 (k : Int))) ∧ w = w' := by
  have h1 := Int.tmod_lt_of_pos x (show (0 : Int) < (n : Int) by omega)
  have h2 : -(n : Int) < x.tmod n := by
    have := Int.tmod_lt_of_pos (-x) (show (0 : Int) < (n : Int) by omega)
    rw [Int.neg_tmod] at this
    omega
  have hnz : ¬ ((n : Int) = 0) := by omega
  have hnm : ¬ ((n : Int) = -1) := by omega
  by_cases h : x.tmod n < 0
  · generalize hr : x.tmod n = r at *
    go_enter Tryd.func28, Tryd.ntmps28
    go_wp2
    go_ret
    exact ⟨⟨(r + n).toNat, by omega, by rw [show ((r + n).toNat : Int) = r + n from by omega]; rfl⟩, rfl⟩
  · generalize hr : x.tmod n = r at *
    go_enter Tryd.func28, Tryd.ntmps28
    go_wp2
    go_ret
    exact ⟨⟨r.toNat, by omega, by rw [show (r.toNat : Int) = r from by omega]; rfl⟩, rfl⟩

set_option maxHeartbeats 2000000 in
set_option maxRecDepth 100000 in
theorem lawMarked (ao : Option Addr) (cap : Nat) (bs : List UInt8) (x : Int) (m : Int) (w : World)
    (hB : BAt w ao bs) (_hcap : bs.length ≤ cap) (hn : bs.length ≤ 1048576) (hx : -9223372036854775808 ≤ x ∧ x ≤ 9223372036854775807) (hm : w.cell? ⟨1, 0, none⟩ = some (.int .i64 m)) :
    Calls Tryd.prog 10 #[.slice ao bs.length cap, .int .i64 x] w fun e w' => e = .returned (.bool true) ∧ Below w.heap.size w w' := by
  have HB := Lib.hid hB
  have HM := Lib.hid hm
  have hro := fun (wx : World) => round_any x (bs.length + 1) wx hx.1 hx.2 (by omega) (by omega)
  clear hB hm
  go_enter Tryd.func10, Tryd.ntmps10
  go_wp2_with fail
  refine (made_any ao cap bs m _ HB.out (by omega) HM.out).mono ?_
  rintro e w1 ⟨p, rfl, hT, hb1⟩
  have HT := Lib.hid hT
  have HM1 := Lib.hid ((hb1.cell (World.block_lt_of_cell? w _ HM.out)).trans HM.out)
  clear hT HB HM
  go_wp2_with fail
  refine (hro _).mono ?_
  rintro e w' ⟨⟨k, hk, rfl⟩, rfl⟩
  have hk' : k ≤ bs.length := by omega
  have hSp := tSpot_any p bs (k : Int) w1 HT.out (by omega)
  have hsp2 : rSpot bs (k : Int) = (((rowOf bs k : Nat) : Int), ((colAt bs k : Nat) : Int), 0) := by
    unfold rSpot
    rw [if_neg (by omega)]
    simp
  rw [hsp2] at hSp
  have hMk := fun (wx : World) (h : TextAt wx p bs) => tMark_any p bs (k : Int) wx h (by omega) (col_pos bs)
  have hmk2 : rMark bs (k : Int) = (str (markOf (seg bs (rowOf bs k : Nat)) (colAt bs k)), 0) := by
    unfold rMark
    rw [if_neg (by omega)]
    simp
  rw [hmk2] at hMk
  have hLi := fun (wx : World) (h : TextAt wx p bs) => tLine_any p bs ((rowOf bs k : Nat) : Int) wx h (by omega)
  rw [row_line bs k] at hLi
  have hC1 := col_pos bs k hk'
  have hCs : colAt bs k ≤ (starts (str (seg bs (rowOf bs k : Nat)))).length + 1 := by
    rw [col_upto bs k hk']
    refine Nat.le_trans List.countP_le_length ?_
    unfold cols segOf
    simp
  have hLs : (seg bs (rowOf bs k : Nat)).length ≤ bs.length := by
    have hb := bnd_le bs 0 0 (rowOf bs k : Nat) (Nat.le_refl _)
    rw [seg_length]; omega
  have hst := starts_length (str (seg bs (rowOf bs k : Nat)))
  rw [str_size] at hst
  have hrow := row_le bs k hk'
  have hll := lns_length bs
  have hcl : bs.count 10 ≤ bs.length := List.count_le_length
  have HMK := Lib.hid hMk
  have HLI := Lib.hid hLi
  clear hsp2 hmk2 hMk hLi
  generalize rowOf bs k = R at *
  generalize colAt bs k = C at *
  generalize hl : seg bs (R : Nat) = l at *
  have hml : (markOf l C).length = l.length + 1 + C := by
    unfold markOf
    simp [pads_length]
    omega
  have hm1 : (markOf l C).take (l.length + 1) = l ++ [10] := by
    unfold markOf
    rw [← List.append_assoc, List.take_left' (by simp)]
  have hm2 : (markOf l C)[l.length + C]? = some 94 := by
    have hp : (l ++ [10] ++ (pads (str l)).take (C - 1)).length = l.length + C := by simp [pads_length]; omega
    unfold markOf
    rw [← List.append_assoc, ← List.append_assoc, ← hp, List.getElem?_concat_length]
  have hm3 : ∀ i, l.length + 1 ≤ i → i < l.length + C → (markOf l C)[i]? = some 9 ∨ (markOf l C)[i]? = some 32 := by
    intro i h1 h2
    have hi : i < (markOf l C).length := by omega
    have e : (markOf l C)[i]? = ((pads (str l)).take (C - 1))[i - (l.length + 1)]? := by
      unfold markOf
      rw [← List.append_assoc, List.getElem?_append_right (by simp; omega), List.getElem?_append_left (by simp [pads_length]; omega)]
      simp
    have hx : (i - (l.length + 1)) < ((pads (str l)).take (C - 1)).length := by simp [pads_length]; omega
    rw [e, List.getElem?_eq_getElem hx]
    rcases padF_mem (str l) _ _ _ (List.mem_of_mem_take (List.getElem_mem hx)) with h | h
    · left; rw [h]
    · right; rw [h]
  have hss : (str l).size = l.length := str_size l
  have hsm : (str (markOf l C)).size = l.length + 1 + C := by rw [str_size, hml]
  have HM1' := Lib.hid hm1
  have HM2' := Lib.hid hm2
  have HM3' := Lib.hid hm3
  have hCl : C ≤ l.length + 1 := by omega
  clear hm1 hm2 hm3 hCs hst hll hrow hml
  go_wp2_with fail
  refine hSp.mono ?_
  rintro e w2 ⟨rfl, hb2⟩
  have HT2 := Lib.hid (HT.out.below hb2)
  have HM2 := Lib.hid ((hb2.cell (World.block_lt_of_cell? _ _ HM1.out)).trans HM1.out)
  have hbr2 := hb1.trans (hb2.mono hb1.size)
  clear hSp HT HM1 hb1 hb2
  go_wp2_with fail
  refine (HLI.out _ HT2.out).mono ?_
  rintro e w' ⟨rfl, rfl⟩
  go_wp2_with fail
  refine (HMK.out _ HT2.out).mono ?_
  rintro e w3 ⟨rfl, hb3⟩
  have HM3 := Lib.hid ((hb3.cell (World.block_lt_of_cell? _ _ HM2.out)).trans HM2.out)
  have hbr3 := hbr2.trans (hb3.mono hbr2.size)
  clear HMK HLI HT2 HM2 hbr2 hb3
  generalize hM : str (markOf l C) = M at *
  have HMM := Lib.hid hM
  have hext : M.extract 0 (l.length + 1) = str l ++ (⟨#[10]⟩ : ByteArray) := by
    rw [← hM, str_take, HM1'.out, str_two]
  have hap : (str l ++ (⟨#[10]⟩ : ByteArray)).size = l.length + 1 := by rw [ByteArray.size_append, hss]; rfl
  obtain ⟨N, hN⟩ : ∃ N, N = l.length + 1 + C := ⟨_, rfl⟩
  rw [← hN] at hsm
  have hNI : (N : Int) = (l.length : Int) + 1 + (C : Int) := by omega
  have hN2 : l.length + 2 ≤ N := by omega
  have hN3 : N ≤ 4194304 := by omega
  have HN := Lib.hid hN
  have HMM := Lib.hid hM
  clear hM hl hN
  have hlast : M[l.length + C]'(by omega) = 94 := by
    have h1 := HMM.out
    subst h1
    exact str_get _ _ _ _ HM2'.out
  have hvals : Hid (∀ j, l.length + 1 ≤ j → j < l.length + C → ∃ h : j < M.size, M[j]'h = 9 ∨ M[j]'h = 32) := Lib.hid (by
    intro j h1 h2
    refine ⟨by omega, ?_⟩
    have h3 := HMM.out
    subst h3
    rcases HM3'.out j h1 h2 with h | h
    · exact .inl (str_get _ _ _ _ h)
    · exact .inr (str_get _ _ _ _ h))
  have hlast2 : (((M[l.length + C]'(by omega)).toNat : Int) != 94) = false := by rw [hlast]; rfl
  go_wp2
  go_loopw [13] (fun i wr => ∃ j : Nat, l.length + 1 ≤ j ∧ j ≤ l.length + C ∧ i = .int .i64 j ∧ Hid (wr.cell? ⟨1, 0, none⟩ = some (.int .i64 m)) ∧ Below w.heap.size w wr) (fun i _ => l.length + C + 1 - (intOf i).toNat)
  case atStart => exact ⟨l.length + 1, by omega, by omega, by simp, HM3, hbr3⟩
  case round =>
    obtain ⟨j, hj1, hj2, rfl, HM4, hbr4⟩ := hrel
    by_cases hlt : j < l.length + C
    · obtain ⟨hjm, hv⟩ := hvals.out j hj1 hlt
      have h9a : (((9 : UInt8).toNat : Int) != 9) = false := rfl
      have h9b : (((32 : UInt8).toNat : Int) != 9) = true := rfl
      have h9c : (((32 : UInt8).toNat : Int) != 32) = false := rfl
      rcases hv with hv | hv
      · have e1 : (((M[j]'hjm).toNat : Int) != 9) = false := by rw [hv]; rfl
        clear hvals hext hlast hlast2
        go_wp2
        go_roundw
        case rel => exact ⟨j + 1, by omega, by omega, by go_num, HM4, by first | exact hbr4 | exact hbr4.drew | exact below_drewN hbr4 _⟩
        case measure => simp [intOf]; omega
      · have e1 : (((M[j]'hjm).toNat : Int) != 9) = true := by rw [hv]; rfl
        have e2 : (((M[j]'hjm).toNat : Int) != 32) = false := by rw [hv]; rfl
        clear hvals hext hlast hlast2
        go_wp2
        go_roundw
        case rel => exact ⟨j + 1, by omega, by omega, by go_num, HM4, by first | exact hbr4 | exact hbr4.drew | exact below_drewN hbr4 _⟩
        case measure => simp [intOf]; omega
    · clear hvals hext hlast hlast2
      go_wp2_with (go_at_call 19; refine (head_any m _ HM4.out).mono ?_; rintro e w4 ⟨rfl, hb4⟩)
      go_ret
      exact ⟨rfl, hbr4.trans (hb4.mono hbr4.size)⟩

theorem bounds_i64 {x : Int} (h : (Lit.int .i64 x).wf = true) : -9223372036854775808 ≤ x ∧ x ≤ 9223372036854775807 := by
  simpa [Lit.wf, IntKind.min, IntKind.max, IntKind.signed, IntKind.bits] using h
end Go.Proofs.YtdmdfcdfmedhcaaDoor
