/-
  What is proved here: the reference's num: a number's bytes. Conditions: the number is less than 2^63.
-/
import Derived.Test.YtfjiikadnlhekaaDoorNum2
import Derived.Test.YtfjiikadnlhekaaDoorEnc
namespace Go.Proofs.YtfjiikadnlhekaaDoor
open Go.RowKit

theorem u64w_in (n : Int) (h : 0 ≤ n ∧ n < 18446744073709551616) : IntKind.u64.wrap n = n := by
  show n % 18446744073709551616 = n
  omega
theorem u64o_nat (a b : Nat) (ha : a < 9223372036854775808) (hb : b < 9223372036854775808) : bits .or .u64 (a : Int) (b : Int) = ((a ||| b : Nat) : Int) := by
  have hx : a ||| b < 2 ^ 63 := Nat.or_lt_two_pow (by omega) (by omega)
  show IntKind.u64.wrap ((BitVec.ofInt 64 (a : Int) ||| BitVec.ofInt 64 (b : Int)).toNat : Int) = _
  rw [BitVec.toNat_or, ofInt_u64 a (by omega), ofInt_u64 b (by omega)]
  exact u64w_in _ (by omega)
theorem u64_low (u : Nat) (hu : u ≤ 9223372036854775807) : bits BinOp.and IntKind.u64 (u : Int) 127 = ((u % 128 : Nat) : Int) := by
  have hx : u &&& 127 = u % 128 := Nat.and_two_pow_sub_one_eq_mod u 7
  rw [← hx]
  have hy : u &&& 127 < 2 ^ 63 := Nat.and_lt_two_pow _ (by omega)
  show IntKind.u64.wrap ((BitVec.ofInt 64 (u : Int) &&& BitVec.ofInt 64 ((127 : Nat) : Int)).toNat : Int) = _
  rw [BitVec.toNat_and, ofInt_u64 u (by omega), ofInt_u64 127 (by omega)]
  exact u64w_in _ (by omega)
theorem byte_more (u : Nat) (hu : u ≤ 9223372036854775807) : bits BinOp.or IntKind.u64 (bits BinOp.and IntKind.u64 (u : Int) 127) 128 % 256 = ((UInt8.ofNat (u % 128 + 128)).toNat : Int) := by
  rw [u64_low u hu]
  have h := u64o_nat (u % 128) 128 (by omega) (by decide)
  have h2 := or128 ⟨u % 128, by omega⟩
  simp only at h2
  rw [h2, Nat.mod_mod] at h
  have e2 : (UInt8.ofNat (u % 128 + 128)).toNat = u % 128 + 128 := by simp; omega
  rw [e2, show ((128 : Int)) = ((128 : Nat) : Int) from rfl, h]
  omega

set_option maxHeartbeats 2000000 in
set_option maxRecDepth 100000 in
theorem rnum_any (n : Nat) (hn : n ≤ 9223372036854775807) (w : World) :
    Calls Tryd.prog 41 #[.int .u64 (n : Int)] w fun e w' => ∃ v, e = .returned v ∧ w'.ownsRow w.heap.size 5 1 v (num n).length (bcells (num n)) ∧ Below w.heap.size w w' := by
  go_enter Tryd.func41, Tryd.ntmps41
  go_wp2
  go_loopw [0, 3] (fun uu vv wr => ∃ (u f : Nat) (l' : List UInt8), uu = .int .u64 (u : Int) ∧ u ≤ 9223372036854775807 ∧ Hid (u < 128 ^ (f + 1)) ∧ Hid (l' ++ numF f u = num n) ∧ l'.length + f ≤ 10 ∧ wr.ownsRow w.heap.size 5 1 vv l'.length (bcells l') ∧ Hid (Below w.heap.size w wr)) (fun uu _ _ => (intOf uu).toNat)
  case atStart => exact ⟨n, 10, [], rfl, hn, Lib.hid (by omega), Lib.hid rfl, by simp, World.ownsRow_nil _ _ _ _, Lib.hid (Below.refl _ _)⟩
  case round =>
    obtain ⟨u, f, l', rfl, hu, huf, hnf, hl', hown, hb⟩ := hrel
    have hBr : w.heap.size ≤ wr.heap.size := hb.out.size
    by_cases hlt : u < 128
    · have hg : decide ((u : Int) > 127) = false := decide_eq_false (by omega)
      have hnum : Hid (l' ++ [UInt8.ofNat u] = num n) := Lib.hid (by
        rw [← hnf.out]
        cases f with
        | zero => rfl
        | succ f => rw [numF, if_pos hlt])
      go_wp2_with (at_builtin; go_loud (refine wpList_append1 rfl _ _ 32 rfl w.heap.size 5 (.int .u8 0) 1 Tryd.underlying32 infoB rfl _ _ _ rfl hown wr.heap.size rfl _ rfl rfl ?e1 ?e2 ?e3 ?_))
      case e1 => unfold maxLen; omega
      case e2 => omega
      case e3 => exact hBr
      intro g3 cp w3 hown3 hgr hBg3 hloc
      have e1 : ((UInt8.ofNat u).toNat : Int) = (u : Int) := by
        have : (UInt8.ofNat u).toNat = u := by simp; omega
        rw [this]
      rw [← e1, bcells_app] at hown3
      have hbn := Lib.hid (hb.out.grown hgr hBr (fun k hk => (hown.lt k hk).1))
      have HO : Hid (w3.ownsRow w.heap.size 5 1 (.slice (some ⟨g3, 0, none⟩) (l'.length + 1) cp) (num n).length (bcells (num n))) := Lib.hid (by
        rw [← hnum.out]
        have e : (l' ++ [UInt8.ofNat u]).length = l'.length + 1 := by simp
        rw [e]
        exact hown3)
      clear hown hown3 hgr hloc e1 hnum hnf huf
      go_wp2
      go_ret
      exact ⟨_, rfl, HO.out, hbn.out⟩
    · have hg : decide ((u : Int) > 127) = true := decide_eq_true (by omega)
      go_wp2_with (at_builtin; go_loud (refine wpList_append1 rfl _ _ 32 rfl w.heap.size 5 (.int .u8 0) 1 Tryd.underlying32 infoB rfl _ _ _ rfl hown wr.heap.size rfl _ rfl rfl ?c1 ?c2 ?c3 ?_))
      case c1 => unfold maxLen; omega
      case c2 => omega
      case c3 => exact hBr
      intro g3 cp w3 hown3 hgr hBg3 hloc
      rw [byte_more u hu, bcells_app] at hown3
      have hbn := Lib.hid (hb.out.grown hgr hBr (fun k hk => (hown.lt k hk).1))
      have hf1 : 1 ≤ f := by
        rcases Nat.eq_zero_or_pos f with h | h
        · have := huf.out; rw [h] at this; simp at this; omega
        · exact h
      obtain ⟨f', rfl⟩ : ∃ f', f = f' + 1 := ⟨f - 1, by omega⟩
      have hnum : Hid ((l' ++ [UInt8.ofNat (u % 128 + 128)]) ++ numF f' (u / 128) = num n) := Lib.hid (by
        rw [← hnf.out]
        conv => rhs; rw [numF, if_neg hlt]
        simp)
      have huf2 : Hid (u / 128 < 128 ^ (f' + 1)) := Lib.hid (by
        have := huf.out
        rw [Nat.pow_succ] at this
        exact Nat.div_lt_of_lt_mul (by omega))
      have HO : Hid (w3.ownsRow w.heap.size 5 1 (.slice (some ⟨g3, 0, none⟩) (l'.length + 1) cp) (l' ++ [UInt8.ofNat (u % 128 + 128)]).length (bcells (l' ++ [UInt8.ofNat (u % 128 + 128)]))) := Lib.hid (by
        have e : (l' ++ [UInt8.ofNat (u % 128 + 128)]).length = l'.length + 1 := by simp
        rw [e]
        exact hown3)
      clear hown hown3 hgr hloc hnf huf
      go_wp2
      go_roundw
      case rel => exact ⟨u / 128, f', l' ++ [UInt8.ofNat (u % 128 + 128)], by simp, by omega, huf2, hnum, by simp; omega, HO.out, hbn⟩
      case measure => simp [intOf]; omega
end Go.Proofs.YtfjiikadnlhekaaDoor
