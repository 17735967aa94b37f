/-
  What is proved here: the reference's reader: many, int. Conditions: the reader lies in memory.
-/
import Derived.Test.YtfjiikadnlhekaaDoorIn4
namespace Go.Proofs.YtfjiikadnlhekaaDoor
open Go.RowKit

theorem u64_odd (u : Nat) (hu : u < 9223372036854775808) : bits BinOp.and IntKind.u64 (u : Int) 1 = ((u % 2 : Nat) : Int) := by
  have hx : u &&& 1 = u % 2 := Nat.and_two_pow_sub_one_eq_mod u 1
  rw [← hx]
  have hy : u &&& 1 < 2 ^ 63 := Nat.and_lt_two_pow _ (by omega)
  show IntKind.u64.wrap ((BitVec.ofInt 64 (u : Int) &&& BitVec.ofInt 64 ((1 : Nat) : Int)).toNat : Int) = _
  rw [BitVec.toNat_and, ofInt_u64 u (by omega), ofInt_u64 1 (by omega)]
  exact u64_wrap_in _ (by omega)

set_option maxHeartbeats 2000000 in
set_option maxRecDepth 100000 in
theorem imany_any (b : Nat) (ao : Option Addr) (ca : Nat) (bs : List UInt8) (k most : Nat) (hmost : most ≤ 1073741824) (w : World) (hR : IAt w b ao ca bs k 0 0) :
    Calls Tryd.prog 55 #[.pointer (some ⟨b, 0, none⟩), .int .i64 (most : Int)] w (IPost (fun u : Nat => .int .i64 (u : Int)) (fun z => z = .int .i64 0) (rMany bs.length most (bs.drop k)) w b ao ca bs) := by
  have hnu := inum_any b ao ca bs k w hR
  have hpl : Hid (∀ f : Nat → Rd Nat, placed bs.length f (bs.drop k) = f k (bs.drop k)) := Lib.hid (fun f => by
    have := hR.2.2.2.2
    unfold placed
    rw [List.length_drop, show bs.length - (bs.length - k) = k by omega])
  clear hR
  go_enter Tryd.func55, Tryd.ntmps55
  go_wp2_with fail
  refine hnu.mono ?_
  rintro e w1 (⟨u, k', hG, rfl, hI, hB⟩ | ⟨c, p, k', z, hG, hcz, rfl, rfl, hI, hB⟩)
  · have hu := (num_wrote _ _ _ _ hG).1
    have HG := Lib.hid hG
    have hbd := ibad_any b ao ca bs k' 0 0 w1 hI
    rw [show decide ((0 : Int) ≠ 0) = false by decide] at hbd
    have HI := Lib.hid hI
    have HB := Lib.hid hB
    clear hG hnu hI hB
    go_wp2_with fail
    refine hbd.mono ?_
    rintro e w2 ⟨rfl, rfl⟩
    clear hbd
    by_cases h : most < u
    · have hE : Hid (rMany bs.length most (bs.drop k) = .error (85, k)) := Lib.hid (by
        unfold rMany
        rw [hpl.out, andThen_ok HG.out, if_pos h]; rfl)
      have hg : decide (((u : Nat) : Int) > ((most : Nat) : Int)) = true := decide_eq_true (by omega)
      go_wp2_with fail
      refine (ifail_set b ao ca bs k' 0 85 k _ HI.out).mono ?_
      rintro e w3 ⟨rfl, hI, hB⟩
      have HI3 := Lib.hid hI
      have HB3 := Lib.hid (HB.out.trans hB)
      clear hI hB
      go_wp2
      go_ret
      exact Or.inr ⟨85, k, k', _, hE.out, by decide, rfl, rfl, HI3.out, HB3.out⟩
    · have hE : Hid (rMany bs.length most (bs.drop k) = .ok (u, bs.drop k')) := Lib.hid (by
        unfold rMany
        rw [hpl.out, andThen_ok HG.out, if_neg h]; rfl)
      have hg : decide (((u : Nat) : Int) > ((most : Nat) : Int)) = false := decide_eq_false (by omega)
      go_wp2
      go_ret
      exact Or.inl ⟨u, k', hE.out, rfl, HI.out, HB.out⟩
  · have hE : Hid (rMany bs.length most (bs.drop k) = .error (c, p)) := Lib.hid (by
      unfold rMany
      rw [hpl.out]
      exact andThen_err hG)
    have hbd := ibad_any b ao ca bs k' c p w1 hI
    rw [show decide ((c : Int) ≠ 0) = true by simpa using hcz] at hbd
    have HI := Lib.hid hI
    have HB := Lib.hid hB
    have HC := Lib.hid hcz
    clear hG hnu hI hB hcz
    go_wp2_with fail
    refine hbd.mono ?_
    rintro e w2 ⟨rfl, rfl⟩
    clear hbd
    go_wp2
    go_ret
    exact Or.inr ⟨c, p, k', _, hE.out, HC.out, rfl, rfl, HI.out, HB.out⟩

set_option maxHeartbeats 2000000 in
set_option maxRecDepth 100000 in
theorem iint_any (b : Nat) (ao : Option Addr) (ca : Nat) (bs : List UInt8) (k : Nat) (w : World) (hR : IAt w b ao ca bs k 0 0) :
    Calls Tryd.prog 56 #[.pointer (some ⟨b, 0, none⟩)] w (IPost (fun n : Int => .int .i64 n) (fun z => z = .int .i64 0) (rInt bs.length (bs.drop k)) w b ao ca bs) := by
  have hnu := inum_any b ao ca bs k w hR
  clear hR
  go_enter Tryd.func56, Tryd.ntmps56
  go_wp2_with fail
  refine hnu.mono ?_
  rintro e w1 (⟨u, k', hG, rfl, hI, hB⟩ | ⟨c, p, k', z, hG, hcz, rfl, rfl, hI, hB⟩)
  · have hu := (num_wrote _ _ _ _ hG).1
    have hE : Hid (rInt bs.length (bs.drop k) = .ok (unsgn u, bs.drop k')) := Lib.hid (andThen_ok hG)
    have HI := Lib.hid hI
    have HB := Lib.hid hB
    clear hG hnu hI hB
    by_cases h : u % 2 = 1
    · have hs : Hid (unsgn u = -((u / 2 : Nat) : Int) - 1) := Lib.hid (if_pos h)
      have h1 : (bits BinOp.and IntKind.u64 (u : Int) 1 == 1) = true := by rw [u64_odd u hu, beq_iff_eq]; omega
      clear h
      go_wp2
      go_ret
      exact Or.inl ⟨unsgn u, k', hE.out, by rw [hs.out]; simp, HI.out, HB.out⟩
    · have hs : Hid (unsgn u = ((u / 2 : Nat) : Int)) := Lib.hid (if_neg h)
      have h1 : (bits BinOp.and IntKind.u64 (u : Int) 1 == 1) = false := by rw [u64_odd u hu, beq_eq_false_iff_ne]; omega
      clear h
      go_wp2
      go_ret
      exact Or.inl ⟨unsgn u, k', hE.out, by rw [hs.out]; simp, HI.out, HB.out⟩
  · have hE : Hid (rInt bs.length (bs.drop k) = .error (c, p)) := Lib.hid (andThen_err hG)
    have HI := Lib.hid hI
    have HB := Lib.hid hB
    have HC := Lib.hid hcz
    clear hG hnu hI hB hcz
    go_wp2
    go_ret
    exact Or.inr ⟨c, p, k', _, hE.out, HC.out, rfl, rfl, HI.out, HB.out⟩
end Go.Proofs.YtfjiikadnlhekaaDoor
