/-
  What is proved here: the reference's reader: num. Conditions: the reader lies in memory.
-/
import Derived.Test.YtfjiikadnlhekaaDoorIn2
import Derived.Test.YtfjiikadnlhekaaDoorNum2
namespace Go.Proofs.YtfjiikadnlhekaaDoor
open Go.RowKit

theorem But.trans {a b c : World} {k : Nat} (h : But a b k) (h2 : But b c k) : But a c k :=
  ⟨h2.os.trans h.os, h2.tape.trans h.tape, h2.output.trans h.output, h2.size.trans h.size, fun j hj => (h2.block j hj).trans (h.block j hj)⟩

theorem u64_wrap_in (n : Int) (h : 0 ≤ n ∧ n < 18446744073709551616) : IntKind.u64.wrap n = n := by
  show n % 18446744073709551616 = n
  omega
theorem i64_and_nat (a b : Nat) (ha : a < 9223372036854775808) (hb : b < 9223372036854775808) : bits .and .i64 (a : Int) (b : Int) = ((a &&& b : Nat) : Int) := by
  have hx : a &&& b < 2 ^ 63 := Nat.and_lt_two_pow _ (by omega)
  show IntKind.i64.wrap ((BitVec.ofInt 64 (a : Int) &&& BitVec.ofInt 64 (b : Int)).toNat : Int) = _
  rw [BitVec.toNat_and, ofInt_u64 a (by omega), ofInt_u64 b (by omega)]
  exact IntWalk.i64_in _ (by omega)
theorem u64_or_nat (a b : Nat) (ha : a < 9223372036854775808) (hb : b < 9223372036854775808) : bits .or .u64 (a : Int) (b : Int) = ((a ||| b : Nat) : Int) := by
  have hx : a ||| b < 2 ^ 63 := Nat.or_lt_two_pow (by omega) (by omega)
  show IntKind.u64.wrap ((BitVec.ofInt 64 (a : Int) ||| BitVec.ofInt 64 (b : Int)).toNat : Int) = _
  rw [BitVec.toNat_or, ofInt_u64 a (by omega), ofInt_u64 b (by omega)]
  exact u64_wrap_in _ (by omega)
theorem digit_valu (u i : Nat) (c : UInt8) (hi : i < 9) (hu : u < 128 ^ i) : bits BinOp.or IntKind.u64 (u : Int) (IntKind.u64.wrap (IntKind.u64.wrap (bits BinOp.and IntKind.i64 (c.toNat : Int) 127) * 2 ^ (7 * i))) = ((u + c.toNat % 128 * 128 ^ i : Nat) : Int) := by
  have hc := c.toNat_lt
  have h9 : (128 : Nat) ^ i * 128 ≤ 128 ^ 9 := by rw [← Nat.pow_succ]; exact Nat.pow_le_pow_right (by decide) (by omega)
  have e9 : (128 : Nat) ^ 9 = 9223372036854775808 := by decide
  have hp : (2 : Nat) ^ (7 * i) = 128 ^ i := by rw [Nat.pow_mul]
  have hpi : (2 : Int) ^ (7 * i) = ((128 ^ i : Nat) : Int) := by rw [← hp]; simp
  have h1 := i64_and_nat c.toNat 127 (by omega) (by decide)
  have hm : c.toNat &&& 127 = c.toNat % 128 := Nat.and_two_pow_sub_one_eq_mod c.toNat 7
  rw [hm] at h1
  have h2 : bits BinOp.and IntKind.i64 (c.toNat : Int) 127 = ((c.toNat % 128 : Nat) : Int) := h1
  have hd : c.toNat % 128 < 128 := Nat.mod_lt _ (by decide)
  rw [h2]
  generalize c.toNat % 128 = d at *
  generalize hq : (128 : Nat) ^ i = q at *
  have hdq : d * q < 9223372036854775808 := by
    have : d * q ≤ 127 * q := Nat.mul_le_mul_right q (by omega)
    omega
  rw [u64_wrap_in (d : Int) (by omega), hpi, show ((d : Int) * (q : Int)) = ((d * q : Nat) : Int) by simp, u64_wrap_in _ (by omega), u64_or_nat _ _ (by omega) hdq]
  congr 1
  rw [Nat.or_comm, nat_join (7 * i) (d * q) u (by rw [hp]; exact Nat.mul_mod_left d q) (by rw [hp]; exact hu), Nat.add_comm]

/-- What a reader's method leaves: a value and the reader moved on, or a fault that sticks. -/
def IPost {α : Type} (V : α → Value) (Z : Value → Prop) (G : Got α) (w : World) (b : Nat) (ao : Option Addr) (ca : Nat) (bs : List UInt8) (e : Ending) (w' : World) : Prop :=
  (∃ a k', G = .ok (a, bs.drop k') ∧ e = .returned (V a) ∧ IAt w' b ao ca bs k' 0 0 ∧ But w w' b) ∨ (∃ c p k' z, G = .error (c, p) ∧ c ≠ 0 ∧ e = .returned z ∧ Z z ∧ IAt w' b ao ca bs k' (c : Int) (p : Int) ∧ But w w' b)

set_option maxHeartbeats 2000000 in
set_option maxRecDepth 100000 in
theorem inum_any (b : Nat) (ao : Option Addr) (ca : Nat) (bs : List UInt8) (k : Nat) (w : World) (hR : IAt w b ao ca bs k 0 0) :
    Calls Tryd.prog 57 #[.pointer (some ⟨b, 0, none⟩)] w (IPost (fun u : Nat => .tuple #[.int .u64 (u : Int), .int .i64 (k : Int)]) (fun z => z = .tuple #[.int .u64 0, .int .i64 (k : Int)]) (rNum bs.length (bs.drop k)) w b ao ca bs) := by
  have c1 := cell_at hR.1 1
  have hkl := hR.2.2.2.2
  have HN : Hid (rNumF bs.length k 9 0 0 (bs.drop k) = rNum bs.length (bs.drop k)) := Lib.hid (by
    unfold rNum placed
    rw [List.length_drop, show bs.length - (bs.length - k) = k by omega])
  have HR := Lib.hid hR
  clear hR
  go_enter Tryd.func57, Tryd.ntmps57
  go_wp2
  go_loopw [5, 6] (fun uu ii wr => ∃ (u i k' : Nat), uu = .int .u64 (u : Int) ∧ ii = .int .i64 (i : Int) ∧ i ≤ 9 ∧ Hid (u < 128 ^ i) ∧ Hid (rNumF bs.length k (9 - i) i u (bs.drop k') = rNum bs.length (bs.drop k)) ∧ Hid (IAt wr b ao ca bs k' 0 0) ∧ Hid (But w wr b)) (fun _ ii _ => 10 - (intOf ii).toNat)
  case atStart => exact ⟨0, 0, k, rfl, rfl, by omega, Lib.hid (by decide), HN, HR, Lib.hid (But.refl _ _)⟩
  case round =>
    obtain ⟨u, i, k', rfl, rfl, hi, hu, hn, hRr, hg⟩ := hrel
    clear HR c1
    by_cases hi9 : i = 9
    · subst hi9
      go_wp2_with fail
      refine (ifail_set b ao ca bs k' 0 82 k _ hRr.out).mono ?_
      rintro e w' ⟨rfl, hI, hB⟩
      have HI := Lib.hid hI
      have HB := Lib.hid (hg.out.trans hB)
      clear hI hB
      go_wp2
      go_ret2
      exact Or.inr ⟨82, k, k', _, hn.out.symm, by decide, rfl, rfl, HI.out, HB.out⟩
    · have hi8 : i < 9 := by omega
      by_cases hk : k' < bs.length
      · obtain ⟨c, hc⟩ : ∃ c, bs[k'] = c := ⟨_, rfl⟩
        have hb := ibyte_ok b ao ca bs k' hk 0 wr hRr.out
        rw [hc] at hb
        obtain ⟨f, hf⟩ : ∃ f, 9 - i = f + 1 := ⟨8 - i, by omega⟩
        have hdv := digit_valu u i c hi8 hu.out
        have hun : Hid (rNum bs.length (bs.drop k) = (if c.toNat < 128 then (if c.toNat = 0 ∧ 0 < i then flaw 82 k else told (u + c.toNat * 128 ^ i)) else rNumF bs.length k f (i + 1) (u + (c.toNat % 128) * 128 ^ i)) (bs.drop (k' + 1))) := Lib.hid (by
          rw [← hn.out, hf]
          conv => lhs; unfold rNumF andThen
          rw [rByte_in _ _ _ hk, hc])
        obtain ⟨V, hV⟩ : ∃ V : Nat, V = u + c.toNat % 128 * 128 ^ i := ⟨_, rfl⟩
        rw [← hV] at hdv hun
        have HV := Lib.hid hV
        have HF := Lib.hid hf
        clear hc hn hV hf
        have hclt := c.toNat_lt
        by_cases h1 : (c.toNat : Int) < 128
        · have hV2 : V = u + c.toNat * 128 ^ i := by rw [HV.out, Nat.mod_eq_of_lt (by omega)]
          by_cases h2 : c.toNat = 0 ∧ 0 < i
          · have hun2 : Hid (rNum bs.length (bs.drop k) = .error (82, k)) := Lib.hid (by
              rw [hun.out, if_pos (by omega), if_pos h2]; rfl)
            obtain ⟨h3, h4⟩ := h2
            have h5 : ((c.toNat : Int) == 0) = true := by rw [h3]; rfl
            clear hun hV2 h3
            go_wp2_with fail
            refine hb.mono ?_
            rintro e w1 ⟨rfl, hI, hB⟩
            have hbd := ibad_any b ao ca bs (k' + 1) 0 0 w1 hI
            rw [show decide ((0 : Int) ≠ 0) = false by decide] at hbd
            have HI := Lib.hid hI
            have HB := Lib.hid (hg.out.trans hB)
            clear hI hB hb
            go_wp2_with fail
            refine hbd.mono ?_
            rintro e w2 ⟨rfl, rfl⟩
            clear hbd
            go_wp2_with fail
            refine (ifail_set b ao ca bs (k' + 1) 0 82 k _ HI.out).mono ?_
            rintro e w3 ⟨rfl, hI, hB⟩
            have HI3 := Lib.hid hI
            have HB3 := Lib.hid (HB.out.trans hB)
            clear hI hB
            go_wp2
            go_ret2
            exact Or.inr ⟨82, k, k' + 1, _, hun2.out, by decide, rfl, rfl, HI3.out, HB3.out⟩
          · have hun2 : Hid (rNum bs.length (bs.drop k) = .ok (V, bs.drop (k' + 1))) := Lib.hid (by
              rw [hun.out, if_pos (by omega), if_neg h2, ← hV2]; rfl)
            clear hun hV2
            by_cases h3 : c.toNat = 0
            · have h4 : ¬ (0 < i) := fun h => h2 ⟨h3, h⟩
              have h5 : ((c.toNat : Int) == 0) = true := by rw [h3]; rfl
              clear h2 h3
              go_wp2_with fail
              refine hb.mono ?_
              rintro e w1 ⟨rfl, hI, hB⟩
              have hbd := ibad_any b ao ca bs (k' + 1) 0 0 w1 hI
              rw [show decide ((0 : Int) ≠ 0) = false by decide] at hbd
              have HI := Lib.hid hI
              have HB := Lib.hid (hg.out.trans hB)
              clear hI hB hb
              go_wp2_with fail
              refine hbd.mono ?_
              rintro e w2 ⟨rfl, rfl⟩
              clear hbd
              go_wp2
              go_ret2
              exact Or.inl ⟨V, k' + 1, hun2.out, rfl, HI.out, HB.out⟩
            · have h5 : ((c.toNat : Int) == 0) = false := by rw [beq_eq_false_iff_ne]; omega
              clear h2 h3
              go_wp2_with fail
              refine hb.mono ?_
              rintro e w1 ⟨rfl, hI, hB⟩
              have hbd := ibad_any b ao ca bs (k' + 1) 0 0 w1 hI
              rw [show decide ((0 : Int) ≠ 0) = false by decide] at hbd
              have HI := Lib.hid hI
              have HB := Lib.hid (hg.out.trans hB)
              clear hI hB hb
              go_wp2_with fail
              refine hbd.mono ?_
              rintro e w2 ⟨rfl, rfl⟩
              clear hbd
              go_wp2
              go_ret2
              exact Or.inl ⟨V, k' + 1, hun2.out, rfl, HI.out, HB.out⟩
        · have hun2 : Hid (rNumF bs.length k (9 - (i + 1)) (i + 1) V (bs.drop (k' + 1)) = rNum bs.length (bs.drop k)) := Lib.hid (by
            rw [hun.out, if_neg (by omega), show 9 - (i + 1) = f by have := HF.out; omega])
          have hVlt : Hid (V < 128 ^ (i + 1)) := Lib.hid (by
            rw [HV.out, Nat.pow_succ]
            have h3 : c.toNat % 128 < 128 := Nat.mod_lt _ (by decide)
            have h4 : c.toNat % 128 * 128 ^ i ≤ 127 * 128 ^ i := Nat.mul_le_mul_right _ (by omega)
            have h5 := hu.out
            omega)
          clear hun
          go_wp2_with fail
          refine hb.mono ?_
          rintro e w1 ⟨rfl, hI, hB⟩
          have hbd := ibad_any b ao ca bs (k' + 1) 0 0 w1 hI
          rw [show decide ((0 : Int) ≠ 0) = false by decide] at hbd
          have HI := Lib.hid hI
          have HB := Lib.hid (hg.out.trans hB)
          clear hI hB hb
          go_wp2_with fail
          refine hbd.mono ?_
          rintro e w2 ⟨rfl, rfl⟩
          clear hbd
          go_wp2
          go_roundw
          case rel => exact ⟨V, i + 1, k' + 1, rfl, by go_num, by omega, hVlt, hun2, HI, HB⟩
          case measure => simp [intOf]; omega
      · obtain rfl : k' = bs.length := by have := hRr.out.2.2.2.2; omega
        go_wp2_with fail
        refine (ibyte_end b ao ca bs 0 wr hRr.out).mono ?_
        rintro e w1 ⟨rfl, hI, hB⟩
        have hbd := ibad_any b ao ca bs bs.length 81 bs.length w1 hI
        rw [show decide ((81 : Int) ≠ 0) = true by decide] at hbd
        have HI := Lib.hid hI
        have HB := Lib.hid (hg.out.trans hB)
        have HG : Hid (rNum bs.length (bs.drop k) = .error (81, bs.length)) := Lib.hid (by
          rw [← hn.out]
          obtain ⟨f, hf⟩ : ∃ f, 9 - i = f + 1 := ⟨8 - i, by omega⟩
          rw [hf]
          unfold rNumF andThen
          rw [rByte_out])
        clear hI hB
        go_wp2_with fail
        refine hbd.mono ?_
        rintro e w2 ⟨rfl, rfl⟩
        clear hbd
        go_wp2
        go_ret2
        exact Or.inr ⟨81, bs.length, bs.length, _, HG.out, by decide, rfl, rfl, HI.out, HB.out⟩
end Go.Proofs.YtfjiikadnlhekaaDoor
