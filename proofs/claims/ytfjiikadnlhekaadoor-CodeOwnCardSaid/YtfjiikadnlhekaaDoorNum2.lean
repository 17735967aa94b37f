/-
  What is proved here: a reader's number, int and many. Conditions: the reader lies in memory.
-/
import Derived.Test.YtfjiikadnlhekaaDoorPlain
import Derived.Maps.RangeWalk
namespace Go.Proofs.YtfjiikadnlhekaaDoor
open Go.RowKit

/-- What a reader's method leaves: a value and the reader moved on, or a panic with the fault. -/
def RPost {α : Type} (V : α → Value) (G : Got α) (w : World) (b : Nat) (ao : Option Addr) (ca : Nat) (bs : List UInt8) (e : Ending) (w' : World) : Prop :=
  (∃ a k', G = .ok (a, bs.drop k') ∧ e = .returned (V a) ∧ RAt w' b ao ca bs k' ∧ w.grownBy w' (some b)) ∨ (∃ c p, G = .error (c, p) ∧ e = .panicked [{ v := faultV c p, recovered := false }] ∧ w.grownBy w' (some b))

theorem rByte_in (N : Nat) (bs : List UInt8) (k : Nat) (h : k < bs.length) : rByte N (bs.drop k) = .ok (bs[k], bs.drop (k + 1)) := by
  rw [List.drop_eq_getElem_cons h]; rfl
theorem rByte_out (N : Nat) (bs : List UInt8) : rByte N (bs.drop bs.length) = .error (81, N) := by rw [List.drop_length]; rfl

theorem i64_or_nat (a b : Nat) (ha : a < 9223372036854775808) (hb : b < 9223372036854775808) : bits .or .i64 (a : Int) (b : Int) = ((a ||| b : Nat) : Int) := by
  have hx : a ||| b < 2 ^ 63 := Nat.or_lt_two_pow (by omega) (by omega)
  show IntKind.i64.wrap ((BitVec.ofInt 64 (a : Int) ||| BitVec.ofInt 64 (b : Int)).toNat : Int) = _
  rw [BitVec.toNat_or, ofInt_u64 a (by omega), ofInt_u64 b (by omega)]
  exact IntWalk.i64_in _ (by omega)
theorem digit_val (u i : Nat) (c : UInt8) (hi : i < 9) (hu : u < 128 ^ i) : bits BinOp.or IntKind.i64 (u : Int) (wrap64 (wrap64 (bits BinOp.and IntKind.u8 (c.toNat : Int) 127) * 2 ^ (7 * i))) = ((u + c.toNat % 128 * 128 ^ i : Nat) : Int) := by
  have hc := c.toNat_lt
  have h9 : (128 : Nat) ^ i * 128 ≤ 128 ^ 9 := by rw [← Nat.pow_succ]; exact Nat.pow_le_pow_right (by decide) (by omega)
  have e9 : (128 : Nat) ^ 9 = 9223372036854775808 := by decide
  have hp : (2 : Nat) ^ (7 * i) = 128 ^ i := by rw [Nat.pow_mul]
  have hpi : (2 : Int) ^ (7 * i) = ((128 ^ i : Nat) : Int) := by rw [← hp]; simp
  have h1 := u8_and_nat c.toNat 127 (by omega) (by decide)
  have hm : c.toNat &&& 127 = c.toNat % 128 := Nat.and_two_pow_sub_one_eq_mod c.toNat 7
  rw [hm] at h1
  have h2 : bits BinOp.and IntKind.u8 (c.toNat : Int) 127 = ((c.toNat % 128 : Nat) : Int) := h1
  have hd : c.toNat % 128 < 128 := Nat.mod_lt _ (by decide)
  rw [h2]
  generalize c.toNat % 128 = d at *
  generalize hq : (128 : Nat) ^ i = q at *
  have hdq : d * q < 9223372036854775808 := by
    have : d * q ≤ 127 * q := Nat.mul_le_mul_right q (by omega)
    omega
  rw [IntWalk.wrap64_in (d : Int) (by omega), hpi, show ((d : Int) * (q : Int)) = ((d * q : Nat) : Int) by simp, IntWalk.wrap64_in _ (by omega), i64_or_nat _ _ (by omega) hdq]
  congr 1
  rw [Nat.or_comm, nat_join (7 * i) (d * q) u (by rw [hp]; exact Nat.mul_mod_left d q) (by rw [hp]; exact hu), Nat.add_comm]

set_option maxHeartbeats 2000000 in
set_option maxRecDepth 100000 in
theorem rnumber_any (b : Nat) (ao : Option Addr) (ca : Nat) (bs : List UInt8) (k : Nat) (w : World) (hR : RAt w b ao ca bs k) :
    Calls Tryd.prog 68 #[.pointer (some ⟨b, 0, none⟩)] w (RPost (fun u : Nat => .int .i64 (u : Int)) (rNum bs.length (bs.drop k)) w b ao ca bs) := by
  have c1 := cell_at hR.1 1
  have hkl := hR.2.2.2.2
  have HN : Hid (rNumF bs.length k 9 0 0 (bs.drop k) = rNum bs.length (bs.drop k)) := Lib.hid (by
    unfold rNum placed
    rw [List.length_drop, show bs.length - (bs.length - k) = k by omega])
  have HR := Lib.hid hR
  clear hR
  go_enter Tryd.func68, Tryd.ntmps68
  go_wp2
  go_loopw [4, 5] (fun uu ii wr => ∃ (u i k' : Nat), uu = .int .i64 (u : Int) ∧ ii = .int .i64 (i : Int) ∧ i ≤ 9 ∧ Hid (u < 128 ^ i) ∧ Hid (rNumF bs.length k (9 - i) i u (bs.drop k') = rNum bs.length (bs.drop k)) ∧ Hid (RAt wr b ao ca bs k') ∧ Hid (w.grownBy wr (some b))) (fun _ ii _ => 10 - (intOf ii).toNat)
  case atStart => exact ⟨0, 0, k, rfl, rfl, by omega, Lib.hid (by decide), HN, HR, Lib.hid (World.grownBy.refl _ _)⟩
  case round =>
    obtain ⟨u, i, k', rfl, rfl, hi, hu, hn, hRr, hg⟩ := hrel
    clear HR c1
    by_cases hi9 : i = 9
    · subst hi9
      go_wp2_with fail
      refine (fail_any b 82 k _).mono ?_
      rintro e w' ⟨rfl, rfl⟩
      exact ⟨rfl, Or.inr ⟨82, k, hn.out.symm, rfl, hg.out⟩⟩
    · have hi8 : i < 9 := by omega
      by_cases hk : k' < bs.length
      · obtain ⟨c, hc⟩ : ∃ c, bs[k'] = c := ⟨_, rfl⟩
        have hb := byte_in b ao ca bs k' hk wr hRr.out
        rw [hc] at hb
        obtain ⟨f, hf⟩ : ∃ f, 9 - i = f + 1 := ⟨8 - i, by omega⟩
        have hdv := digit_val u i c hi8 hu.out
        have hun : Hid (rNum bs.length (bs.drop k) = (if c.toNat < 128 then (if c.toNat = 0 ∧ 0 < i then flaw 82 k else told (u + c.toNat * 128 ^ i)) else rNumF bs.length k f (i + 1) (u + (c.toNat % 128) * 128 ^ i)) (bs.drop (k' + 1))) := Lib.hid (by
          rw [← hn.out, hf]
          conv => lhs; unfold rNumF andThen
          rw [rByte_in _ _ _ hk, hc])
        obtain ⟨V, hV⟩ : ∃ V : Nat, V = u + c.toNat % 128 * 128 ^ i := ⟨_, rfl⟩
        rw [← hV] at hdv hun
        have HV := Lib.hid hV
        have HF := Lib.hid hf
        clear hc hn hV hf
        have hclt := c.toNat_lt
        by_cases h1 : (c.toNat : Int) < 128
        · have hV2 : V = u + c.toNat * 128 ^ i := by rw [HV.out, Nat.mod_eq_of_lt (by omega)]
          by_cases h2 : c.toNat = 0 ∧ 0 < i
          · have hun2 : Hid (rNum bs.length (bs.drop k) = .error (82, k)) := Lib.hid (by
              rw [hun.out, if_pos (by omega), if_pos h2]; rfl)
            obtain ⟨h3, h4⟩ := h2
            have h5 : ((c.toNat : Int) == 0) = true := by rw [h3]; rfl
            clear hun hV2 h3
            go_wp2_with fail
            refine hb.mono ?_
            rintro e w' ⟨rfl, hR1, hg1⟩
            go_wp2_with fail
            refine (fail_any b 82 k _).mono ?_
            rintro e w' ⟨rfl, rfl⟩
            exact ⟨rfl, Or.inr ⟨82, k, hun2.out, rfl, hg.out.trans hg1⟩⟩
          · have hun2 : Hid (rNum bs.length (bs.drop k) = .ok (V, bs.drop (k' + 1))) := Lib.hid (by
              rw [hun.out, if_pos (by omega), if_neg h2, ← hV2]; rfl)
            clear hun hV2
            by_cases h3 : c.toNat = 0
            · have h4 : ¬ (0 < i) := fun h => h2 ⟨h3, h⟩
              have h5 : ((c.toNat : Int) == 0) = true := by rw [h3]; rfl
              clear h2 h3
              go_wp2_with fail
              refine hb.mono ?_
              rintro e w' ⟨rfl, hR1, hg1⟩
              go_wp2
              go_ret
              exact Or.inl ⟨V, k' + 1, hun2.out, rfl, hR1, hg.out.trans hg1⟩
            · have h5 : ((c.toNat : Int) == 0) = false := by rw [beq_eq_false_iff_ne]; omega
              clear h2 h3
              go_wp2_with fail
              refine hb.mono ?_
              rintro e w' ⟨rfl, hR1, hg1⟩
              go_wp2
              go_ret
              exact Or.inl ⟨V, k' + 1, hun2.out, rfl, hR1, hg.out.trans hg1⟩
        · have hun2 : Hid (rNumF bs.length k (9 - (i + 1)) (i + 1) V (bs.drop (k' + 1)) = rNum bs.length (bs.drop k)) := Lib.hid (by
            rw [hun.out, if_neg (by omega), show 9 - (i + 1) = f by have := HF.out; omega])
          have hVlt : Hid (V < 128 ^ (i + 1)) := Lib.hid (by
            rw [HV.out, Nat.pow_succ]
            have h3 : c.toNat % 128 < 128 := Nat.mod_lt _ (by decide)
            have h4 : c.toNat % 128 * 128 ^ i ≤ 127 * 128 ^ i := Nat.mul_le_mul_right _ (by omega)
            have h5 := hu.out
            omega)
          clear hun
          go_wp2_with fail
          refine hb.mono ?_
          rintro e w' ⟨rfl, hR1, hg1⟩
          go_wp2
          go_roundw
          case rel => exact ⟨V, i + 1, k' + 1, rfl, by go_num, by omega, hVlt, hun2, Lib.hid hR1, Lib.hid (hg.out.trans hg1)⟩
          case measure => simp [intOf]; omega
      · obtain rfl : k' = bs.length := by have := hRr.out.2.2.2.2; omega
        go_wp2_with fail
        refine (byte_out b ao ca bs wr hRr.out).mono ?_
        rintro e w' ⟨rfl, hg1⟩
        refine ⟨rfl, Or.inr ⟨81, bs.length, ?_, rfl, hg.out.trans (hg1.but _)⟩⟩
        rw [← hn.out]
        obtain ⟨f, hf⟩ : ∃ f, 9 - i = f + 1 := ⟨8 - i, by omega⟩
        rw [hf]
        unfold rNumF andThen
        rw [rByte_out]

theorem andThen_ok {α β : Type} {m : Rd α} {f : α → Rd β} {r r' : List UInt8} {a : α} (h : m r = .ok (a, r')) : andThen m f r = f a r' := by unfold andThen; rw [h]
theorem andThen_err {α β : Type} {m : Rd α} {f : α → Rd β} {r : List UInt8} {e : Nat × Nat} (h : m r = .error e) : andThen m f r = .error e := by unfold andThen; rw [h]

set_option maxHeartbeats 1000000 in
set_option maxRecDepth 100000 in
theorem rint_any (b : Nat) (ao : Option Addr) (ca : Nat) (bs : List UInt8) (k : Nat) (w : World) (hR : RAt w b ao ca bs k) :
    Calls Tryd.prog 67 #[.pointer (some ⟨b, 0, none⟩)] w (RPost (fun n : Int => .int .i64 n) (rInt bs.length (bs.drop k)) w b ao ca bs) := by
  have hnu := rnumber_any b ao ca bs k w hR
  clear hR
  go_enter Tryd.func67, Tryd.ntmps67
  go_wp2_with fail
  refine hnu.mono ?_
  rintro e w1 (⟨u, k', hG, rfl, hR1, hg1⟩ | ⟨c, p, hG, rfl, hg1⟩)
  · have hu := (num_wrote _ _ _ _ hG).1
    have hI : Hid (rInt bs.length (bs.drop k) = .ok (unsgn u, bs.drop k')) := Lib.hid (andThen_ok hG)
    have HG := Lib.hid hG
    clear hG
    by_cases h : u % 2 = 1
    · have hs : Hid (unsgn u = -((u / 2 : Nat) : Int) - 1) := Lib.hid (if_pos h)
      have h1 : ((u : Int) % 2 == 1) = true := by rw [beq_iff_eq]; omega
      clear h
      go_wp2
      go_ret
      exact Or.inl ⟨unsgn u, k', hI.out, by rw [hs.out]; simp, hR1, hg1⟩
    · have hs : Hid (unsgn u = ((u / 2 : Nat) : Int)) := Lib.hid (if_neg h)
      have h1 : ((u : Int) % 2 == 1) = false := by rw [beq_eq_false_iff_ne]; omega
      clear h
      go_wp2
      go_ret
      exact Or.inl ⟨unsgn u, k', hI.out, by rw [hs.out]; simp, hR1, hg1⟩
  · exact ⟨rfl, Or.inr ⟨c, p, andThen_err hG, rfl, hg1⟩⟩

set_option maxHeartbeats 1000000 in
set_option maxRecDepth 100000 in
theorem rmany_any (b : Nat) (ao : Option Addr) (ca : Nat) (bs : List UInt8) (k most : Nat) (w : World) (hR : RAt w b ao ca bs k) :
    Calls Tryd.prog 76 #[.pointer (some ⟨b, 0, none⟩), .int .i64 (most : Int)] w (RPost (fun u : Nat => .int .i64 (u : Int)) (rMany bs.length most (bs.drop k)) w b ao ca bs) := by
  have hnu := rnumber_any b ao ca bs k w hR
  have c1 := cell_at hR.1 1
  have hpl : Hid (∀ f : Nat → Rd Nat, placed bs.length f (bs.drop k) = f k (bs.drop k)) := Lib.hid (fun f => by
    have := hR.2.2.2.2
    unfold placed
    rw [List.length_drop, show bs.length - (bs.length - k) = k by omega])
  clear hR
  go_enter Tryd.func76, Tryd.ntmps76
  go_wp2_with fail
  refine hnu.mono ?_
  rintro e w1 (⟨u, k', hG, rfl, hR1, hg1⟩ | ⟨c, p, hG, rfl, hg1⟩)
  · have hu := (num_wrote _ _ _ _ hG).1
    have HG := Lib.hid hG
    clear hG
    by_cases h : most < u
    · have hI : Hid (rMany bs.length most (bs.drop k) = .error (85, k)) := Lib.hid (by
        unfold rMany
        rw [hpl.out, andThen_ok HG.out, if_pos h]; rfl)
      go_wp2_with fail
      refine (fail_any b 85 k _).mono ?_
      rintro e w' ⟨rfl, rfl⟩
      exact ⟨rfl, Or.inr ⟨85, k, hI.out, rfl, hg1⟩⟩
    · have hI : Hid (rMany bs.length most (bs.drop k) = .ok (u, bs.drop k')) := Lib.hid (by
        unfold rMany
        rw [hpl.out, andThen_ok HG.out, if_neg h]; rfl)
      go_wp2
      go_ret
      exact Or.inl ⟨u, k', hI.out, rfl, hR1, hg1⟩
  · refine ⟨rfl, Or.inr ⟨c, p, ?_, rfl, hg1⟩⟩
    unfold rMany
    rw [hpl.out]
    exact andThen_err hG
end Go.Proofs.YtfjiikadnlhekaaDoor
