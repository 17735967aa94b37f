/-
  What is proved here: the reference's Decimal: a number in its digits. Conditions: the number is an int, not the least one.
-/
import Derived.Test.YtfjiikadnlhekaaDoorKnown
import Derived.Deep.RegionLaw
namespace Go.Proofs.YtfjiikadnlhekaaDoor
open Go.RowKit

theorem dec_short (n : Nat) (h : n ≤ 9223372036854775807) : (Lib.decDigits n).length ≤ 21 := by
  have h1 := Lib.itoa_length_le (n : Int) (by omega) (by omega)
  rwa [Lib.itoa_nonneg] at h1
theorem dec_more {n : Nat} (h : ¬ n < 10) : str (Lib.decDigits (n / 10)) ++ str [UInt8.ofNat (48 + n % 10)] = str (Lib.decDigits n) := by
  rw [str_app]
  conv => rhs; rw [Lib.decDigits, dif_neg h]
theorem one_str (w : World) (c : Nat) (hc : c < 256) (t : TypeId) : (convert 32 9 (.slice (some ⟨w.heap.size, 0, none⟩) 1 1)).run Tryd.prog (w.alloc (.cells #[.int .u8 (c : Int)] t)) = .ok (.string (str [UInt8.ofNat c])) (w.alloc (.cells #[.int .u8 (c : Int)] t)) := by
  have h := (MapKept.heap_alloc w (.cells #[.int .u8 (c : Int)] t)).1
  have e : (UInt8.ofNat c).toNat = c := by simp; omega
  have hl : Lies (w.alloc (.cells #[.int .u8 (c : Int)] t)) (some ⟨w.heap.size, 0, none⟩) (bcells [UInt8.ofNat c]) := by
    intro i v hv
    match i, hv with
    | 0, hv =>
      simp only [bcells, List.map_cons, List.map_nil, List.getElem?_cons_zero, Option.some.injEq] at hv
      subst hv
      exact ⟨_, rfl, by rw [add_zero', cell_at h 0, e]; rfl⟩
  exact convert_str (bs := [UInt8.ofNat c]) (cap := 1) hl
theorem one_lies {w' : World} {b c : Nat} {t : TypeId} (hc : c < 256) (h : w'.heap[b]? = some (.cells #[.int .u8 (c : Int)] t (0, 0))) : (convert 32 9 (.slice (some ⟨b, 0, none⟩) 1 1)).run Tryd.prog w' = .ok (.string (str [UInt8.ofNat c])) w' := by
  have e : (UInt8.ofNat c).toNat = c := by simp; omega
  have hl : Lies w' (some ⟨b, 0, none⟩) (bcells [UInt8.ofNat c]) := by
    intro i v hv
    match i, hv with
    | 0, hv =>
      simp only [bcells, List.map_cons, List.map_nil, List.getElem?_cons_zero, Option.some.injEq] at hv
      subst hv
      exact ⟨_, rfl, by rw [add_zero', cell_at h 0, e]; rfl⟩
  exact convert_str (bs := [UInt8.ofNat c]) (cap := 1) hl

set_option maxHeartbeats 4000000 in
set_option maxRecDepth 100000 in
theorem decimal_nat (n : Nat) : n ≤ 9223372036854775807 → ∀ w : World, Calls Tryd.prog 45 #[.int .i64 (n : Int)] w fun e w' => e = .returned (.string (str (Lib.decDigits n))) ∧ Below w.heap.size w w' := by
  induction n using Nat.strongRecOn with
  | _ n ih =>
    intro hn w
    have hneg : decide ((n : Int) < 0) = false := decide_eq_false (by omega)
    have hneg2 : ¬ ((n : Int) < 0) := by omega
    by_cases h : n < 10
    · have h2 : decide ((n : Int) < 10) = true := decide_eq_true (by omega)
      obtain ⟨c, hc⟩ : ∃ c : Nat, c = 48 + n := ⟨_, rfl⟩
      have hq := one_str w c (by omega) 5
      have HE : Hid (str [UInt8.ofNat c] = str (Lib.decDigits n)) := Lib.hid (by rw [Lib.decDigits_one h, hc])
      have e1 : 48 + (n : Int) = (c : Int) := by omega
      have e2 : IntKind.i64.wrap (c : Int) = (c : Int) := IntWalk.i64_in _ (by omega)
      have e3 : IntKind.u8.wrap (c : Int) = (c : Int) := by show (c : Int) % 256 = _; omega
      have hb := Lib.hid ((Below.refl _ w).alloc (Nat.le_refl _) (.cells #[.int .u8 (c : Int)] 5))
      have hc9 : c < 58 := by omega
      clear ih hc
      go_enter Tryd.func45, Tryd.ntmps45
      go_wp2
      go_ret
      exact ⟨ret_str HE.out.symm, hb.out⟩
    · have h2 : decide ((n : Int) < 10) = false := decide_eq_false (by omega)
      have hih := ih (n / 10) (by omega) (by omega)
      have hm := dec_more h
      have hs := dec_short (n / 10) (by omega)
      have htd : (n : Int).tdiv 10 = ((n / 10 : Nat) : Int) := by rw [Int.tdiv_eq_ediv_of_nonneg (by omega)]; omega
      have htm : (n : Int).tmod 10 = ((n % 10 : Nat) : Int) := by rw [Int.tmod_eq_emod_of_nonneg (by omega)]; omega
      have hr : n % 10 < 10 := Nat.mod_lt _ (by decide)
      have hmn : n / 10 ≤ n := Nat.div_le_self _ _
      obtain ⟨c, hc⟩ : ∃ c : Nat, c = 48 + n % 10 := ⟨_, rfl⟩
      rw [← hc] at hm
      generalize n / 10 = m at *
      generalize n % 10 = r at *
      have HM := Lib.hid hm
      have e1 : 48 + (r : Int) = (c : Int) := by omega
      have hc9 : c < 58 := by omega
      have w1 : IntKind.i64.wrap (m : Int) = (m : Int) := IntWalk.i64_in _ (by omega)
      have w2 : IntKind.i64.wrap (c : Int) = (c : Int) := IntWalk.i64_in _ (by omega)
      have w3 : IntKind.u8.wrap (c : Int) = (c : Int) := by show (c : Int) % 256 = _; omega
      have hsz : (str (Lib.decDigits m)).size ≤ 21 := hs
      have hs1 : (str [UInt8.ofNat c]).size = 1 := rfl
      have hadd : ∀ w : World, (Op.stringOp .add (str (Lib.decDigits m)) (str [UInt8.ofNat c])).run Tryd.prog w = .ok (.string (str (Lib.decDigits m) ++ str [UInt8.ofNat c])) w := fun w => run_string_add_sum w _ _ (by rw [hs1]; omega)
      have HIH := Lib.hid hih
      have HADD := Lib.hid hadd
      have HSZ : Hid (¬ (9223372036854775807 < (str (Lib.decDigits m)).size + (str [UInt8.ofNat c]).size)) := Lib.hid (by rw [hs1]; omega)
      clear ih hc hm hih hadd hs hs1 hsz
      generalize str (Lib.decDigits m) = sm at *
      go_enter Tryd.func45, Tryd.ntmps45
      go_wp2_with fail
      refine wp_region_any (by kernel_rfl) ?_
      try (change wpAny _ _ _ _ _ _ _ (World.drew _))
      refine wpAny_take (i := 0) (v := Value.int .i64 (n : Int)) rfl (by kernel_rfl) (by kernel_rfl) (by kernel_rfl) (fun _ _ _ h => h) (Or.inl ⟨by rfl, (by intro w; go_simp)⟩) ?_
      refine wpAny_take (i := 1) (v := Value.int .i64 (m : Int)) rfl (by kernel_rfl) (by kernel_rfl) (by kernel_rfl) (fun _ _ _ h => h) (Or.inl ⟨by rfl, (by intro w; go_simp)⟩) ?_
      refine wpAny_take (i := 3) (v := Value.int .i64 (n : Int)) rfl (by kernel_rfl) (by kernel_rfl) (by kernel_rfl) (fun _ _ _ h => h) (Or.inl ⟨by rfl, (by intro w; go_simp)⟩) ?_
      refine wpAny_take (i := 4) (v := Value.int .i64 (r : Int)) rfl (by kernel_rfl) (by kernel_rfl) (by kernel_rfl) (fun _ _ _ h => h) (Or.inl ⟨by rfl, (by intro w; go_simp)⟩) ?_
      refine wpAny_take (i := 5) (v := Value.int .i64 (c : Int)) rfl (by kernel_rfl) (by kernel_rfl) (by kernel_rfl) (fun _ _ _ h => h) (Or.inl ⟨by rfl, (by intro w; go_simp)⟩) ?_
      refine wpAny_take (i := 6) (v := Value.int .u8 (c : Int)) rfl (by kernel_rfl) (by kernel_rfl) (by kernel_rfl) (fun _ _ _ h => h) (Or.inl ⟨by rfl, (by intro w; go_simp)⟩) ?_
      clear htd htm w1 w2 w3 e1
      refine wpAny_ready (rs := [2, 7]) (by kernel_rfl) (by simp) (AllReady.cons rfl (fun K hK => ?ra) (AllReady.cons rfl (fun K hK => ?rb) AllReady.nil))
      case ra =>
        go_simp
        refine (HIH.out _).mono ?_
        rintro e w5 ⟨rfl, hb5⟩
        dsimp only
        refine hK _ _ ?_
        clear hK K
        refine wpAny_ready (rs := [7]) (by kernel_rfl) (by simp) (AllReady.cons rfl (fun K hK => ?_) AllReady.nil)
        go_simp
        refine hK _ _ ?_
        clear hK K
        have hq := one_str w5 c (by omega) 5
        refine wpAny_ready (rs := [8]) (by kernel_rfl) (by simp) (AllReady.cons rfl (fun K hK => ?_) AllReady.nil)
        go_simp
        refine hK _ _ ?_
        clear hK K
        clear hq
        have hadd := HADD.out
        have hnl := HSZ.out
        refine wpAny_ready (rs := [9]) (by kernel_rfl) (by simp) (AllReady.cons rfl (fun K hK => ?_) AllReady.nil)
        go_simp
        refine hK _ _ ?_
        clear hK K
        refine wpAny_ready (rs := [10]) (by kernel_rfl) (by simp) (AllReady.cons rfl (fun K hK => ?_) AllReady.nil)
        go_simp
        refine hK _ _ ?_
        clear hK K
        refine wpAny_done (by kernel_rfl) ?_ _
        have HB := Lib.hid (show Below w.heap.size w (w5.alloc (.cells #[.int .u8 (c : Int)] 5)) from ((Below.refl w.heap.size w).drew.trans hb5).alloc hb5.size _)
        clear hadd hnl
        try clear hb5
        go_wp2
        go_ret
        exact ⟨ret_str HM.out.symm, HB.out⟩
      case rb =>
        go_simp
        refine hK _ _ ?_
        clear hK K
        have hcell : (w.alloc (.cells #[.int .u8 (c : Int)] 5)).drew.heap[w.heap.size]? = some (.cells #[.int .u8 (c : Int)] 5 (0, 0)) := (MapKept.heap_alloc w _).1
        have HCELL := Lib.hid hcell
        have hz2 : w.heap.size < (w.alloc (.cells #[.int .u8 (c : Int)] 5)).drew.heap.size := (Array.getElem?_eq_some_iff.1 hcell).1
        have HBA : Hid (Below w.heap.size w (w.alloc (.cells #[.int .u8 (c : Int)] 5)).drew) := Lib.hid ((Below.refl _ w).alloc (Nat.le_refl _) (.cells #[.int .u8 (c : Int)] 5)).drew
        clear hcell
        refine wpAny_ready (rs := [2, 8]) (by kernel_rfl) (by simp) (AllReady.cons rfl (fun K hK => ?rc) (AllReady.cons rfl (fun K hK => ?rd) AllReady.nil))
        case rc =>
          go_simp
          refine (HIH.out _).mono ?_
          rintro e w5 ⟨rfl, hb5⟩
          dsimp only
          refine hK _ _ ?_
          clear hK K
          have hq := one_lies (t := 5) (c := c) (by omega) ((hb5.block w.heap.size hz2).trans HCELL.out)
          refine wpAny_ready (rs := [8]) (by kernel_rfl) (by simp) (AllReady.cons rfl (fun K hK => ?_) AllReady.nil)
          go_simp
          refine hK _ _ ?_
          clear hK K
          clear hq
          have hadd := HADD.out
          have hnl := HSZ.out
          refine wpAny_ready (rs := [9]) (by kernel_rfl) (by simp) (AllReady.cons rfl (fun K hK => ?_) AllReady.nil)
          go_simp
          refine hK _ _ ?_
          clear hK K
          refine wpAny_ready (rs := [10]) (by kernel_rfl) (by simp) (AllReady.cons rfl (fun K hK => ?_) AllReady.nil)
          go_simp
          refine hK _ _ ?_
          clear hK K
          refine wpAny_done (by kernel_rfl) ?_ _
          have HB := Lib.hid (HBA.out.trans (hb5.mono (Nat.le_of_lt hz2)))
          clear hadd hnl
          try clear hb5
          go_wp2
          go_ret
          exact ⟨ret_str HM.out.symm, HB.out⟩
        case rd =>
          have hq := one_lies (t := 5) (c := c) (by omega) HCELL.out
          go_simp
          refine hK _ _ ?_
          clear hK K hq
          refine wpAny_ready (rs := [2]) (by kernel_rfl) (by simp) (AllReady.cons rfl (fun K hK => ?_) AllReady.nil)
          go_simp
          refine (HIH.out _).mono ?_
          rintro e w5 ⟨rfl, hb5⟩
          dsimp only
          refine hK _ _ ?_
          clear hK K
          have hadd := HADD.out
          have hnl := HSZ.out
          refine wpAny_ready (rs := [9]) (by kernel_rfl) (by simp) (AllReady.cons rfl (fun K hK => ?_) AllReady.nil)
          go_simp
          refine hK _ _ ?_
          clear hK K
          refine wpAny_ready (rs := [10]) (by kernel_rfl) (by simp) (AllReady.cons rfl (fun K hK => ?_) AllReady.nil)
          go_simp
          refine hK _ _ ?_
          clear hK K
          refine wpAny_done (by kernel_rfl) ?_ _
          have HB := Lib.hid (HBA.out.trans (hb5.mono (Nat.le_of_lt hz2)))
          clear hadd hnl
          try clear hb5
          go_wp2
          go_ret
          exact ⟨ret_str HM.out.symm, HB.out⟩
end Go.Proofs.YtfjiikadnlhekaaDoor
