/-
  What is proved here: winnowlaw15.CodeBack answers true. Conditions: the program and the bytes lie in memory; the library's table of powers of ten is laid.
-/
import Derived.Test.YtfjiikadnlhekaaDoorApp
import Derived.Test.YtfjiikadnlhekaaDoorLawOther
import Derived.Test.YtfjiikadnlhekaaDoorLawUnlike
import Derived.BigQuiet
import Derived.Deep.DeepCutAuto
namespace Go.Proofs.YtfjiikadnlhekaaDoor
open Go.RowKit

theorem fault_set {W : World} {f : Nat} {c0 k0 : Int} (hf : W.heap[f]? = some (.cells #[.int .i64 c0, .int .i64 k0] 46 (0, 0))) (c k : Int) :
    ((W.setCell ⟨f, 0, none⟩ (.int .i64 c)).setCell ⟨f, 1, none⟩ (.int .i64 k)).heap[f]? = some (.cells #[.int .i64 c, .int .i64 k] 46 (0, 0)) :=
  set_block (set_block hf 0 (.int .i64 c)) 1 (.int .i64 k)

set_option maxHeartbeats 8000000 in
set_option maxRecDepth 100000 in
theorem back_any (s : Spots) (P : Prg) (cut : Int) (ao : Option Addr) (ca : Nat) (tl : List UInt8) (w : World) (hP : PAt w s P) (_hsP : Small P) (hcut : -9223372036854775808 ≤ cut ∧ cut ≤ 9223372036854775807) (hL : Lies w ao (bcells tl)) (hao : ∀ a, ao = some a → a.block < w.heap.size) (hT : Tab w) :
    Calls Tryd.prog 5 #[pval s P, .int .i64 cut, .slice ao tl.length ca] w fun e w' => e = .returned (.bool true) ∧ Below w.heap.size w w' := by
  obtain ⟨fA, hbA⟩ := one_block w s P 27
  unfold pcells at fA hbA
  generalize hA : w.alloc (.cells #[.slice s.a0 P.ghost.length s.c0, .slice s.a1 P.vars.length s.c1, .slice s.a2 P.tags.length s.c2, .slice s.a3 P.on.length s.c3, .int .i64 P.miss, .slice s.a4 P.code.length s.c4] 27) = wA at *
  have hzA := hbA.size
  have HP := Lib.hid (hP.below hbA)
  have HL := Lib.hid (hL.below hbA)
  have HT := Lib.hid (hT.below hbA)
  have FA := Lib.hid fA
  have HBA := Lib.hid hbA
  have HA := Lib.hid hao
  clear hP hL hT fA hbA hao
  go_enter Tryd.func5, Tryd.ntmps5
  unfold pval
  go_wp2_with fail
  try rw [hA]
  refine (known_any wA HT.out).mono ?_
  rintro e w1 ⟨rfl, hb⟩
  have h01 : Hid (Below w.heap.size w w1) := Lib.hid (HBA.out.trans (hb.mono hzA))
  have HP1 := Lib.hid (HP.out.below hb)
  have HL1 := Lib.hid (HL.out.below hb)
  have FA1 := Lib.hid (FA.out.below hb)
  have hz1 := hb.size
  have a0 := FA1.out.f0
  have a1 := FA1.out.f1
  have a2 := FA1.out.f2
  have a3 := FA1.out.f3
  have a4 := FA1.out.f4
  have a5 := FA1.out.f5
  clear hb HP HL FA HT HBA hA
  have hen := fun h => encode_ok s P w1 HP1.out h
  have hno := fun h => encode_no s P w1 HP1.out h
  unfold pval EncPost at hen
  unfold pval at hno
  by_cases hc : P.code.length ≤ 524288
  case neg =>
    have hg : decide (((P.code.length : Nat) : Int) > 524288) = true := by simp; omega
    go_wp2
    go_ret
    exact ⟨rfl, h01.out⟩
  have hg : decide (((P.code.length : Nat) : Int) > 524288) = false := by simp; omega
  by_cases hd : tl.length ≤ 524288
  case neg =>
    have hg2 : decide (((tl.length : Nat) : Int) > 524288) = true := by simp; omega
    go_wp2
    go_ret
    exact ⟨rfl, h01.out⟩
  have hg2 : decide (((tl.length : Nat) : Int) > 524288) = false := by simp; omega
  have goA : ∀ (w2 : World) (hb2 : Below w1.heap.size w1 w2), w2.cell? ⟨w.heap.size, 0, none⟩ = some (.slice s.a0 P.ghost.length s.c0) ∧ w2.cell? ⟨w.heap.size, 1, none⟩ = some (.slice s.a1 P.vars.length s.c1) ∧ w2.cell? ⟨w.heap.size, 2, none⟩ = some (.slice s.a2 P.tags.length s.c2) ∧ w2.cell? ⟨w.heap.size, 3, none⟩ = some (.slice s.a3 P.on.length s.c3) ∧ w2.cell? ⟨w.heap.size, 4, none⟩ = some (.int .i64 P.miss) ∧ w2.cell? ⟨w.heap.size, 5, none⟩ = some (.slice s.a4 P.code.length s.c4) := fun w2 hb2 => by
    have f := FA1.out.below hb2
    exact ⟨f.f0, f.f1, f.f2, f.f3, f.f4, f.f5⟩
  have HGA := Lib.hid goA
  clear goA
  go_wp2_with fail
  by_cases hp : checkErr P = 0
  case neg =>
    refine (hno hp).mono ?_
    rintro e w2 ⟨rfl, hb2⟩
    have HB2 := Lib.hid hb2
    have hz2 := hb2.size
    obtain ⟨b0, b1, b2, b3, b4, b5⟩ := HGA.out w2 hb2
    have hck := check_any s P w2 (HP1.out.below hb2)
    unfold pval at hck
    have hne : decide (checkErr P ≠ 0) = true := by simpa using hp
    have hne2 : (checkErr P != 0) = true := by simpa using hp
    clear hb2 hen hno a0 a1 a2 a3 a4 a5 HGA
    generalize checkErr P = ep at *
    go_wp2_with fail
    refine hck.mono ?_
    rintro e w3 ⟨rfl, hb3⟩
    have h03 : Hid (Below w.heap.size w w3) := Lib.hid (h01.out.trans ((HB2.out.trans (hb3.mono hz2)).mono (by have := h01.out.size; omega)))
    clear hck hb3
    go_wp2
    go_ret
    exact ⟨by simp, h03.out⟩
  refine (hen hp).mono ?_
  rintro e w2 ⟨g1, c1, rfl, hown, hb2⟩
  have HB2 := Lib.hid hb2
  have hz2 := hb2.size
  have h02 : Hid (Below w.heap.size w w2) := Lib.hid (h01.out.trans (hb2.mono (by have := h01.out.size; omega)))
  have HE2 := Lib.hid (own_cells hown)
  have hcap : (encB P).length ≤ c1 ∧ g1 < w2.heap.size := by
    obtain ⟨_, ⟨h, _⟩ | ⟨g, cap, cur, h1, _, h3, h4, _⟩⟩ := hown
    · cases h
    · cases h1; exact ⟨h4, (Array.getElem?_eq_some_iff.1 h3).1⟩
  obtain ⟨hxs, hx1⟩ := enc_short P hp
  have HDE := Lib.hid (decode_encode P hp)
  have HDC := Lib.hid (decode_cut P hp)
  have HDT := Lib.hid (decode_tail P hp)
  generalize encB P = x at *
  clear hown hb2 hen hno a0 a1 a2 a3 a4 a5
  go_wp2_with fail
  refine (decode_any (some ⟨g1, 0, none⟩) c1 x w2 HE2.out (by omega) (fun a ha => by cases ha; exact hcap.2)).mono ?_
  rintro e w3 (⟨P', q, hdec, rfl, hO, hb3⟩ | ⟨c, k, hdec, _, _⟩)
  case inr => rw [HDE.out] at hdec; cases hdec
  rw [HDE.out] at hdec
  obtain rfl := Except.ok.inj hdec
  have HB3 := Lib.hid hb3
  have hz3 := hb3.size
  have HO := Lib.hid hO
  obtain ⟨j1, j2, j3, j4⟩ := two_new2 w3 #[.slice q.a0 P.ghost.length q.c0, .slice q.a1 P.vars.length q.c1, .slice q.a2 P.tags.length q.c2, .slice q.a3 P.on.length q.c3, .int .i64 P.miss, .slice q.a4 P.code.length q.c4] #[.int .i64 0, .int .i64 0] 27 46
  have HQB := Lib.hid j1
  have HFB := Lib.hid j2
  have J3 := Lib.hid j3
  have J4 := Lib.hid j4
  obtain ⟨b0, b1, b2, b3, b4, b5⟩ := HGA.out _ ((HB2.out.trans (hb3.mono hz2)).trans (j3.mono (by omega)))
  clear hdec hO hb3 j1 j2 j3 j4
  unfold pval
  go_wp2_with fail
  generalize (w3.alloc (.cells #[.slice q.a0 P.ghost.length q.c0, .slice q.a1 P.vars.length q.c1, .slice q.a2 P.tags.length q.c2, .slice q.a3 P.on.length q.c3, .int .i64 P.miss, .slice q.a4 P.code.length q.c4] 27)).alloc (.cells #[.int .i64 0, .int .i64 0] 46) = w4 at *
  have hz4 := J4.out
  have h24 : Hid (Below w2.heap.size w2 w4) := Lib.hid (HB3.out.trans (J3.out.mono hz3))
  have h14 : Hid (Below w1.heap.size w1 w4) := Lib.hid (HB2.out.trans (h24.out.mono hz2))
  have h04 : Hid (Below w.heap.size w w4) := Lib.hid (h01.out.trans (h14.out.mono (by have := h01.out.size; omega)))
  have HO4 := Lib.hid (HO.out.below J3.out)
  have hck := check_any s P w4 (HP1.out.below h14.out)
  rw [hp] at hck
  unfold pval at hck
  refine hck.mono ?_
  rintro e w5 ⟨rfl, hb5⟩
  have hz5 := hb5.size
  have HB5 := Lib.hid hb5
  have h15 : Hid (Below w1.heap.size w1 w5) := Lib.hid (h14.out.trans (hb5.mono (by omega)))
  have h25 : Hid (Below w2.heap.size w2 w5) := Lib.hid (h24.out.trans (hb5.mono (by omega)))
  have HO5 := Lib.hid (HO4.out.below hb5)
  have hq5 := (hb5.block _ (by omega)).trans HQB.out
  have hf5 := (hb5.block _ (by omega)).trans HFB.out
  have q0 := cell_at hq5 0
  have q1 := cell_at hq5 1
  have q2 := cell_at hq5 2
  have q3 := cell_at hq5 3
  have q4 := cell_at hq5 4
  have q5 := cell_at hq5 5
  have f0 := cell_at hf5 0
  have f1 := cell_at hf5 1
  have HF5 := Lib.hid hf5
  clear b0 b1 b2 b3 b4 b5 hck hq5 hf5 hb5
  obtain ⟨b0, b1, b2, b3, b4, b5⟩ := HGA.out w5 h15.out
  have hrs := rsame_any s q P P w5 (HP1.out.below h15.out) HO5.out.at
  rw [prgEq_self] at hrs
  unfold pval at hrs
  go_wp2_with fail
  refine hrs.mono ?_
  rintro e w6 ⟨rfl, hb6⟩
  have hz6 := hb6.size
  have h16 : Hid (Below w1.heap.size w1 w6) := Lib.hid (h15.out.trans (hb6.mono (by omega)))
  have h26 : Hid (Below w2.heap.size w2 w6) := Lib.hid (h25.out.trans (hb6.mono (by omega)))
  have h06 : Hid (Below w.heap.size w w6) := Lib.hid (h01.out.trans (h16.out.mono (by have := h01.out.size; omega)))
  have hf6 := (hb6.block _ (by omega)).trans HF5.out
  have HF6 := Lib.hid hf6
  clear b0 b1 b2 b3 b4 b5 q0 q1 q2 q3 q4 q5 f0 f1 hrs hb6 hf6 HGA
  have hF6 : w3.heap.size + 1 < w6.heap.size := by omega
  have hw36 : w2.heap.size ≤ w3.heap.size := hz3
  obtain ⟨i5, hi5, hz50, hz51, hz52⟩ := info_parts infoB
  have hneq : ∀ (c k : Int) (w : World), (binOp .neq 46 (.agg #[.int .i64 c, .int .i64 k]) (.agg #[.int .i64 c, .int .i64 k])).run Tryd.prog w = .ok (.bool false) w := by
    intro c k w
    go_simp
  go_upto_region 11 with fail
  go_cut [66] (fun s66 wx => s66 = .bool (decide (0 ≤ cut ∧ cut < (x.length : Int))) ∧ wx = w6)
  case first =>
    by_cases h0 : 0 ≤ cut
    case neg =>
      have hg3 : decide (cut ≥ 0) = false := by simp; omega
      go_wp2_with fail
      go_meet
      exact ⟨congrArg Value.bool (decide_eq_false (by omega)).symm, rfl⟩
    have hg3 : decide (cut ≥ 0) = true := by simp; omega
    go_wp2_with fail
    go_meet
    exact ⟨congrArg Value.bool (by simp; omega), rfl⟩
  obtain ⟨rfl, hwc⟩ := hcut
  obtain rfl : w6 = wc := hwc.symm
  have HTEST : Hid (decide (0 ≤ cut ∧ cut < (x.length : Int)) = decide (0 ≤ cut ∧ cut < (x.length : Int))) := Lib.hid rfl
  generalize hbt : decide (0 ≤ cut ∧ cut < (x.length : Int)) = bt at HTEST ⊢
  have HBT := Lib.hid hbt
  clear hbt HTEST
  go_upto_if 66 with (fail)
  go_cut [11] (fun s11 wx => Hid (∃ c k : Int, wx.heap[w3.heap.size + 1]? = some (.cells #[.int .i64 c, .int .i64 k] 46 (0, 0))) ∧ Hid (Below w2.heap.size w2 wx) ∧ w3.heap.size + 1 < wx.heap.size)
  case first =>
    cases bt
    case false =>
      go_wp2_with fail
      go_meet
      exact ⟨Lib.hid ⟨_, _, HF6.out⟩, h26, hF6⟩
    have hin := of_decide_eq_true HBT.out
    obtain ⟨k, rfl⟩ := Int.eq_ofNat_of_zero_le hin.1
    have hk : k < x.length := by omega
    have hkc : k ≤ c1 := by omega
    have hlk : (x.take k).length = k := by rw [List.length_take]; omega
    have HEK : Hid (Lies (w6.alloc (.cells #[] 5)) (some ⟨g1, 0, none⟩) (bcells (x.take k))) := Lib.hid (((HE2.out.take k).below h26.out).below ((Below.refl _ w6).alloc (Nat.le_refl _) _))
    have hoe := own_empty w6
    clear hin
    go_wp2_with (at_builtin; go_loud (refine wpList_bytes rfl _ _ rfl w6.heap.size i5 hi5 hz50 hz51 hz52 w6.heap.size 0 0 [] (x.take k) rfl hoe (some ⟨g1, 0, none⟩) ⟨g1, 0, none⟩ rfl k c1 hlk.symm rfl HEK.out ?e1 ?e2 ?_))
    case e1 => omega
    intro g cap w7 hown7 hb7 hg7
    have hb67 : Below w6.heap.size w6 w7 := ((Below.refl _ w6).alloc (Nat.le_refl _) _).trans hb7
    have H67 := Lib.hid hb67
    have hz7 := hb67.size
    have hdk := decode_any (some ⟨g, 0, none⟩) cap (x.take k) w7 (own_cells hown7) (by omega) (fun a ha => by cases ha; exact hg7)
    rw [hlk] at hdk
    clear hown7 hb7 hb67 hoe
    go_wp2_with fail
    refine hdk.mono ?_
    rintro e w8 (⟨_, _, hdec, _, _, _⟩ | ⟨ec, ek, hdec, rfl, hb8⟩)
    case inl => rw [HDC.out k hk] at hdec; cases hdec
    rw [HDC.out k hk] at hdec
    obtain ⟨rfl, rfl⟩ : ec = 81 ∧ ek = k := by cases hdec; exact ⟨rfl, rfl⟩
    have hz8 := hb8.size
    have h28 : Hid (Below w2.heap.size w2 w8) := Lib.hid ((h26.out.trans (H67.out.mono (by omega))).trans (hb8.mono (by omega)))
    have hf8 := (hb8.block _ (by omega)).trans ((H67.out.block _ (by omega)).trans HF6.out)
    have hf9 := Lib.hid (fault_set hf8 81 (ek : Int))
    have f0 := cell_at hf8 0
    have f1 := cell_at hf8 1
    have q0 := free_at hf8 0
    have q1 := free_at hf8 1
    clear hdk hb8 hf8 hdec
    go_wp2_with fail
    go_meet
    exact ⟨Lib.hid ⟨_, _, hf9.out⟩, Lib.hid ((h28.out.setCell (p := ⟨w3.heap.size + 1, 0, none⟩) (by show w2.heap.size ≤ w3.heap.size + 1; omega) _).setCell (p := ⟨w3.heap.size + 1, 1, none⟩) (by show w2.heap.size ≤ w3.heap.size + 1; omega) _), by simp [World.setCell]; omega⟩
  case rest =>
    obtain ⟨hfx, hbx, hltx⟩ := hcut
    obtain ⟨c0, k0, hfx⟩ := hfx.out
    have HFX := Lib.hid hfx
    have h0x : Hid (Below w.heap.size w wc) := Lib.hid (h02.out.trans (hbx.out.mono (by have := h02.out.size; omega)))
    clear hfx
    by_cases ht : 0 < tl.length
    case neg =>
      have hg5 : decide (((tl.length : Nat) : Int) > 0) = false := decide_eq_false (by omega)
      go_wp2
      go_ret
      exact ⟨rfl, h0x.out⟩
    have hg5 : decide (((tl.length : Nat) : Int) > 0) = true := decide_eq_true (by omega)
    obtain ⟨ad, had, _⟩ := HL1.out.at 0 (by rw [bcells_len]; exact ht)
    subst had
    have h1x : Hid (Below w1.heap.size w1 wc) := Lib.hid (HB2.out.trans (hbx.out.mono hz2))
    have HEX : Hid (Lies (wc.alloc (.cells #[] 5)) (some ⟨g1, 0, none⟩) (bcells x)) := Lib.hid ((HE2.out.below hbx.out).below ((Below.refl _ wc).alloc (Nat.le_refl _) _))
    have hoe := own_empty wc
    have htne : tl ≠ [] := fun e => by rw [e] at ht; simp at ht
    go_wp2_with (at_builtin; go_loud (refine wpList_bytes rfl _ _ rfl wc.heap.size i5 hi5 hz50 hz51 hz52 wc.heap.size 0 0 [] x rfl hoe (some ⟨g1, 0, none⟩) ⟨g1, 0, none⟩ rfl x.length c1 rfl rfl HEX.out ?r1 ?r2 ?_))
    case r1 => omega
    intro g cap w7 hown7 hb7 hg7
    have hb67 : Below wc.heap.size wc w7 := ((Below.refl _ wc).alloc (Nat.le_refl _) _).trans hb7
    have H67 := Lib.hid hb67
    have hz7 := hb67.size
    have HLT : Hid (Lies w7 (some ad) (bcells tl)) := Lib.hid ((HL1.out.below h1x.out).below hb67)
    clear hb7 hb67 hoe
    go_wp2_with (at_builtin; go_loud (refine wpList_bytes rfl _ _ rfl wc.heap.size i5 hi5 hz50 hz51 hz52 g x.length cap x tl rfl hown7 (some ad) ad rfl tl.length ca rfl rfl HLT.out ?d1 ?d2 ?_))
    case d1 => omega
    case d2 => omega
    intro gg capp w8 hown8 hb8 hg8
    have H78 := Lib.hid hb8
    have hz8 := hb8.size
    have hl2 := own_cells hown8
    have hdk := decode_any (some ⟨gg, 0, none⟩) capp (x ++ tl) w8 hl2 (by simp; omega) (fun a ha => by cases ha; exact hg8)
    rw [List.length_append] at hdk
    clear hown7 hown8 hb8 hl2
    go_wp2_with fail
    refine hdk.mono ?_
    rintro e w9 (⟨_, _, hdec, _, _, _⟩ | ⟨ec, ek, hdec, rfl, hb9⟩)
    case inl => rw [HDT.out tl htne] at hdec; cases hdec
    rw [HDT.out tl htne] at hdec
    obtain ⟨rfl, rfl⟩ : ec = 84 ∧ ek = x.length := by cases hdec; exact ⟨rfl, rfl⟩
    have hz9 := hb9.size
    have h09 : Hid (Below w.heap.size w w9) := Lib.hid (((h0x.out.trans (H67.out.mono (by have := h0x.out.size; omega))).trans (H78.out.mono (by have := h0x.out.size; omega))).trans (hb9.mono (by have := h0x.out.size; omega)))
    have hf8 := (hb9.block _ (by omega)).trans ((H78.out.block _ (by omega)).trans ((H67.out.block _ (by omega)).trans HFX.out))
    have hf9 := Lib.hid (fault_set hf8 84 (x.length : Int))
    have f0 := cell_at hf8 0
    have f1 := cell_at hf8 1
    have q0 := free_at hf8 0
    have q1 := free_at hf8 1
    have hfw : Hid (w.heap.size ≤ w3.heap.size + 1) := Lib.hid (by have := h02.out.size; omega)
    clear hdk hb9 hf8 hdec
    go_wp2
    go_ret
    exact ⟨rfl, (h09.out.setCell (p := ⟨w3.heap.size + 1, 0, none⟩) hfw.out _).setCell (p := ⟨w3.heap.size + 1, 1, none⟩) hfw.out _⟩
end Go.Proofs.YtfjiikadnlhekaaDoor
