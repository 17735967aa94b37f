/-
  What is proved here: the reference's List tells a program as text. Conditions: the program lies in memory.
-/
import Derived.Test.YtfjiikadnlhekaaDoorPuts
import Derived.Test.YtfjiikadnlhekaaDoorREnc
import Derived.Deep.DeepCutAuto
namespace Go.Proofs.YtfjiikadnlhekaaDoor
open Go.RowKit

theorem ins_fit (P : Prg) (h : checkErr P = 0) : ∀ x ∈ P.code, insErr P x = 0 := by
  have ht := tab_of P h
  unfold checkErr at h
  rw [ht] at h
  exact codeErr_zero P P.code h
theorem end_bit (P : Prg) (x : Ins5) (op : Nat) (hx : x.1 = (op : Int)) (ho : op < 42) (hi : insErr P x = 0) (i : Nat) (hi4 : i < 4) (hik : i < (kindsOf (op : Int)).length) (hc : ((kindsOf (op : Int))[i]).toNat = 101) : (opnds x).getD i 0 = 0 ∨ (opnds x).getD i 0 = 1 := by
  unfold insErr at hi
  rw [if_neg (by omega)] at hi
  have hall : (List.range 4).all (fitAt P x) = true := by
    cases hq : (List.range 4).all (fitAt P x)
    · rw [hq] at hi; cases hi
    · rfl
  have hf := List.all_eq_true.1 hall i (by simpa using hi4)
  unfold fitAt bndAt at hf
  rw [hx, if_pos hik, List.getD_eq_getElem?_getD, List.getElem?_eq_getElem hik] at hf
  simp only [Option.getD_some, hc, Bool.and_eq_true, decide_eq_true_eq] at hf
  have e : bnds P 101 = (0, 1) := by simp [bnds]
  rw [e] at hf
  simp only at hf
  omega
theorem ins_zero (P : Prg) (x : Ins5) (op : Nat) (hx : x.1 = (op : Int)) (ho : op < 42) (hi : insErr P x = 0) (i : Nat) (hi4 : i < 4) (hik : ¬ i < (kindsOf (op : Int)).length) : (opnds x).getD i 0 = 0 := by
  unfold insErr at hi
  rw [if_neg (by omega)] at hi
  have hall : (List.range 4).all (fitAt P x) = true := by
    cases hq : (List.range 4).all (fitAt P x)
    · rw [hq] at hi; cases hi
    · rfl
  have hf := List.all_eq_true.1 hall i (by simpa using hi4)
  unfold fitAt bndAt at hf
  rw [hx, if_neg hik] at hf
  simp only [Bool.and_eq_true, decide_eq_true_eq] at hf
  omega
theorem idx_line {P : Prg} {q : Nat} {a : Int} (hq : q < P.on.length) (h : P.on[q] = a) : (idx P.on (q + 1) a).flatMap (headLine P) = (idx P.on q a).flatMap (headLine P) ++ headLine P (q : Int) := by
  rw [idx_hit _ _ _ (by rw [List.getD_eq_getElem?_getD, List.getElem?_eq_getElem hq]; exact h)]
  simp
theorem idx_line_no {P : Prg} {q : Nat} {a : Int} (hq : q < P.on.length) (h : P.on[q] ≠ a) : (idx P.on (q + 1) a).flatMap (headLine P) = (idx P.on q a).flatMap (headLine P) := by
  rw [idx_miss _ _ _ (by rw [List.getD_eq_getElem?_getD, List.getElem?_eq_getElem hq]; exact h)]
theorem heads_hit (P : Prg) (a : Int) (h : P.miss = a) : (headsAt P a).flatMap (headLine P) = (idx P.on P.on.length a).flatMap (headLine P) ++ [109, 105, 115, 115, 58, 10] := by
  unfold headsAt
  rw [if_pos h, List.flatMap_append]
  simp [headLine]
theorem heads_no (P : Prg) (a : Int) (h : P.miss ≠ a) : (headsAt P a).flatMap (headLine P) = (idx P.on P.on.length a).flatMap (headLine P) := by
  unfold headsAt
  rw [if_neg h, List.append_nil]
theorem line_on (P : Prg) (q : Nat) (h : q < P.on.length) : headLine P (q : Int) = [111, 110, 32, 113] ++ Lib.itoa (q : Int) ++ [58, 10] := by
  unfold headLine
  rw [if_pos (by omega)]

set_option maxHeartbeats 8000000 in
set_option maxRecDepth 100000 in
theorem rlist_ok (s : Spots) (P : Prg) (w : World) (hP : PAt w s P) (hok : checkErr P = 0) : Calls Tryd.prog 16 #[pval s P] w fun e w' => e = .returned (.tuple #[.string (str (listText P)), .int .i64 0]) ∧ Below w.heap.size w w' := by
  obtain ⟨fA, hbA⟩ := one_block w s P 27
  unfold pcells at fA hbA
  have x0 := fA.f0
  have x1 := fA.f1
  have x2 := fA.f2
  have x3 := fA.f3
  have x4 := fA.f4
  have x5 := fA.f5
  generalize hA : w.alloc (.cells #[.slice s.a0 P.ghost.length s.c0, .slice s.a1 P.vars.length s.c1, .slice s.a2 P.tags.length s.c2, .slice s.a3 P.on.length s.c3, .int .i64 P.miss, .slice s.a4 P.code.length s.c4] 27) = wA at *
  have hck := rcheck_any s P wA (hP.below hbA)
  rw [hok] at hck
  have HOK := Lib.hid (ok_of P hok)
  have HFIT := Lib.hid (ins_fit P hok)
  have hL := (ok_of P hok).lens
  unfold lensOk at hL
  obtain ⟨g0, g1, g2, g3, g4⟩ := hL
  have g3' : P.on.length ≤ 16 := by omega
  unfold pval at hck ⊢
  have FA := Lib.hid fA
  have HP := Lib.hid (hP.below hbA)
  have HBW := Lib.hid hbA
  have HA := Lib.hid hA
  clear hP fA hbA hok g3 hA
  go_enter Tryd.func16, Tryd.ntmps16
  go_wp2_with fail
  rw [HA.out]
  refine hck.mono ?_
  rintro e wk ⟨rfl, hbk⟩
  have HBK := Lib.hid hbk
  have hzk : wA.heap.size ≤ wk.heap.size := hbk.size
  clear x0 x1 x2 x3 x4 x5 hck hbk
  go_wp2_with fail
  refine (table_any wk).mono ?_
  rintro e w1 ⟨gt, rfl, _, htab, hb1⟩
  have HB1 := Lib.hid (HBK.out.trans (hb1.mono hzk))
  have hz1 : wA.heap.size ≤ w1.heap.size := HB1.out.size
  have HT1 := Lib.hid htab
  have HLS : Hid ([] ++ codeText P 0 (P.code.drop 0) = listText P) := Lib.hid rfl
  have HO1 := Lib.hid (OutV.nil w1 w1.heap.size)
  have HBB := Lib.hid (Below.refl w1.heap.size w1)
  have y5 := (FA.out.below HB1.out).f5
  clear htab hb1 HBK
  go_wp2
  clear y5
  go_loopw [5, 7] (fun oo ii wr => ∃ (j : Nat) (l : List UInt8), j ≤ P.code.length ∧ ii = .int .i64 (j : Int) ∧ l.length ≤ 1000 * j ∧ Hid (l ++ codeText P j (P.code.drop j) = listText P) ∧ Hid (OutV w1.heap.size wr oo l) ∧ Hid (Below w1.heap.size w1 wr) ∧ Hid (wr.heap[gt]? = some (.cells tableCells 96 (0, 0)))) (fun _ ii _ => P.code.length + 1 - (intOf ii).toNat)
  case atStart => exact ⟨0, [], Nat.zero_le _, rfl, by simp, HLS, HO1, HBB, HT1⟩
  case round =>
    clear HLS HO1 HBB HT1
    obtain ⟨j, l, hj, rfl, hll, HLAY, HO, HB, KT⟩ := hrel
    have y5 := (FA.out.below (HB1.out.trans (HB.out.mono hz1))).f5
    by_cases hlt : j < P.code.length
    case neg =>
      obtain rfl : j = P.code.length := by omega
      have hE : l = listText P := by
        have h := HLAY.out
        rw [List.drop_length] at h
        simpa [codeText] using h
      obtain ⟨ov, cv, hv⟩ := own_form HO.out
      subst hv
      have hcv := convert_str (cap := cv) (own_at HO.out).1
      have HBF := Lib.hid (HBW.out.trans ((HB1.out.trans (HB.out.mono hz1)).mono HBW.out.size))
      have HEE := Lib.hid hE
      clear HLAY hE hlt hj HO HB KT
      go_wp2
      go_ret2
      exact ⟨by show Ending.returned (.tuple #[.string (str l), .int .i64 0]) = _; rw [HEE.out], HBF.out⟩
    have HCT := Lib.hid (HLAY.out.symm.trans (by rw [codeText_at P j hlt]))
    have HI0 : Hid (l = l ++ (idx P.on 0 (j : Int)).flatMap (headLine P)) := Lib.hid (by rw [idx_zero]; simp)
    have hll0 : l.length ≤ 1000 * j + 27 * 0 := by omega
    have y3 := (FA.out.below (HB1.out.trans (HB.out.mono hz1))).f3
    clear HLAY
    go_wp2
    clear y3 y5
    go_loopw [5, 8] (fun oo qq wr => ∃ (q : Nat) (l2 : List UInt8), q ≤ P.on.length ∧ qq = .int .i64 (q : Int) ∧ l2.length ≤ 1000 * j + 27 * q ∧ Hid (l2 = l ++ (idx P.on q (j : Int)).flatMap (headLine P)) ∧ Hid (OutV w1.heap.size wr oo l2) ∧ Hid (Below w1.heap.size w1 wr) ∧ Hid (wr.heap[gt]? = some (.cells tableCells 96 (0, 0)))) (fun _ qq _ => P.on.length + 1 - (intOf qq).toNat)
    case atStart => exact ⟨0, l, Nat.zero_le _, rfl, hll0, HI0, HO, HB, KT⟩
    case round =>
      clear HI0 HO HB KT hll0
      obtain ⟨q, l2, hq, rfl, hl2, HI, HO, HB, KT⟩ := hrel
      have y3 := (FA.out.below (HB1.out.trans (HB.out.mono hz1))).f3
      by_cases hqt : q < P.on.length
      case pos =>
        obtain ⟨a, ha, hca⟩ := (HP.out.below (HB1.out.trans (HB.out.mono hz1))).on.at q (by rw [nums_length]; exact hqt)
        simp only [nums, List.getElem_map] at hca
        have HHIT : Hid (P.on[q] = (j : Int) → (idx P.on (q + 1) (j : Int)).flatMap (headLine P) = (idx P.on q (j : Int)).flatMap (headLine P) ++ headLine P (q : Int)) := Lib.hid (fun h => idx_line hqt h)
        have HMIS : Hid (P.on[q] ≠ (j : Int) → (idx P.on (q + 1) (j : Int)).flatMap (headLine P) = (idx P.on q (j : Int)).flatMap (headLine P)) := Lib.hid (fun h => idx_line_no hqt h)
        have HLN := Lib.hid (line_on P q hqt)
        generalize P.on[q] = z at *
        rw [ha] at y3
        clear ha
        by_cases hz : z = (j : Int)
        · have hzb : (z == (j : Int)) = true := by simpa using hz
          have HH := Lib.hid (HHIT.out hz)
          have hD := decimal_any (q : Int) (by omega)
          have hsz := itoa_short2 (q : Int) (by omega)
          have HE : Hid ((⟨#[111, 110, 32, 113]⟩ : ByteArray) ++ str (Lib.itoa (q : Int)) ++ (⟨#[58, 10]⟩ : ByteArray) = str (headLine P (q : Int))) := Lib.hid (by
            rw [HLN.out, ← str_app, ← str_app]; rfl)
          have hhl : (headLine P (q : Int)).length ≤ 27 := headLine_short P (q : Int) (by omega)
          have hs4 : (⟨#[111, 110, 32, 113]⟩ : ByteArray).size = 4 := rfl
          have hs2 : (⟨#[58, 10]⟩ : ByteArray).size = 2 := rfl
          have HD := Lib.hid hD
          have hls : ((⟨#[111, 110, 32, 113]⟩ : ByteArray) ++ str (Lib.itoa (q : Int))).size ≤ 25 := by rw [ByteArray.size_append, hs4]; omega
          generalize str (Lib.itoa (q : Int)) = sq at *
          clear HHIT HMIS hz hD
          go_wp2_with fail
          refine (HD.out _).mono ?_
          rintro e w2 ⟨rfl, hb2⟩
          have HO2 := Lib.hid (HO.out.below hb2)
          have HB2 := Lib.hid (HB.out.trans (hb2.mono HB.out.size))
          have KT2 := Lib.hid ((hb2.block gt (Array.getElem?_eq_some_iff.1 KT.out).1).trans KT.out)
          have hz2 : w1.heap.size ≤ w2.heap.size := HB2.out.size
          clear hb2
          go_wp2_with (at_builtin; go_loud (refine wpList_puts rfl _ _ rfl w1.heap.size _ l2 (headLine P (q : Int)) rfl HO2.out _ rfl HE.out ?q1 hz2 ?_))
          case q1 => omega
          intro v3 w3 hO3 hg3
          have HO3 := Lib.hid hO3
          have HB3 := Lib.hid (HB2.out.trans (HO2.out.grown hg3 hz2))
          have KT3 := Lib.hid (HO2.out.other hg3 KT2.out (by decide))
          have HI3 : Hid (l2 ++ headLine P (q : Int) = l ++ (idx P.on (q + 1) (j : Int)).flatMap (headLine P)) := Lib.hid (by rw [HH.out, HI.out, List.append_assoc])
          clear hO3 hg3 HO HB KT HO2 HB2 KT2 hs4 hs2 hls
          go_wp2
          go_roundw
          case rel => exact ⟨q + 1, l2 ++ headLine P (q : Int), by omega, by go_num, by simp; omega, HI3, HO3, HB3, KT3⟩
          case measure => simp [intOf]; omega
        · have hzb : (z == (j : Int)) = false := by simpa using hz
          have HI3 : Hid (l2 = l ++ (idx P.on (q + 1) (j : Int)).flatMap (headLine P)) := Lib.hid (by rw [HMIS.out hz]; exact HI.out)
          clear HHIT HMIS hz
          go_wp2
          go_roundw
          case rel => exact ⟨q + 1, l2, by omega, by go_num, by omega, HI3, HO, HB, KT⟩
          case measure => simp [intOf]; omega
      obtain rfl : q = P.on.length := by omega
      have y4 := (FA.out.below (HB1.out.trans (HB.out.mono hz1))).f4
      have hl3 : l2.length ≤ 1000 * j + 432 := by omega
      clear hqt hq hl2
      go_upto_if 48 with fail
      clear y3 y4
      go_cut [5, 48] (fun oo _ wx => ∃ (l3 : List UInt8), l3.length ≤ 1000 * j + 438 ∧ Hid (l3 = l ++ (headsAt P (j : Int)).flatMap (headLine P)) ∧ Hid (OutV w1.heap.size wx oo l3) ∧ Hid (Below w1.heap.size w1 wx) ∧ Hid (wx.heap[gt]? = some (.cells tableCells 96 (0, 0))))
      case first =>
        by_cases hm : P.miss = (j : Int)
        · have hmb : (P.miss == (j : Int)) = true := by simpa using hm
          have HH := Lib.hid (heads_hit P (j : Int) hm)
          have hzq : w1.heap.size ≤ wr.heap.size := HB.out.size
          clear hm
          go_wp2_with (at_builtin; go_loud (refine wpList_puts rfl _ _ rfl w1.heap.size _ l2 [109, 105, 115, 115, 58, 10] rfl HO.out _ rfl rfl ?m1 hzq ?_))
          case m1 => simp; omega
          intro v3 w3 hO3 hg3
          have HO3 := Lib.hid hO3
          have HB3 := Lib.hid (HB.out.trans (HO.out.grown hg3 hzq))
          have KT3 := Lib.hid (HO.out.other hg3 KT.out (by decide))
          have HI3 : Hid (l2 ++ [109, 105, 115, 115, 58, 10] = l ++ (headsAt P (j : Int)).flatMap (headLine P)) := Lib.hid (by rw [HH.out, HI.out, List.append_assoc])
          clear hO3 hg3
          go_wp2_with fail
          go_meet
          exact ⟨l2 ++ [109, 105, 115, 115, 58, 10], by simp; omega, HI3, HO3, HB3, KT3⟩
        · have hmb : (P.miss == (j : Int)) = false := by simpa using hm
          have HH := Lib.hid (heads_no P (j : Int) hm)
          have HI3 : Hid (l2 = l ++ (headsAt P (j : Int)).flatMap (headLine P)) := Lib.hid (by rw [HH.out]; exact HI.out)
          clear hm
          go_wp2_with fail
          go_meet
          exact ⟨l2, by omega, HI3, HO, HB, KT⟩
      clear HI HO HB KT
      obtain ⟨l3, hl3, HI, HO, HB, KT⟩ := hcut
      have y5 := (FA.out.below (HB1.out.trans (HB.out.mono hz1))).f5
      obtain ⟨a, ha, hca⟩ := (HP.out.below (HB1.out.trans (HB.out.mono hz1))).code.row 5 (fun _ => rfl) (by decide) j hlt
      have hoi := HOK.out.code _ (List.getElem_mem hlt)
      have hie := HFIT.out _ (List.getElem_mem hlt)
      generalize P.code[j] = v at *
      obtain ⟨p0, p1, p2, p3, p4⟩ := v
      have a0 : wc.cell? (a.add (j * 5)) = some (.int .i64 p0) := by have h := hca 0 _ rfl; rwa [add_zero'] at h
      have a1 : wc.cell? ⟨(a.add (j * 5)).block, (a.add (j * 5)).off + 1, none⟩ = some (.int .i64 p1) := by have h := hca 1 _ rfl; rwa [add_pos' _ _ (by decide)] at h
      have a2 : wc.cell? ⟨(a.add (j * 5)).block, (a.add (j * 5)).off + 2, none⟩ = some (.int .i64 p2) := by have h := hca 2 _ rfl; rwa [add_pos' _ _ (by decide)] at h
      have a3 : wc.cell? ⟨(a.add (j * 5)).block, (a.add (j * 5)).off + 3, none⟩ = some (.int .i64 p3) := by have h := hca 3 _ rfl; rwa [add_pos' _ _ (by decide)] at h
      have a4 : wc.cell? ⟨(a.add (j * 5)).block, (a.add (j * 5)).off + 4, none⟩ = some (.int .i64 p4) := by have h := hca 4 _ rfl; rwa [add_pos' _ _ (by decide)] at h
      rw [ha] at y5
      have hop := hoi.op
      obtain ⟨kop, rfl⟩ : ∃ kop : Nat, p0 = (kop : Int) := ⟨p0.toNat, by simp only at hop; omega⟩
      have hkop : kop < 42 := by simp only at hop; omega
      have hhas := hoi.has
      simp only at hhas
      have HHAS := Lib.hid hhas
      have HIE := Lib.hid hie
      have HKD := Lib.hid (fun i hi => kinds_same kop hkop i hi)
      have hwz : w1.heap.size ≤ wc.heap.size := HB.out.size
      have b1 := (Below.refl wc.heap.size wc).alloc (Nat.le_refl _) (.cells #[.int .i64 (kop : Int), .int .i64 p1, .int .i64 p2, .int .i64 p3, .int .i64 p4] 57)
      have KX : Hid ((wc.alloc (.cells #[.int .i64 (kop : Int), .int .i64 p1, .int .i64 p2, .int .i64 p3, .int .i64 p4] 57)).heap[wc.heap.size]? = some (.cells #[.int .i64 (kop : Int), .int .i64 p1, .int .i64 p2, .int .i64 p3, .int .i64 p4] 57 (0, 0))) := Lib.hid (MapKept.heap_alloc wc _).1
      have KTx := Lib.hid ((b1.block gt (Array.getElem?_eq_some_iff.1 KT.out).1).trans KT.out)
      have HOx := Lib.hid (HO.out.below b1)
      have HBx := Lib.hid (HB.out.alloc hwz (.cells #[.int .i64 (kop : Int), .int .i64 p1, .int .i64 p2, .int .i64 p3, .int .i64 p4] 57))
      clear ha hca HO HB KT hhas hoi hop hie b1
      go_wp2_with fail
      clear a1 a2 a3 a4 a0 y5
      generalize wc.alloc (.cells #[.int .i64 (kop : Int), .int .i64 p1, .int .i64 p2, .int .i64 p3, .int .i64 p4] 57) = wx at *
      generalize wc.heap.size = xb at *
      refine (operands_any _ _ _ _ _ _).mono ?_
      rintro e w3 ⟨rfl, hb3⟩
      have HO3 := Lib.hid (HOx.out.below hb3)
      have KX3 := Lib.hid ((hb3.block xb (Array.getElem?_eq_some_iff.1 KX.out).1).trans KX.out)
      have KT3 := Lib.hid ((hb3.block gt (Array.getElem?_eq_some_iff.1 KTx.out).1).trans KTx.out)
      have HB3 := Lib.hid (HBx.out.trans (hb3.mono HBx.out.size))
      have hz3 : w1.heap.size ≤ w3.heap.size := HB3.out.size
      have b2 := (Below.refl w3.heap.size w3).alloc (Nat.le_refl _) (.cells #[.int .i64 p1, .int .i64 p2, .int .i64 p3, .int .i64 p4] 93)
      have KN : Hid ((w3.alloc (.cells #[.int .i64 p1, .int .i64 p2, .int .i64 p3, .int .i64 p4] 93)).heap[w3.heap.size]? = some (.cells #[.int .i64 p1, .int .i64 p2, .int .i64 p3, .int .i64 p4] 93 (0, 0))) := Lib.hid (MapKept.heap_alloc w3 _).1
      have KX4 := Lib.hid ((b2.block xb (Array.getElem?_eq_some_iff.1 KX3.out).1).trans KX3.out)
      have KT4 := Lib.hid ((b2.block gt (Array.getElem?_eq_some_iff.1 KT3.out).1).trans KT3.out)
      have HO4 := Lib.hid (HO3.out.below b2)
      have HB4 := Lib.hid (HB3.out.alloc hz3 (.cells #[.int .i64 p1, .int .i64 p2, .int .i64 p3, .int .i64 p4] 93))
      clear HOx KX KTx HBx hb3 HO3 KX3 KT3 HB3 b2
      go_upto_region 18 with fail
      generalize w3.alloc (.cells #[.int .i64 p1, .int .i64 p2, .int .i64 p3, .int .i64 p4] 93) = w4 at *
      generalize w3.heap.size = nb at *
      have hk0 : (0 : Int) ≤ (kop : Int) := by omega
      have hk1 : (kop : Int) < 42 := by omega
      have hk2 : ¬ (kop : Int) < 0 := by omega
      have hk3 : ¬ (42 : Int) ≤ (kop : Int) := by omega
      have hD := decimal_any (j : Int) (by omega)
      have hsz := itoa_short2 (j : Int) (by omega)
      have hns := names_short kop hkop
      have hs1 : (⟨#[58, 32]⟩ : ByteArray).size = 2 := rfl
      have hs2 : (str (nameOf (kop : Int))).size ≤ 8 := hns
      have hs3 : (str (Lib.itoa (j : Int)) ++ (⟨#[58, 32]⟩ : ByteArray)).size ≤ 23 := by rw [ByteArray.size_append, hs1]; omega
      have hadd1 : ∀ w : World, (Op.stringOp .add (str (Lib.itoa (j : Int))) ⟨#[58, 32]⟩).run Tryd.prog w = .ok (.string (str (Lib.itoa (j : Int)) ++ ⟨#[58, 32]⟩)) w := fun w => run_string_add_sum w _ _ (by rw [hs1]; omega)
      have hadd2 : ∀ w : World, (Op.stringOp .add (str (Lib.itoa (j : Int)) ++ ⟨#[58, 32]⟩) (str (nameOf (kop : Int)))).run Tryd.prog w = .ok (.string (str (Lib.itoa (j : Int)) ++ ⟨#[58, 32]⟩ ++ str (nameOf (kop : Int)))) w := fun w => run_string_add_sum w _ _ (by omega)
      have HE : Hid (str (Lib.itoa (j : Int)) ++ (⟨#[58, 32]⟩ : ByteArray) ++ str (nameOf (kop : Int)) = str (Lib.itoa (j : Int) ++ [58, 32] ++ nameOf (kop : Int))) := Lib.hid (by rw [← str_app, ← str_app]; rfl)
      have hxl : (Lib.itoa (j : Int) ++ [58, 32] ++ nameOf (kop : Int)).length ≤ 31 := by
        have h1 : (Lib.itoa (j : Int)).length ≤ 21 := hsz
        simp; omega
      have HLAY : Hid ((l3 ++ (Lib.itoa (j : Int) ++ [58, 32] ++ nameOf (kop : Int))) ++ (((((kindsOf (kop : Int)).zip (opnds ((kop : Int), p1, p2, p3, p4))).drop 0).flatMap fun p => [32] ++ opText p.1.toNat p.2) ++ ([10] ++ codeText P (j + 1) (P.code.drop (j + 1)))) = listText P) := Lib.hid (by
        rw [HCT.out, HI.out]
        unfold insText opsText
        simp)
      have hcn : w4.cell? ⟨gt, kop * 5, none⟩ = some (.string (str (nameOf (kop : Int)))) := by
        rw [cell_at KT4.out _]
        exact cellStr_some (table_name kop hkop)
      have S0 : w4.drew.cell? ⟨xb, 0, none⟩ = some (.int .i64 (kop : Int)) ∧ w4.drew.cell? ⟨gt, kop * 5, none⟩ = some (.string (str (nameOf (kop : Int)))) := ⟨cell_at KX4.out 0, hcn⟩
      have hSm : ∀ w' : World, w'.heap[xb]? = w4.heap[xb]? → w'.heap[gt]? = w4.heap[gt]? → w'.cell? ⟨xb, 0, none⟩ = some (.int .i64 (kop : Int)) ∧ w'.cell? ⟨gt, kop * 5, none⟩ = some (.string (str (nameOf (kop : Int)))) := fun w' h1 h2 => ⟨cell_at (h1.trans KX4.out) 0, (World.cell?_of_block h2).trans hcn⟩
      have HSM := Lib.hid hSm
      have HD := Lib.hid hD
      have hnl : nb < w4.heap.size := (Array.getElem?_eq_some_iff.1 KN.out).1
      have hxl2 : xb < w4.heap.size := (Array.getElem?_eq_some_iff.1 KX4.out).1
      have hgl2 : gt < w4.heap.size := (Array.getElem?_eq_some_iff.1 KT4.out).1
      have hz4 : w1.heap.size ≤ w4.heap.size := HB4.out.size
      clear hSm hD hcn hs1 hs2 hs3 hns hsz HI HCT
      generalize hsi : str (Lib.itoa (j : Int)) = si at *
      generalize hnm : str (nameOf (kop : Int)) = nm at *
      generalize hxs : Lib.itoa (j : Int) ++ [58, 32] ++ nameOf (kop : Int) = xs at *
      clear hsi hnm hxs
      go_cut [5] (fun oo wx => ∃ (l4 : List UInt8), l4.length ≤ 1000 * j + 469 ∧ Hid (l4 ++ (((((kindsOf (kop : Int)).zip (opnds ((kop : Int), p1, p2, p3, p4))).drop 0).flatMap fun p => [32] ++ opText p.1.toNat p.2) ++ ([10] ++ codeText P (j + 1) (P.code.drop (j + 1)))) = listText P) ∧ Hid (OutV w1.heap.size wx oo l4) ∧ Hid (Below w1.heap.size w1 wx) ∧ Hid (wx.heap[xb]? = some (.cells #[.int .i64 (kop : Int), .int .i64 p1, .int .i64 p2, .int .i64 p3, .int .i64 p4] 57 (0, 0))) ∧ Hid (wx.heap[gt]? = some (.cells tableCells 96 (0, 0))) ∧ Hid (wx.heap[nb]? = some (.cells #[.int .i64 p1, .int .i64 p2, .int .i64 p3, .int .i64 p4] 93 (0, 0))))
      case first =>
        go_region_held3 (fun w' : World => w'.cell? ⟨xb, 0, none⟩ = some (.int .i64 (kop : Int)) ∧ w'.cell? ⟨gt, kop * 5, none⟩ = some (.string nm)) (with_reducible first | exact S6 | exact S5 | exact S0) (first | (refine step_puts (by rfl) _ _ (by rfl) w1.heap.size _ l3 xs (by rfl) HO5.out _ (by rfl) HE.out (by omega) hz5 ?_; intro v6 w6 hO6 hg6; have HO6 := Lib.hid hO6; have HG6 := Lib.hid hg6; have S6 := HSM.out w6 ((HO5.out.other hg6 KX5.out (by decide)).trans KX4.out.symm) ((HO5.out.other hg6 KT5.out (by decide)).trans KT4.out.symm)) | (go_at_call 45; refine (HD.out _).mono ?_; rintro e w5 ⟨rfl, hb5⟩; have HO5 := Lib.hid (OutV.below (w := w4.drew) HO4.out hb5); have HB5 := Lib.hid (HB4.out.drew.trans (hb5.mono hz4)); have KX5 := Lib.hid ((hb5.block xb hxl2).trans KX4.out); have KT5 := Lib.hid ((hb5.block gt hgl2).trans KT4.out); have KN5 := Lib.hid ((hb5.block nb hnl).trans KN.out); have hz5 : w1.heap.size ≤ w5.heap.size := HB5.out.size; have S5 := HSM.out w5 (hb5.block xb hxl2) (hb5.block gt hgl2)))
        have hL6 : (l3 ++ xs).length ≤ 1000 * j + 469 := by simp; omega
        have HB6 := Lib.hid (HB5.out.trans (HO5.out.grown HG6.out hz5))
        have KX6 := Lib.hid (HO5.out.other HG6.out KX5.out (by decide))
        have KT6 := Lib.hid (HO5.out.other HG6.out KT5.out (by decide))
        have KN6 := Lib.hid (HO5.out.other HG6.out KN5.out (by decide))
        go_wp2_with fail
        go_meet
        exact ⟨l3 ++ xs, hL6, HLAY, HO6, HB6, KX6, KT6, KN6⟩
      clear HLAY HO4 HB4 KX4 KT4 KN S0 HSM HD HE hadd1 hadd2
      obtain ⟨l4, hl4, HLAY, HO, HB, KX, KT, KN⟩ := hcut
      have hk4 := kinds_short (kop : Int)
      have hzip : ((kindsOf (kop : Int)).zip (opnds ((kop : Int), p1, p2, p3, p4))).length = (kindsOf (kop : Int)).length := by rw [List.length_zip]; exact Nat.min_eq_left (by exact hk4)
      have HZIP := Lib.hid hzip
      have HTX : Hid (∀ i, i < 4 → Hid (rText (tabKind kop i) ((opnds ((kop : Int), p1, p2, p3, p4)).getD i 0) = (if h : i < (kindsOf (kop : Int)).length then [32] ++ opText ((kindsOf (kop : Int))[i]).toNat ((opnds ((kop : Int), p1, p2, p3, p4)).getD i 0) else []) ∧ -9223372036854775807 ≤ (opnds ((kop : Int), p1, p2, p3, p4)).getD i 0 ∧ (opnds ((kop : Int), p1, p2, p3, p4)).getD i 0 ≤ 9223372036854775807)) := Lib.hid (fun i hi => Lib.hid (by
        obtain ⟨hk, hkn, _⟩ := HKD.out i hi
        by_cases hik : i < (kindsOf (kop : Int)).length
        · rw [dif_pos hik]
          rw [if_pos hik] at hk
          have hgd : (kindsOf (kop : Int)).getD i 0 = (kindsOf (kop : Int))[i] := by rw [List.getD_eq_getElem?_getD, List.getElem?_eq_getElem hik]; rfl
          have hkn2 := hkn hik
          rw [hgd] at hk hkn2
          have hb := HHAS.out i hik
          unfold okOp at hb
          simp only at hb
          refine ⟨by rw [hk]; exact rtext_same _ _ hkn2 (fun h101 => end_bit P _ kop rfl hkop HIE.out i hi hik h101), ?_⟩
          by_cases h110 : ((kindsOf (kop : Int))[i]).toNat = 110
          · rw [if_pos h110] at hb
            unfold nearI at hb
            omega
          · rw [if_neg h110] at hb
            omega
        · rw [dif_neg hik]
          rw [if_neg hik] at hk
          have h0 := ins_zero P _ kop rfl hkop HIE.out i hi hik
          rw [hk, h0]
          exact ⟨rfl, by omega, by omega⟩))
      clear hzip
      generalize kindsOf (kop : Int) = ks at *
      go_wp2
      go_loopw [5, 11] (fun oo ii wq => ∃ (i : Nat) (l4 : List UInt8), i ≤ 4 ∧ ii = .int .i64 (i : Int) ∧ l4.length ≤ 1000 * j + 469 + 23 * i ∧ Hid (l4 ++ ((((ks.zip (opnds ((kop : Int), p1, p2, p3, p4))).drop i).flatMap fun p => [32] ++ opText p.1.toNat p.2) ++ ([10] ++ codeText P (j + 1) (P.code.drop (j + 1)))) = listText P) ∧ Hid (OutV w1.heap.size wq oo l4) ∧ Hid (Below w1.heap.size w1 wq) ∧ Hid (wq.heap[xb]? = some (.cells #[.int .i64 (kop : Int), .int .i64 p1, .int .i64 p2, .int .i64 p3, .int .i64 p4] 57 (0, 0))) ∧ Hid (wq.heap[gt]? = some (.cells tableCells 96 (0, 0))) ∧ Hid (wq.heap[nb]? = some (.cells #[.int .i64 p1, .int .i64 p2, .int .i64 p3, .int .i64 p4] 93 (0, 0)))) (fun _ ii _ => 5 - (intOf ii).toNat)
      case atStart => exact ⟨0, l4, Nat.zero_le _, rfl, by omega, HLAY, HO, HB, KX, KT, KN⟩
      case round =>
        clear HLAY HO HB KX KT KN
        clear hl4
        obtain ⟨i, l4, hi, rfl, hl4, HLAY, HO, HB, KX, KT, KN⟩ := hrel
        have hzr : w1.heap.size ≤ wr.heap.size := HB.out.size
        by_cases hi4 : i < 4
        case neg =>
          obtain rfl : i = 4 := by omega
          have HLD : Hid ((l4 ++ [10]) ++ codeText P (j + 1) (P.code.drop (j + 1)) = listText P) := Lib.hid (by
            have h := HLAY.out
            rw [List.drop_eq_nil_of_le (by rw [HZIP.out]; exact hk4)] at h
            rw [List.append_assoc]
            exact h)
          have hown : wr.ownsRow w1.heap.size 5 1 u5 l4.length (bcells l4) := HO.out
          clear HLAY KX KN
          go_wp2_with (at_builtin; go_loud (refine wpList_append1 rfl _ _ 32 rfl w1.heap.size 5 (.int .u8 0) 1 Tryd.underlying32 infoB rfl _ _ _ rfl hown wr.heap.size rfl _ rfl rfl ?n1 ?n2 ?n3 ?_))
          case n1 => unfold maxLen; omega
          case n2 => omega
          case n3 => exact hzr
          intro g3 cp w3 hown3 hgr hBg3 hloc
          have e1 : bcells l4 ++ [.int .u8 10] = bcells (l4 ++ [10]) := bcells_app l4 10
          have e2 : (l4 ++ [(10 : UInt8)]).length = l4.length + 1 := by simp
          rw [e1] at hown3
          have HO3 : Hid (OutV w1.heap.size w3 (.slice (some ⟨g3, 0, none⟩) (l4.length + 1) cp) (l4 ++ [10])) := Lib.hid (by unfold OutV; rw [e2]; exact hown3)
          have HB3 := Lib.hid (HB.out.trans (HO.out.grown hgr hzr))
          have KT3 := Lib.hid (HO.out.other hgr KT.out (by decide))
          clear hown hown3 hgr hloc e1 e2 HO HB KT
          go_wp2
          go_roundw
          case rel => exact ⟨j + 1, l4 ++ [10], by omega, by go_num, by simp; omega, HLD, HO3, HB3, KT3⟩
          case measure => simp [intOf]; omega
        have htx := (HTX.out i hi4).out
        obtain ⟨nn, hnn⟩ : ∃ nn, nn = (opnds ((kop : Int), p1, p2, p3, p4)).getD i 0 := ⟨_, rfl⟩
        rw [← hnn] at htx
        have hcn : wr.cell? ⟨nb, i, none⟩ = some (.int .i64 nn) := by
          rw [cell_at KN.out i, hnn]
          rcases (show i = 0 ∨ i = 1 ∨ i = 2 ∨ i = 3 by omega) with rfl | rfl | rfl | rfl <;> rfl
        have hct : wr.cell? ⟨gt, kop * 5 + 1 + i, none⟩ = some (.int .i64 (tabKind kop i : Int)) := by
          rw [cell_at KT.out _]
          exact cellInt_some (table_kind kop hkop i hi4)
        obtain ⟨tk, htk⟩ : ∃ tk, tk = tabKind kop i := ⟨_, rfl⟩
        have htk8 : tk ≤ 8 := by rw [htk]; exact (HKD.out i hi4).2.2
        rw [← htk] at hct htx
        obtain ⟨htx, hnb⟩ := htx
        have hrop := rop_any tk htk8 nn hnb
        have htl := rtext_short tk nn hnb
        have HNX : Hid ((l4 ++ rText tk nn) ++ ((((ks.zip (opnds ((kop : Int), p1, p2, p3, p4))).drop (i + 1)).flatMap fun p => [32] ++ opText p.1.toNat p.2) ++ ([10] ++ codeText P (j + 1) (P.code.drop (j + 1)))) = listText P) := Lib.hid (by
          rw [htx]
          by_cases hik : i < ks.length
          · rw [dif_pos hik]
            have hzl : i < (ks.zip (opnds ((kop : Int), p1, p2, p3, p4))).length := by rw [HZIP.out]; exact hik
            have h := lay_more hzl HLAY
            rw [List.getElem_zip] at h
            have hi4' : i < (opnds ((kop : Int), p1, p2, p3, p4)).length := hi4
            have hgd2 : nn = (opnds ((kop : Int), p1, p2, p3, p4))[i] := by rw [hnn]; simp [List.getD, List.getElem?_eq_getElem hi4']
            rw [hgd2]
            exact h.out
          · rw [dif_neg hik, List.append_nil]
            exact (lay_beyond (by rw [HZIP.out]; omega) HLAY).out)
        have S0 : wr.drew.cell? ⟨xb, 0, none⟩ = some (.int .i64 (kop : Int)) ∧ wr.drew.cell? ⟨gt, kop * 5 + 1 + i, none⟩ = some (.int .i64 (tk : Int)) ∧ wr.drew.cell? ⟨nb, i, none⟩ = some (.int .i64 nn) := ⟨cell_at KX.out 0, hct, hcn⟩
        have hSm : ∀ w' : World, w'.heap[xb]? = wr.heap[xb]? → w'.heap[gt]? = wr.heap[gt]? → w'.heap[nb]? = wr.heap[nb]? → w'.cell? ⟨xb, 0, none⟩ = some (.int .i64 (kop : Int)) ∧ w'.cell? ⟨gt, kop * 5 + 1 + i, none⟩ = some (.int .i64 (tk : Int)) ∧ w'.cell? ⟨nb, i, none⟩ = some (.int .i64 nn) := fun w' h1 h2 h3 => ⟨cell_at (h1.trans KX.out) 0, (World.cell?_of_block h2).trans hct, (World.cell?_of_block h3).trans hcn⟩
        have HSM := Lib.hid hSm
        have HRO := Lib.hid hrop
        have hnl : nb < wr.heap.size := (Array.getElem?_eq_some_iff.1 KN.out).1
        have hxl2 : xb < wr.heap.size := (Array.getElem?_eq_some_iff.1 KX.out).1
        have hgl2 : gt < wr.heap.size := (Array.getElem?_eq_some_iff.1 KT.out).1
        generalize rText tk nn = tx at *
        have hi0 : (0 : Int) ≤ (i : Int) := by omega
        have hi1 : (i : Int) < 4 := by omega
        clear hSm hrop htx hnn htk hcn hct hnb htk8 HLAY
        go_wp2_with fail
        go_region_held3 (fun w' : World => w'.cell? ⟨xb, 0, none⟩ = some (.int .i64 (kop : Int)) ∧ w'.cell? ⟨gt, kop * 5 + 1 + i, none⟩ = some (.int .i64 (tk : Int)) ∧ w'.cell? ⟨nb, i, none⟩ = some (.int .i64 nn)) (with_reducible first | exact S6 | exact S5 | exact S0) (first | (refine step_puts (by rfl) _ _ (by rfl) w1.heap.size _ l4 tx (by rfl) HO5.out _ (by rfl) rfl (by omega) hz5 ?_; intro v6 w6 hO6 hg6; have HO6 := Lib.hid hO6; have HG6 := Lib.hid hg6; have S6 := HSM.out w6 ((HO5.out.other hg6 KX5.out (by decide)).trans KX.out.symm) ((HO5.out.other hg6 KT5.out (by decide)).trans KT.out.symm) ((HO5.out.other hg6 KN5.out (by decide)).trans KN.out.symm)) | (go_at_call 46; refine (HRO.out _).mono ?_; rintro e w5 ⟨rfl, hb5⟩; have HO5 := Lib.hid (OutV.below (w := wr.drew) HO.out hb5); have HB5 := Lib.hid (HB.out.drew.trans (hb5.mono hzr)); have KX5 := Lib.hid ((hb5.block xb hxl2).trans KX.out); have KT5 := Lib.hid ((hb5.block gt hgl2).trans KT.out); have KN5 := Lib.hid ((hb5.block nb hnl).trans KN.out); have hz5 : w1.heap.size ≤ w5.heap.size := HB5.out.size; have S5 := HSM.out w5 (hb5.block xb hxl2) (hb5.block gt hgl2) (hb5.block nb hnl)))
        have hL6 : (l4 ++ tx).length ≤ 1000 * j + 469 + 23 * (i + 1) := by simp; omega
        have HB6 := Lib.hid (HB5.out.trans (HO5.out.grown HG6.out hz5))
        have KX6 := Lib.hid (HO5.out.other HG6.out KX5.out (by decide))
        have KT6 := Lib.hid (HO5.out.other HG6.out KT5.out (by decide))
        have KN6 := Lib.hid (HO5.out.other HG6.out KN5.out (by decide))
        clear S0 S5 S6 HO HB KX KT KN HO5 HB5 KX5 KT5 KN5
        go_wp2
        go_roundw
        case rel => exact ⟨i + 1, l4 ++ tx, by omega, by go_num, hL6, HNX, HO6, HB6, KX6, KT6, KN6⟩
        case measure => simp [intOf]; omega
end Go.Proofs.YtfjiikadnlhekaaDoor
