/-
  What is proved here: winnowlaw15.CodeUnlike answers true. Conditions: the programs lie in memory; the library's table of powers of ten is laid.
-/
import Derived.Test.YtfjiikadnlhekaaDoorKnown
import Derived.Test.YtfjiikadnlhekaaDoorPlain2
import Derived.BigQuiet
namespace Go.Proofs.YtfjiikadnlhekaaDoor
open Go.RowKit

theorem prgEq_iff (P Q : Prg) : prgEq P Q = true ↔ P = Q := by
  constructor
  · intro h
    simp only [prgEq, Bool.and_eq_true, beq_iff_eq] at h
    obtain ⟨h1, h2, h3, h4, h5, h6⟩ := h
    cases P; cases Q; simp_all
  · rintro rfl; exact prgEq_self P
theorem str_inj {a b : List UInt8} (h : str a = str b) : a = b := by
  unfold str at h
  have h1 := congrArg (fun x : ByteArray => x.data.toList) h
  simpa using h1
theorem str_beq {I : BEq (List UInt8)} [LawfulBEq (List UInt8)] (a b : List UInt8) : ((str a).toList == (str b).toList) = decide (a = b) := by
  by_cases h : a = b
  · subst h; simp
  · have h2 : ¬ (str a).toList = (str b).toList := fun e => h (by rw [ByteArray.toList_eq, ByteArray.toList_eq] at e; simpa [str] using e)
    rw [decide_eq_false h]
    exact beq_eq_false_iff_ne.2 h2
/-- Two forms are one just when the programs are. -/
theorem forms_eq (P Q : Prg) (hP : checkErr P = 0) (hQ : checkErr Q = 0) : (encB P = encB Q) ↔ prgEq P Q = true :=
  ⟨fun h => (prgEq_iff P Q).2 (enc_inj P Q hP hQ h), fun h => by rw [(prgEq_iff P Q).1 h]⟩
/-- No form stands ahead of another. -/
theorem forms_front (P Q : Prg) (hP : checkErr P = 0) (hQ : checkErr Q = 0) (h : (encB P).length < (encB Q).length) : (encB Q).take (encB P).length ≠ encB P := by
  intro e
  have h1 := enc_front P Q hP hQ ((encB Q).drop (encB P).length) (by conv => lhs; rw [← List.take_append_drop (encB P).length (encB Q)]; rw [e])
  have h2 := congrArg List.length h1
  simp at h2
  omega
theorem Lies.take {w : World} {ao : Option Addr} {bs : List UInt8} (h : Lies w ao (bcells bs)) (n : Nat) : Lies w ao (bcells (bs.take n)) := by
  intro i v hv
  refine h i v ?_
  unfold bcells at hv ⊢
  rw [List.getElem?_map, List.getElem?_take] at hv
  rw [List.getElem?_map]
  split at hv
  · exact hv
  · cases hv

set_option maxHeartbeats 8000000 in
set_option maxRecDepth 100000 in
theorem unlike_any (s : Spots) (P : Prg) (r : Spots) (Q : Prg) (w : World) (hP : PAt w s P) (_hsP : Small P) (hQ : PAt w r Q) (_hsQ : Small Q) (hT : Tab w) :
    Calls Tryd.prog 7 #[pval s P, pval r Q] w fun e w' => e = .returned (.bool true) ∧ Below w.heap.size w w' := by
  obtain ⟨fA, fB, hbA⟩ := two_blocks w s r P Q 27
  unfold pcells at fA fB hbA
  generalize hA : (w.alloc (.cells #[.slice s.a0 P.ghost.length s.c0, .slice s.a1 P.vars.length s.c1, .slice s.a2 P.tags.length s.c2, .slice s.a3 P.on.length s.c3, .int .i64 P.miss, .slice s.a4 P.code.length s.c4] 27)).alloc (.cells #[.slice r.a0 Q.ghost.length r.c0, .slice r.a1 Q.vars.length r.c1, .slice r.a2 Q.tags.length r.c2, .slice r.a3 Q.on.length r.c3, .int .i64 Q.miss, .slice r.a4 Q.code.length r.c4] 27) = wA at fA fB hbA
  have hzA := hbA.size
  have HP := Lib.hid (hP.below hbA)
  have HQ := Lib.hid (hQ.below hbA)
  have HT := Lib.hid (hT.below hbA)
  have FA := Lib.hid fA
  have FB := Lib.hid fB
  have HBA := Lib.hid hbA
  clear hP hQ hT fA fB hbA
  go_enter Tryd.func7, Tryd.ntmps7
  unfold pval
  go_wp2_with fail
  try rw [hA]
  refine (known_any wA HT.out).mono ?_
  rintro e w1 ⟨rfl, hb⟩
  have h01 : Hid (Below w.heap.size w w1) := Lib.hid (HBA.out.trans (hb.mono hzA))
  have HP1 := Lib.hid (HP.out.below hb)
  have HQ1 := Lib.hid (HQ.out.below hb)
  have FA1 := Lib.hid (FA.out.below hb)
  have FB1 := Lib.hid (FB.out.below hb)
  have hz1 := hb.size
  have a0 := FA1.out.f0
  have a1 := FA1.out.f1
  have a2 := FA1.out.f2
  have a3 := FA1.out.f3
  have a4 := FA1.out.f4
  have a5 := FA1.out.f5
  have b5 := FB1.out.f5
  clear hb HP HQ FA FB HT HBA hA
  have hen := fun h => encode_ok s P w1 HP1.out h
  have hno := fun h => encode_no s P w1 HP1.out h
  unfold pval EncPost at hen
  unfold pval at hno
  by_cases hc : P.code.length ≤ 524288
  case neg =>
    have hg : decide (((P.code.length : Nat) : Int) > 524288) = true := by simp; omega
    go_wp2
    go_ret
    exact ⟨rfl, h01.out⟩
  have hg : decide (((P.code.length : Nat) : Int) > 524288) = false := by simp; omega
  by_cases hd : Q.code.length ≤ 524288
  case neg =>
    have hg2 : decide (((Q.code.length : Nat) : Int) > 524288) = true := by simp; omega
    go_wp2
    go_ret
    exact ⟨rfl, h01.out⟩
  have hg2 : decide (((Q.code.length : Nat) : Int) > 524288) = false := by simp; omega
  have goB : ∀ (w2 : World) (hb2 : Below w1.heap.size w1 w2), w2.cell? ⟨w.heap.size + 1, 0, none⟩ = some (.slice r.a0 Q.ghost.length r.c0) ∧ w2.cell? ⟨w.heap.size + 1, 1, none⟩ = some (.slice r.a1 Q.vars.length r.c1) ∧ w2.cell? ⟨w.heap.size + 1, 2, none⟩ = some (.slice r.a2 Q.tags.length r.c2) ∧ w2.cell? ⟨w.heap.size + 1, 3, none⟩ = some (.slice r.a3 Q.on.length r.c3) ∧ w2.cell? ⟨w.heap.size + 1, 4, none⟩ = some (.int .i64 Q.miss) ∧ w2.cell? ⟨w.heap.size + 1, 5, none⟩ = some (.slice r.a4 Q.code.length r.c4) := fun w2 hb2 => by
    have f := FB1.out.below hb2
    exact ⟨f.f0, f.f1, f.f2, f.f3, f.f4, f.f5⟩
  go_wp2_with fail
  by_cases hp : checkErr P = 0
  · refine (hen hp).mono ?_
    rintro e w2 ⟨g1, c1, rfl, hown, hb2⟩
    have HB2 := Lib.hid hb2
    have hz2 := hb2.size
    have HQ2 := Lib.hid (HQ1.out.below hb2)
    have HL1 := Lib.hid (own_cells hown)
    obtain ⟨b0, b1, b2, b3, b4, b5⟩ := goB w2 hb2
    have hen2 := fun h => encode_ok r Q w2 HQ2.out h
    have hno2 := fun h => encode_no r Q w2 HQ2.out h
    unfold pval EncPost at hen2
    unfold pval at hno2
    clear hown hb2 hen hno a0 a1 a2 a3 a4 a5
    go_wp2_with fail
    by_cases hq : checkErr Q = 0
    · refine (hen2 hq).mono ?_
      rintro e w3 ⟨g2, c2, rfl, hown, hb3⟩
      have h13 : Hid (Below w1.heap.size w1 w3) := Lib.hid (HB2.out.trans (hb3.mono hz2))
      have h03 : Hid (Below w.heap.size w w3) := Lib.hid (h01.out.trans (h13.out.mono (by have := h01.out.size; omega)))
      have HL3 := Lib.hid (HL1.out.below hb3)
      have HM3 := Lib.hid (own_cells hown)
      have HP3 := Lib.hid (HP1.out.below h13.out)
      have HQ3 := Lib.hid (HQ1.out.below h13.out)
      have fA := FA1.out.below h13.out
      have fB := FB1.out.below h13.out
      have a0 := fA.f0
      have a1 := fA.f1
      have a2 := fA.f2
      have a3 := fA.f3
      have a4 := fA.f4
      have a5 := fA.f5
      have d0 := fB.f0
      have d1 := fB.f1
      have d2 := fB.f2
      have d3 := fB.f3
      have d4 := fB.f4
      have d5 := fB.f5
      have HE := Lib.hid (forms_eq P Q hp hq)
      have HF := Lib.hid (forms_front P Q hp hq)
      have hcap : (encB Q).length ≤ c2 := by
        obtain ⟨_, ⟨h, _⟩ | ⟨g, cap, cur, h1, _, _, h4, _⟩⟩ := hown
        · cases h
        · cases h1; exact h4
      clear hown hb3 hen2 hno2 b0 b1 b2 b3 b4 b5 fA fB goB
      generalize encB P = x at *
      generalize encB Q = y at *
      have hx := convert_str (cap := c1) HL3.out
      have hy := convert_str (cap := c2) HM3.out
      have hbn := fun n => below_drewN (Below.refl w3.heap.size w3) n
      have hxn := fun n => convert_str (cap := c1) (HL3.out.below (hbn n))
      have hsa := fun n => same_any s r P Q (w3.drewN n) (HP3.out.below (hbn n)) (HQ3.out.below (hbn n))
      unfold pval at hsa
      go_wp2_with fail
      simp only [str_beq]
      have HS : Hid (decide (x = y) = prgEq P Q) := Lib.hid (by
        have h := HE.out
        cases hpq : prgEq P Q
        · rw [hpq] at h; simp at h; simp [h]
        · rw [hpq] at h; simp at h; simp [h])
      generalize decide (x = y) = sm at *
      by_cases hlt : x.length < y.length
      · have hl : decide (((x.length : Nat) : Int) < ((y.length : Nat) : Int)) = true := by simp; exact hlt
        have hcx : x.length ≤ c2 := by omega
        have hyn := fun n => convert_str (cap := c2) ((HM3.out.take x.length).below (hbn n))
        have htl : (y.take x.length).length = x.length := by rw [List.length_take]; omega
        rw [htl] at hyn
        have hfr : ((str (y.take x.length)).toList == (str x).toList) = false := by rw [str_beq]; simp; exact HF.out hlt
        clear hx hy
        generalize y.take x.length = yt at *
        go_quiet (fail)
        go_wp2_with fail
        refine (hsa _).mono ?_
        rintro e w4 ⟨rfl, hb4⟩
        have h04 : Hid (Below w.heap.size w w4) := Lib.hid (h03.out.trans (((hbn nq).trans (hb4.mono (by simp))).mono (by have := h03.out.size; omega)))
        have HSS := HS.out
        generalize prgEq P Q = same at *
        subst HSS
        clear hsa
        go_wp2
        go_ret
        exact ⟨by simp, h04.out⟩
      · have hl : decide (((x.length : Nat) : Int) < ((y.length : Nat) : Int)) = false := by simp; omega
        clear hx hy
        go_quiet (fail)
        go_wp2_with fail
        refine (hsa _).mono ?_
        rintro e w4 ⟨rfl, hb4⟩
        have h04 : Hid (Below w.heap.size w w4) := Lib.hid (h03.out.trans (((hbn nq).trans (hb4.mono (by simp))).mono (by have := h03.out.size; omega)))
        have HSS := HS.out
        generalize prgEq P Q = same at *
        subst HSS
        clear hsa
        go_wp2
        go_ret
        exact ⟨by simp, h04.out⟩
    · refine (hno2 hq).mono ?_
      rintro e w3 ⟨rfl, hb3⟩
      have hne : decide (checkErr Q ≠ 0) = true := by simpa using hq
      have hne2 : (checkErr Q != 0) = true := by simpa using hq
      have h03 : Hid (Below w.heap.size w w3) := Lib.hid (h01.out.trans ((HB2.out.trans (hb3.mono hz2)).mono (by have := h01.out.size; omega)))
      clear hen2 hno2
      generalize checkErr Q = eq at *
      go_wp2
      go_ret
      exact ⟨rfl, h03.out⟩
  · refine (hno hp).mono ?_
    rintro e w2 ⟨rfl, hb2⟩
    have HB2 := Lib.hid hb2
    have hz2 := hb2.size
    have HQ2 := Lib.hid (HQ1.out.below hb2)
    obtain ⟨b0, b1, b2, b3, b4, b5⟩ := goB w2 hb2
    have hne : decide (checkErr P ≠ 0) = true := by simpa using hp
    have hne2 : (checkErr P != 0) = true := by simpa using hp
    have hen2 := fun h => encode_ok r Q w2 HQ2.out h
    have hno2 := fun h => encode_no r Q w2 HQ2.out h
    unfold pval EncPost at hen2
    unfold pval at hno2
    clear hb2 hen hno a0 a1 a2 a3 a4 a5
    generalize checkErr P = ep at *
    go_wp2_with fail
    by_cases hq : checkErr Q = 0
    · refine (hen2 hq).mono ?_
      rintro e w3 ⟨g2, c2, rfl, hown, hb3⟩
      have h03 : Hid (Below w.heap.size w w3) := Lib.hid (h01.out.trans ((HB2.out.trans (hb3.mono hz2)).mono (by have := h01.out.size; omega)))
      clear hen2 hno2 hown hb3
      go_wp2
      go_ret
      exact ⟨rfl, h03.out⟩
    · refine (hno2 hq).mono ?_
      rintro e w3 ⟨rfl, hb3⟩
      have h03 : Hid (Below w.heap.size w w3) := Lib.hid (h01.out.trans ((HB2.out.trans (hb3.mono hz2)).mono (by have := h01.out.size; omega)))
      clear hen2 hno2 hb3
      generalize checkErr Q = eq at *
      go_wp2
      go_ret
      exact ⟨rfl, h03.out⟩
end Go.Proofs.YtfjiikadnlhekaaDoor
