/-
  What is proved here: winnowlaw15.CodeEncodes answers true. Conditions: the program lies in memory, within the form's reach; the library's table of powers of ten is laid.
-/
import Derived.Test.YtfjiikadnlhekaaDoorKeptI
import Derived.Test.YtfjiikadnlhekaaDoorRList
import Derived.Test.YtfjiikadnlhekaaDoorRNo
namespace Go.Proofs.YtfjiikadnlhekaaDoor
open Go.RowKit

/-- What Encode and List tell, whatever the program. -/
def encS (P : Prg) : List UInt8 := if checkErr P = 0 then encB P else []
def listS (P : Prg) : List UInt8 := if checkErr P = 0 then listText P else []
def EncU (P : Prg) (w : World) (e : Ending) (w' : World) : Prop := ∃ ao cap, e = .returned (.tuple #[.slice ao (encS P).length cap, .int .i64 (checkErr P)]) ∧ Lies w' ao (bcells (encS P)) ∧ Below w.heap.size w w'
def ListU (P : Prg) (w : World) (e : Ending) (w' : World) : Prop := e = .returned (.tuple #[.string (str (listS P)), .int .i64 (checkErr P)]) ∧ Below w.heap.size w w'
theorem encw_of {P : Prg} {w w' : World} {e : Ending} (h0 : checkErr P = 0) (h : EncPost P w e w') : EncU P w e w' := by
  obtain ⟨g, cap, he, ho, hb⟩ := h
  have e1 : encS P = encB P := if_pos h0
  exact ⟨_, cap, by rw [he, e1, h0], by rw [e1]; exact own_cells ho, hb⟩
theorem encw_no {P : Prg} {w w' : World} {e : Ending} (h0 : checkErr P ≠ 0) (h : e = .returned (.tuple #[.slice none 0 0, .int .i64 (checkErr P)]) ∧ Below w.heap.size w w') : EncU P w e w' := by
  have e1 : encS P = [] := if_neg h0
  exact ⟨none, 0, by rw [h.1, e1]; rfl, by rw [e1]; intro i v hv; simp [bcells] at hv, h.2⟩
theorem enc_u (s : Spots) (P : Prg) (w : World) (hP : PAt w s P) : Calls Tryd.prog 13 #[pval s P] w (EncU P w) := by
  by_cases h0 : checkErr P = 0
  · exact (encode_ok s P w hP h0).mono fun e w' h => encw_of h0 h
  · exact (encode_no s P w hP h0).mono fun e w' h => encw_no h0 h
theorem renc_u (s : Spots) (P : Prg) (w : World) (hP : PAt w s P) : Calls Tryd.prog 15 #[pval s P] w (EncU P w) := by
  by_cases h0 : checkErr P = 0
  · exact (rencode_ok s P w hP h0).mono fun e w' h => encw_of h0 h
  · exact (rencode_no s P w hP h0).mono fun e w' h => encw_no h0 h
theorem listw_of {P : Prg} {w w' : World} {e : Ending} (h0 : checkErr P = 0) (h : e = .returned (.tuple #[.string (str (listText P)), .int .i64 0]) ∧ Below w.heap.size w w') : ListU P w e w' := by
  have e1 : listS P = listText P := if_pos h0
  exact ⟨by rw [h.1, e1, h0], h.2⟩
theorem list_no_u {P : Prg} {w w' : World} {e : Ending} (h0 : checkErr P ≠ 0) (h : e = .returned (.tuple #[.string ⟨#[]⟩, .int .i64 (checkErr P)]) ∧ Below w.heap.size w w') : ListU P w e w' := by
  have e1 : listS P = [] := if_neg h0
  exact ⟨by rw [h.1, e1]; rfl, h.2⟩
theorem list_u (s : Spots) (P : Prg) (w : World) (hP : PAt w s P) (hT : Tab w) : Calls Tryd.prog 14 #[pval s P] w (ListU P w) := by
  by_cases h0 : checkErr P = 0
  · exact (list_ok s P w hP h0 hT).mono fun e w' h => listw_of h0 h
  · exact (list_no s P w hP h0).mono fun e w' h => list_no_u h0 h
theorem rlist_u (s : Spots) (P : Prg) (w : World) (hP : PAt w s P) : Calls Tryd.prog 16 #[pval s P] w (ListU P w) := by
  by_cases h0 : checkErr P = 0
  · exact (rlist_ok s P w hP h0).mono fun e w' h => listw_of h0 h
  · exact (rlist_no s P w hP h0).mono fun e w' h => list_no_u h0 h

set_option maxHeartbeats 8000000 in
set_option maxRecDepth 100000 in
theorem encodes_any (s : Spots) (P : Prg) (w : World) (hP : PAt w s P) (hs : Small P) (hT : Tab w) :
    Calls Tryd.prog 3 #[pval s P] w fun e w' => e = .returned (.bool true) ∧ Below w.heap.size w w' := by
  obtain ⟨fA, hbA⟩ := one_block w s P 27
  unfold pcells at fA hbA
  generalize hA : w.alloc (.cells #[.slice s.a0 P.ghost.length s.c0, .slice s.a1 P.vars.length s.c1, .slice s.a2 P.tags.length s.c2, .slice s.a3 P.on.length s.c3, .int .i64 P.miss, .slice s.a4 P.code.length s.c4] 27) = wA at *
  have hzA := hbA.size
  have HP := Lib.hid (hP.below hbA)
  have HT := Lib.hid (hT.below hbA)
  have FA := Lib.hid fA
  have HBA := Lib.hid hbA
  have HS := Lib.hid hs
  have HA := Lib.hid hA
  clear hP hT fA hbA hs hA
  go_enter Tryd.func3, Tryd.ntmps3
  unfold pval
  go_wp2_with fail
  try rw [HA.out]
  refine (known_any wA HT.out).mono ?_
  rintro e w1 ⟨rfl, hb1⟩
  have HB1 := Lib.hid hb1
  have hz1 : wA.heap.size ≤ w1.heap.size := hb1.size
  have y5 := (FA.out.below hb1).f5
  clear hb1
  by_cases hc : P.code.length ≤ 524288
  case neg =>
    have hg : decide (((P.code.length : Nat) : Int) > 524288) = true := by simp; omega
    go_wp2
    go_ret
    exact ⟨rfl, HBA.out.trans (HB1.out.mono hzA)⟩
  have hg : decide (((P.code.length : Nat) : Int) > 524288) = false := by simp; omega
  have x0 := (FA.out.below HB1.out).f0
  have x1 := (FA.out.below HB1.out).f1
  have x2 := (FA.out.below HB1.out).f2
  have x3 := (FA.out.below HB1.out).f3
  have x4 := (FA.out.below HB1.out).f4
  have hle := lend_any s P w1 (HP.out.below HB1.out) HS.out hc
  unfold pval at hle
  go_wp2_with fail
  refine hle.mono ?_
  rintro e w2 ⟨r, g, rfl, hr4, hrc4, hP2, hg2, hb2⟩
  have HB2 := Lib.hid (HB1.out.trans (hb2.mono hz1))
  have hz2 : wA.heap.size ≤ w2.heap.size := HB2.out.size
  have b3 := (Below.refl w2.heap.size w2).alloc (Nat.le_refl _) (.cells #[.slice r.a0 P.ghost.length r.c0, .slice r.a1 P.vars.length r.c1, .slice r.a2 P.tags.length r.c2, .slice r.a3 P.on.length r.c3, .int .i64 P.miss, .slice r.a4 P.code.length r.c4] 27)
  have HQ : Hid ((w2.alloc (.cells #[.slice r.a0 P.ghost.length r.c0, .slice r.a1 P.vars.length r.c1, .slice r.a2 P.tags.length r.c2, .slice r.a3 P.on.length r.c3, .int .i64 P.miss, .slice r.a4 P.code.length r.c4] 27)).heap[w2.heap.size]? = some (.cells #[.slice r.a0 P.ghost.length r.c0, .slice r.a1 P.vars.length r.c1, .slice r.a2 P.tags.length r.c2, .slice r.a3 P.on.length r.c3, .int .i64 P.miss, .slice r.a4 P.code.length r.c4] 27 (0, 0))) := Lib.hid (MapKept.heap_alloc w2 _).1
  have HR3 := Lib.hid (hP2.below b3)
  have HG3 := Lib.hid (hg2.below b3)
  have HB3 := Lib.hid (HB2.out.trans (b3.mono hz2))
  have HR4 := Lib.hid hr4
  have HRC4 := Lib.hid hrc4
  clear hle hb2 hP2 hg2 b3 hr4 hrc4 x0 x1 x2 x3 x4 y5
  unfold pval
  have q0 := cell_at HQ.out 0
  have q1 := cell_at HQ.out 1
  have q2 := cell_at HQ.out 2
  have q3 := cell_at HQ.out 3
  have q4 := cell_at HQ.out 4
  have q5 := cell_at HQ.out 5
  go_wp2_with fail
  generalize w2.alloc (.cells #[.slice r.a0 P.ghost.length r.c0, .slice r.a1 P.vars.length r.c1, .slice r.a2 P.tags.length r.c2, .slice r.a3 P.on.length r.c3, .int .i64 P.miss, .slice r.a4 P.code.length r.c4] 27) = w3 at *
  generalize w2.heap.size = qb at *
  have hqb : qb < w3.heap.size := (Array.getElem?_eq_some_iff.1 HQ.out).1
  have hz3 : wA.heap.size ≤ w3.heap.size := HB3.out.size
  have hck := check_any r P w3 HR3.out
  have hen := fun wz hz => enc_u r P wz hz
  have hli := fun wz hz ht => list_u r P wz hz ht
  have hre := fun wz hz => renc_u s P wz hz
  have hrl := fun wz hz => rlist_u s P wz hz
  have hrc := fun wz hz => rcheck_any s P wz hz
  unfold EncU at hen hre
  unfold ListU at hli hrl
  unfold pval at hck hen hli hre hrl hrc
  have hke := fun wz h1 h2 h3 => kept_any r s P g wz HR4.out HRC4.out h1 h2 h3 hc
  unfold pval at hke
  generalize checkErr P = E at *
  generalize encS P = X at *
  generalize listS P = L at *
  have HEN := Lib.hid hen
  have HLI := Lib.hid hli
  have HRE := Lib.hid hre
  have HRL := Lib.hid hrl
  have HRC := Lib.hid hrc
  have HKE := Lib.hid hke
  clear hen hli hre hrl hrc hke
  -- Check
  refine hck.mono ?_
  rintro e w4 ⟨rfl, hb4⟩
  have HB34 := Lib.hid hb4
  have hz4 : w3.heap.size ≤ w4.heap.size := hb4.size
  have k4 := Lib.hid ((hb4.block qb hqb).trans HQ.out)
  clear q0 q1 q2 q3 q4 q5 hck hb4
  have q0 := cell_at k4.out 0
  have q1 := cell_at k4.out 1
  have q2 := cell_at k4.out 2
  have q3 := cell_at k4.out 3
  have q4 := cell_at k4.out 4
  have q5 := cell_at k4.out 5
  go_wp2_with fail
  -- Encode
  refine (HEN.out _ (HR3.out.below HB34.out)).mono ?_
  rintro e w5 ⟨ao, ca, rfl, hL5, hb5⟩
  have HB35 := Lib.hid (HB34.out.trans (hb5.mono hz4))
  have HL5 := Lib.hid hL5
  have hz5 : w3.heap.size ≤ w5.heap.size := HB35.out.size
  have k5 := Lib.hid ((HB35.out.block qb hqb).trans HQ.out)
  clear q0 q1 q2 q3 q4 q5 hb5 hL5 k4
  have q0 := cell_at k5.out 0
  have q1 := cell_at k5.out 1
  have q2 := cell_at k5.out 2
  have q3 := cell_at k5.out 3
  have q4 := cell_at k5.out 4
  have q5 := cell_at k5.out 5
  go_wp2_with fail
  -- List
  refine (HLI.out _ (HR3.out.below HB35.out) (HT.out.below (HB3.out.trans (HB35.out.mono hz3)))).mono ?_
  rintro e w6 ⟨rfl, hb6⟩
  have HB36 := Lib.hid (HB35.out.trans (hb6.mono hz5))
  have HL6 := Lib.hid (HL5.out.below hb6)
  have hz6 : w3.heap.size ≤ w6.heap.size := HB36.out.size
  have HBA6 := Lib.hid (HB3.out.trans (HB36.out.mono hz3))
  clear q0 q1 q2 q3 q4 q5 hb6 k5 HL5
  have x0 := (FA.out.below HBA6.out).f0
  have x1 := (FA.out.below HBA6.out).f1
  have x2 := (FA.out.below HBA6.out).f2
  have x3 := (FA.out.below HBA6.out).f3
  have x4 := (FA.out.below HBA6.out).f4
  have x5 := (FA.out.below HBA6.out).f5
  go_wp2_with fail
  -- the reference's Encode
  refine (HRE.out _ (HP.out.below HBA6.out)).mono ?_
  rintro e w7 ⟨bo, cb, rfl, hL7, hb7⟩
  have HB37 := Lib.hid (HB36.out.trans (hb7.mono hz6))
  have HL7 := Lib.hid (HL6.out.below hb7)
  have HM7 := Lib.hid hL7
  have hz7 : w3.heap.size ≤ w7.heap.size := HB37.out.size
  have HBA7 := Lib.hid (HB3.out.trans (HB37.out.mono hz3))
  clear x0 x1 x2 x3 x4 x5 hb7 hL7 HL6
  have x0 := (FA.out.below HBA7.out).f0
  have x1 := (FA.out.below HBA7.out).f1
  have x2 := (FA.out.below HBA7.out).f2
  have x3 := (FA.out.below HBA7.out).f3
  have x4 := (FA.out.below HBA7.out).f4
  have x5 := (FA.out.below HBA7.out).f5
  go_wp2_with fail
  -- the reference's List
  refine (HRL.out _ (HP.out.below HBA7.out)).mono ?_
  rintro e w8 ⟨rfl, hb8⟩
  have HB38 := Lib.hid (HB37.out.trans (hb8.mono hz7))
  have HL8 := Lib.hid (HL7.out.below hb8)
  have HM8 := Lib.hid (HM7.out.below hb8)
  have hz8 : w3.heap.size ≤ w8.heap.size := HB38.out.size
  have HBA8 := Lib.hid (HB3.out.trans (HB38.out.mono hz3))
  clear x0 x1 x2 x3 x4 x5 hb8 HL7 HM7
  have x0 := (FA.out.below HBA8.out).f0
  have x1 := (FA.out.below HBA8.out).f1
  have x2 := (FA.out.below HBA8.out).f2
  have x3 := (FA.out.below HBA8.out).f3
  have x4 := (FA.out.below HBA8.out).f4
  have x5 := (FA.out.below HBA8.out).f5
  go_wp2_with fail
  -- the reference's Check
  refine (HRC.out _ (HP.out.below HBA8.out)).mono ?_
  rintro e w9 ⟨rfl, hb9⟩
  have HB39 := Lib.hid (HB38.out.trans (hb9.mono hz8))
  have hv1 := convert_str (cap := ca) (HL8.out.below hb9)
  have hv2 := convert_str (cap := cb) (HM8.out.below hb9)
  have hz9 : w3.heap.size ≤ w9.heap.size := HB39.out.size
  have HBA9 := Lib.hid (HB3.out.trans (HB39.out.mono hz3))
  have k9 := Lib.hid ((HB39.out.block qb hqb).trans HQ.out)
  clear x0 x1 x2 x3 x4 x5 hb9 HL8 HM8
  have x0 := (FA.out.below HBA9.out).f0
  have x1 := (FA.out.below HBA9.out).f1
  have x2 := (FA.out.below HBA9.out).f2
  have x3 := (FA.out.below HBA9.out).f3
  have x4 := (FA.out.below HBA9.out).f4
  have x5 := (FA.out.below HBA9.out).f5
  have q0 := cell_at k9.out 0
  have q1 := cell_at k9.out 1
  have q2 := cell_at k9.out 2
  have q3 := cell_at k9.out 3
  have q4 := cell_at k9.out 4
  have q5 := cell_at k9.out 5
  go_wp2_with fail
  refine (HKE.out _ (HR3.out.below HB39.out) (HG3.out.below HB39.out) (HP.out.below HBA9.out)).mono ?_
  rintro e w10 ⟨rfl, hb10⟩
  have HF := Lib.hid (HBA.out.trans ((HBA9.out.trans (hb10.mono (Nat.le_trans hz3 hz9))).mono hzA))
  clear hb10 x0 x1 x2 x3 x4 x5 q0 q1 q2 q3 q4 q5 hv1 hv2
  go_wp2
  go_ret
  exact ⟨rfl, HF.out⟩
end Go.Proofs.YtfjiikadnlhekaaDoor
