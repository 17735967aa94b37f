/-
  What is proved here: winnowlaw15.CodeDecodes answers true. Conditions: the bytes lie in memory; the library's table of powers of ten is laid.
-/
import Derived.Test.YtfjiikadnlhekaaDoorRDec
import Derived.Test.YtfjiikadnlhekaaDoorLawBack
import Derived.Test.YtfjiikadnlhekaaDoorLendB
import Derived.Test.YtfjiikadnlhekaaDoorKept
namespace Go.Proofs.YtfjiikadnlhekaaDoor
open Go.RowKit

/-- What a reading tells: a program and no fault, or none and a fault. -/
def decR (bs : List UInt8) : Prg × Int × Int := match decode bs with
  | .ok P => (P, 0, 0)
  | .error (c, k) => (noPrg, c, (k : Int))
theorem no_lies (w : World) : ∀ xs : List Value, xs = [] → Lies w none xs := fun xs h i v hv => by rw [h] at hv; simp at hv
theorem no_at (w : World) : PAt w noSpots noPrg := ⟨no_lies w _ rfl, no_lies w _ rfl, no_lies w _ rfl, no_lies w _ rfl, no_lies w _ rfl, by decide, by decide, by decide, by decide, by decide, fun _ => rfl, fun _ => rfl, fun _ => rfl, fun _ => rfl, fun _ => rfl⟩
theorem dec_u {w w' : World} {bs : List UInt8} {e : Ending} (h : DecPost w bs e w') : ∃ s, e = .returned (.tuple #[pval s (decR bs).1, .agg #[.int .i64 (decR bs).2.1, .int .i64 (decR bs).2.2]]) ∧ PAt w' s (decR bs).1 ∧ Below w.heap.size w w' := by
  rcases h with ⟨P, s, hd, he, hO, hb⟩ | ⟨c, k, hd, he, hb⟩
  · have e1 : decR bs = (P, 0, 0) := by unfold decR; rw [hd]
    exact ⟨s, by rw [he, e1], by rw [e1]; exact hO.at, hb⟩
  · have e1 : decR bs = (noPrg, c, (k : Int)) := by unfold decR; rw [hd]
    exact ⟨noSpots, by rw [he, e1], by rw [e1]; exact no_at w', hb⟩
theorem lent_lies {w : World} {g : Nat} {bs : List UInt8} (h : LentB w g bs) : Lies w (some ⟨g, 0, none⟩) (bcells (bs ++ [201, 201, 201, 201, 201])) := by
  intro i v hv
  refine ⟨⟨g, 0, none⟩, rfl, ?_⟩
  have e : (⟨g, 0, none⟩ : Addr).add i = ⟨g, i, none⟩ := by unfold Addr.add; split <;> simp_all
  rw [e, cell_at h i]
  have e2 : bcells bs ++ List.replicate 5 (Value.int .u8 201) = bcells (bs ++ [201, 201, 201, 201, 201]) := by simp [bcells, List.replicate]
  rw [e2]
  simpa using hv
theorem lent_lies2 {w : World} {g : Nat} {bs : List UInt8} (h : LentB w g bs) : Lies w (some ⟨g, 0, none⟩) (bcells bs) := fun i v hv => lent_lies h i v (by
  unfold bcells at hv ⊢
  rw [List.map_append, List.getElem?_append_left (by exact (List.getElem?_eq_some_iff.1 hv).1)]
  exact hv)
theorem LentB.below {w w' : World} {g : Nat} {bs : List UInt8} (h : LentB w g bs) (hb : Below w.heap.size w w') : LentB w' g bs := (hb.block g (Array.getElem?_eq_some_iff.1 h).1).trans h

set_option maxHeartbeats 8000000 in
set_option maxRecDepth 100000 in
theorem decodes_any (ao : Option Addr) (ca : Nat) (bs : List UInt8) (w : World) (hL : Lies w ao (bcells bs)) (hao : ∀ a, ao = some a → a.block < w.heap.size) (hT : Tab w) :
    Calls Tryd.prog 4 #[.slice ao bs.length ca] w fun e w' => e = .returned (.bool true) ∧ Below w.heap.size w w' := by
  have HL := Lib.hid hL
  have HT := Lib.hid hT
  have HA := Lib.hid hao
  clear hL hT hao
  go_enter Tryd.func4, Tryd.ntmps4
  go_wp2_with fail
  refine (known_any w HT.out).mono ?_
  rintro e w1 ⟨rfl, hb1⟩
  have HB1 := Lib.hid hb1
  have hz1 := hb1.size
  clear hb1
  by_cases hc : bs.length ≤ 524288
  case neg =>
    have hg : decide (((bs.length : Nat) : Int) > 524288) = true := by simp; omega
    go_wp2
    go_ret
    exact ⟨rfl, HB1.out⟩
  have hg : decide (((bs.length : Nat) : Int) > 524288) = false := by simp; omega
  go_wp2_with fail
  refine (lend_bytes ao ca bs w1 (HL.out.below HB1.out) (by omega)).mono ?_
  rintro e w2 ⟨g, rfl, hlent, _, hb2⟩
  have HLN := Lib.hid hlent
  have HB2 := Lib.hid (HB1.out.trans (hb2.mono hz1))
  have hz2 := HB2.out.size
  have hg2 : g < w2.heap.size := (Array.getElem?_eq_some_iff.1 hlent).1
  clear hlent hb2
  go_wp2_with fail
  refine (decode_any (some ⟨g, 0, none⟩) (bs.length + 5) bs w2 (lent_lies2 HLN.out) (by omega) (fun a ha => by cases ha; exact hg2)).mono ?_
  rintro e w3 hdp
  obtain ⟨s, rfl, hP3, hb3⟩ := dec_u hdp
  clear hdp
  generalize hR : decR bs = R at *
  obtain ⟨P, c, k⟩ := R
  have HR := Lib.hid hR
  dsimp only at hP3 ⊢
  have hz3 := hb3.size
  have HB3 := Lib.hid (HB2.out.trans (hb3.mono hz2))
  have HL3 := Lib.hid (HLN.out.below hb3)
  obtain ⟨j1, j2, j3, j4⟩ := two_new2 w3 #[.slice s.a0 P.ghost.length s.c0, .slice s.a1 P.vars.length s.c1, .slice s.a2 P.tags.length s.c2, .slice s.a3 P.on.length s.c3, .int .i64 P.miss, .slice s.a4 P.code.length s.c4] #[.int .i64 c, .int .i64 k] 27 46
  have J1 := Lib.hid j1
  have J2 := Lib.hid j2
  have J3 := Lib.hid j3
  have J4 := Lib.hid j4
  have HP3 := Lib.hid (hP3.below j3)
  have HL4 := Lib.hid (HL3.out.below j3)
  have hz03 : w.heap.size ≤ w3.heap.size := HB3.out.size
  have HB4 := Lib.hid (HB3.out.trans (j3.mono hz03))
  clear hb3 hP3 j1 j2 j3 j4 HLN HL3 hR
  unfold pval
  go_wp2_with fail
  generalize (w3.alloc (.cells #[.slice s.a0 P.ghost.length s.c0, .slice s.a1 P.vars.length s.c1, .slice s.a2 P.tags.length s.c2, .slice s.a3 P.on.length s.c3, .int .i64 P.miss, .slice s.a4 P.code.length s.c4] 27)).alloc (.cells #[.int .i64 c, .int .i64 k] 46) = w4 at *
  have hz4 := HB4.out.size
  refine (rdecode_any ao ca bs w4 (HL.out.below HB4.out) (by omega) (fun a ha => by have := HA.out a ha; omega)).mono ?_
  rintro e w5 hdp
  obtain ⟨t, rfl, hP5, hb5⟩ := dec_u hdp
  clear hdp
  rw [HR.out] at hP5 ⊢
  dsimp only at hP5 ⊢
  have hz5 := hb5.size
  have hz34 := J4.out
  obtain ⟨j1, j2, j3, j4⟩ := two_new2 w5 #[.slice t.a0 P.ghost.length t.c0, .slice t.a1 P.vars.length t.c1, .slice t.a2 P.tags.length t.c2, .slice t.a3 P.on.length t.c3, .int .i64 P.miss, .slice t.a4 P.code.length t.c4] #[.int .i64 c, .int .i64 k] 27 46
  have hb6 := hb5.trans (j3.mono hz5)
  have k1 := (hb6.block w3.heap.size (by omega)).trans J1.out
  have k2 := (hb6.block (w3.heap.size + 1) (by omega)).trans J2.out
  have HP6 := Lib.hid (HP3.out.below hb6)
  have HQ6 := Lib.hid (hP5.below j3)
  have HL6 := Lib.hid (HL4.out.below hb6)
  have HB6 := Lib.hid (HB4.out.trans (hb6.mono hz4))
  have a0 := cell_at k1 0
  have a1 := cell_at k1 1
  have a2 := cell_at k1 2
  have a3 := cell_at k1 3
  have a4 := cell_at k1 4
  have a5 := cell_at k1 5
  have b0 := cell_at k2 0
  have b1 := cell_at k2 1
  have f0 := cell_at j1 0
  have f1 := cell_at j1 1
  have f2 := cell_at j1 2
  have f3 := cell_at j1 3
  have f4 := cell_at j1 4
  have f5 := cell_at j1 5
  have v0 := cell_at j2 0
  have v1 := cell_at j2 1
  have heq : ∀ (c k : Int) (w : World), (binOp .eql 46 (.agg #[.int .i64 c, .int .i64 k]) (.agg #[.int .i64 c, .int .i64 k])).run Tryd.prog w = .ok (.bool true) w := by
    intro c k w
    go_simp
  have J6 := Lib.hid j4
  clear hb5 hP5 hb6 k1 k2 j1 j2 j3 j4 hz34 J1 J2 J3 J4 HP3 HL4
  unfold pval
  go_wp2_with fail
  generalize (w5.alloc (.cells #[.slice t.a0 P.ghost.length t.c0, .slice t.a1 P.vars.length t.c1, .slice t.a2 P.tags.length t.c2, .slice t.a3 P.on.length t.c3, .int .i64 P.miss, .slice t.a4 P.code.length t.c4] 27)).alloc (.cells #[.int .i64 c, .int .i64 k] 46) = w6 at *
  have hrs := rsame_any s t P P w6 HP6.out HQ6.out
  rw [prgEq_self] at hrs
  unfold pval at hrs
  refine hrs.mono ?_
  rintro e w7 ⟨rfl, hb7⟩
  have HL7 := Lib.hid (HL6.out.below hb7)
  have hz6 := HB6.out.size
  have HB7 := Lib.hid (HB6.out.trans (hb7.mono hz6))
  clear hrs hb7 a0 a1 a2 a3 a4 a5 b0 b1 f0 f1 f2 f3 f4 f5 v0 v1
  go_wp2_with fail
  refine (kept_bytes g ao ca bs w7 (lent_lies HL7.out) (HL.out.below HB7.out) (by omega)).mono ?_
  rintro e w8 ⟨rfl, rfl⟩
  go_wp2
  go_ret
  exact ⟨rfl, HB7.out⟩
end Go.Proofs.YtfjiikadnlhekaaDoor
