/-
  What is proved here: winnowlaw15.CodeOther answers true. Conditions: the bytes lie in memory; the library's table of powers of ten is laid.
-/
import Derived.Test.YtfjiikadnlhekaaDoorKnown
import Derived.Test.YtfjiikadnlhekaaDoorPlain2
import Derived.Test.YtfjiikadnlhekaaDoorRSame
namespace Go.Proofs.YtfjiikadnlhekaaDoor
open Go.RowKit

theorem two_new2 (w : World) (c1 c2 : Array Value) (t1 t2 : TypeId) :
    ((w.alloc (.cells c1 t1)).alloc (.cells c2 t2)).heap[w.heap.size]? = some (.cells c1 t1 (0, 0)) ∧ ((w.alloc (.cells c1 t1)).alloc (.cells c2 t2)).heap[w.heap.size + 1]? = some (.cells c2 t2 (0, 0)) ∧ Below w.heap.size w ((w.alloc (.cells c1 t1)).alloc (.cells c2 t2)) ∧ ((w.alloc (.cells c1 t1)).alloc (.cells c2 t2)).heap.size = w.heap.size + 2 := by
  obtain ⟨h1, h2, h3⟩ := two_new w c1 c2 t1 t2
  refine ⟨?_, h1, h2, h3⟩
  have z1 : (w.alloc (.cells c1 t1)).heap.size = w.heap.size + 1 := by simp
  exact (Below.heap_alloc (w.alloc (.cells c1 t1)) _ _ (by omega)).trans (MapKept.heap_alloc w (.cells c1 t1)).1

set_option maxHeartbeats 4000000 in
set_option maxRecDepth 100000 in
theorem other_any (ao : Option Addr) (ca : Nat) (bs : List UInt8) (w : World) (hL : Lies w ao (bcells bs)) (hao : ∀ a, ao = some a → a.block < w.heap.size) (hT : Tab w) :
    Calls Tryd.prog 6 #[.slice ao bs.length ca] w fun e w' => e = .returned (.bool true) ∧ Below w.heap.size w w' := by
  have HL := Lib.hid hL
  have HT := Lib.hid hT
  have HA := Lib.hid hao
  clear hL hT hao
  go_enter Tryd.func6, Tryd.ntmps6
  go_wp2_with fail
  refine (known_any w HT.out).mono ?_
  rintro e w1 ⟨rfl, hb1⟩
  have HB1 := Lib.hid hb1
  have hz1 := hb1.size
  clear hb1
  by_cases hc : bs.length ≤ 524288
  case neg =>
    have hg : decide (((bs.length : Nat) : Int) > 524288) = true := by simp; omega
    go_wp2
    go_ret
    exact ⟨rfl, HB1.out⟩
  have hg : decide (((bs.length : Nat) : Int) > 524288) = false := by simp; omega
  go_wp2_with fail
  refine (decode_any ao ca bs w1 (HL.out.below HB1.out) (by omega) (fun a ha => by have := HA.out a ha; omega)).mono ?_
  rintro e w2 (⟨P, s, hdec, rfl, hO, hb2⟩ | ⟨c, k, hdec, rfl, hb2⟩)
  · have HB2 := Lib.hid hb2
    have hz2 := hb2.size
    have HO := Lib.hid hO
    have HD := Lib.hid (decode_wrote hdec)
    obtain ⟨j1, j2, j3, j4⟩ := two_new2 w2 #[.slice s.a0 P.ghost.length s.c0, .slice s.a1 P.vars.length s.c1, .slice s.a2 P.tags.length s.c2, .slice s.a3 P.on.length s.c3, .int .i64 P.miss, .slice s.a4 P.code.length s.c4] #[.int .i64 0, .int .i64 0] 27 46
    have f0 := cell_at j1 0
    have f1 := cell_at j1 1
    have f2 := cell_at j1 2
    have f3 := cell_at j1 3
    have f4 := cell_at j1 4
    have f5 := cell_at j1 5
    have v0 := cell_at j2 0
    have v1 := cell_at j2 1
    have J3 := Lib.hid j3
    have J4 := Lib.hid j4
    clear hdec hb2 hO j1 j2 j3 j4
    unfold pval
    go_wp2_with fail
    generalize (w2.alloc (.cells #[.slice s.a0 P.ghost.length s.c0, .slice s.a1 P.vars.length s.c1, .slice s.a2 P.tags.length s.c2, .slice s.a3 P.on.length s.c3, .int .i64 P.miss, .slice s.a4 P.code.length s.c4] 27)).alloc (.cells #[.int .i64 0, .int .i64 0] 46) = w3 at *
    have hz3 := J4.out
    have hen := encode_ok s P w3 (HO.out.below J3.out).at HD.out.2
    rw [show EncPost P w3 = EncPost P w3 from rfl] at hen
    unfold pval at hen
    refine hen.mono ?_
    rintro e w4 ⟨g, cap, rfl, hown, hb4⟩
    have HL4 := (HL.out.below HB1.out).below (HB2.out.trans ((J3.out.trans (hb4.mono (by omega))).mono (by omega)))
    have h04 : Hid (Below w.heap.size w w4) := Lib.hid (HB1.out.trans (((HB2.out.trans ((J3.out.trans (hb4.mono (by omega))).mono (by omega)))).mono (by omega)))
    have hq := convert_str (cap := cap) (own_cells hown)
    have hr := convert_str (cap := ca) HL4
    have hE := HD.out.1
    rw [hE] at hq ⊢
    clear f0 f1 f2 f3 f4 f5 v0 v1 hen hown hb4 HL4 hE
    go_wp2
    go_ret
    exact ⟨by simp, h04.out⟩
  · have HB2 := Lib.hid hb2
    have hz2 := hb2.size
    have HD := Lib.hid (decode_near hdec)
    have hne : decide (c ≠ 0) = true := by simpa using HD.out.1
    have hne2 : (c != 0) = true := by simpa using HD.out.1
    have hk0 : decide (((k : Nat) : Int) ≥ 0) = true := by simp
    have hkl : decide (((k : Nat) : Int) ≤ ((bs.length : Nat) : Int)) = true := by have := HD.out.2; simp; omega
    obtain ⟨j1, j2, j3, j4⟩ := two_new2 w2 #[.slice none 0 0, .slice none 0 0, .slice none 0 0, .slice none 0 0, .int .i64 0, .slice none 0 0] #[.int .i64 c, .int .i64 (k : Int)] 27 46
    have f0 := cell_at j1 0
    have f1 := cell_at j1 1
    have f2 := cell_at j1 2
    have f3 := cell_at j1 3
    have f4 := cell_at j1 4
    have f5 := cell_at j1 5
    have v0 := cell_at j2 0
    have v1 := cell_at j2 1
    have J2 := Lib.hid j2
    have J3 := Lib.hid j3
    have J4 := Lib.hid j4
    clear hdec hb2 j1 j2 j3 j4
    unfold pval noSpots noPrg
    go_wp2_with fail
    generalize (w2.alloc (.cells #[.slice none 0 0, .slice none 0 0, .slice none 0 0, .slice none 0 0, .int .i64 0, .slice none 0 0] 27)).alloc (.cells #[.int .i64 c, .int .i64 (k : Int)] 46) = w3 at *
    have hz3 := J4.out
    have hn : ∀ xs : List Value, xs = [] → Lies w3 none xs := fun xs h i v hv => by rw [h] at hv; simp at hv
    have hp : PAt w3 noSpots noPrg := ⟨hn _ rfl, hn _ rfl, hn _ rfl, hn _ rfl, hn _ rfl, by decide, by decide, by decide, by decide, by decide, fun _ => rfl, fun _ => rfl, fun _ => rfl, fun _ => rfl, fun _ => rfl⟩
    have hs := rsame_any noSpots noSpots noPrg noPrg w3 hp hp
    rw [prgEq_self] at hs
    unfold pval noSpots noPrg at hs
    refine hs.mono ?_
    rintro e w4 ⟨rfl, hb4⟩
    have h2 := (hb4.block (w2.heap.size + 1) (by omega)).trans J2.out
    have u0 := cell_at h2 0
    have u1 := cell_at h2 1
    have h04 : Hid (Below w.heap.size w w4) := Lib.hid (HB1.out.trans (((HB2.out.trans ((J3.out.trans (hb4.mono (by omega))).mono (by omega)))).mono (by omega)))
    clear f0 f1 f2 f3 f4 f5 v0 v1 hs hn hp hb4 h2
    go_wp2
    go_ret
    exact ⟨by show Ending.returned (.bool (decide (k ≤ bs.length))) = _; rw [decide_eq_true HD.out.2], h04.out⟩
end Go.Proofs.YtfjiikadnlhekaaDoor
