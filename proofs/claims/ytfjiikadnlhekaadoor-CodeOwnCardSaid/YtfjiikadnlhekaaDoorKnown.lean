/-
  What is proved here: known answers true: the least program, and bytes that are none. Conditions: the library's table of powers of ten is laid.
-/
import Derived.Test.YtfjiikadnlhekaaDoorDec
import Derived.Test.YtfjiikadnlhekaaDoorList2
import Derived.Laws.BytesArg
namespace Go.Proofs.YtfjiikadnlhekaaDoor
open Go.RowKit

/-- Bytes where a slice points at, as a string. -/
theorem convert_str {w : World} {ao : Option Addr} {bs : List UInt8} {cap : Nat} (h : Lies w ao (bcells bs)) : (convert 32 9 (.slice ao bs.length cap)).run Tryd.prog w = .ok (.string (str bs)) w := by
  rw [run_convert_bytes_string w 32 9 5 ao _ cap Tryd.underlying32 Tryd.underlying5 Tryd.underlying9]
  cases ao with
  | none =>
    have hz : bs = [] := by
      cases bs with
      | nil => rfl
      | cons c r => obtain ⟨a, ha, _⟩ := h 0 _ rfl; cases ha
    subst hz
    simp [Conv.bytesToString, str]
    rfl
  | some a =>
    have hl : (loadCells a bs.length).run Tryd.prog w = .ok ((bs.map fun c => (c.toNat : Int)).map (Value.int .u8)).toArray w := by
      have := run_loadCells_list (P := Tryd.prog) w a ((bs.map fun c => (c.toNat : Int)).map (Value.int .u8)) (fun j v hj => by
        have e : (bs.map fun c => (c.toNat : Int)).map (Value.int .u8) = bcells bs := by simp [bcells]
        rw [e] at hj
        exact h.cell_some j v hj)
      simpa using this
    rw [run_bytesToString w a bs.length cap _ hl, foldl_push_bytes]
    have e1 : ((bs.map fun c => (c.toNat : Int)).map fun n => UInt8.ofNat n.toNat) = bs := by
      rw [List.map_map]
      conv => rhs; rw [← List.map_id bs]
      refine List.map_congr_left fun c _ => ?_
      simp
    rw [e1]
    simp [str, ByteArray.empty, ByteArray.emptyWithCapacity]
    rfl
def leastP : Prg := ⟨[], [], [], [], -1, []⟩
def knownP : Prg := ⟨[false], [], [], [-1], 0, [(31, 0, 0, 0, 0), (0, 0, 0, 0, 0)]⟩
theorem least_ok : checkErr leastP = 0 := by decide +kernel
theorem least_enc : encB leastP = [87, 0, 0, 0, 0, 0] := by decide +kernel
theorem known_dec : decode [87, 1, 0, 0, 0, 0, 1, 2, 31, 0, 0, 0] = .ok knownP := by kernel_rfl
theorem least_ne : prgEq leastP knownP = false := by decide +kernel
theorem known_ok : checkErr knownP = 0 := by decide +kernel
theorem wrong_dec : decode [88] = .error (83, 0) := by kernel_rfl
theorem known_list : listText knownP = [109, 105, 115, 115, 58, 10, 48, 58, 32, 105, 110, 115, 101, 114, 116, 32, 113, 48, 32, 102, 114, 111, 110, 116, 10, 49, 58, 32, 101, 110, 100, 10] := by
  have h0 : Lib.itoa 0 = [48] := by unfold Lib.itoa; rw [if_neg (by decide)]; exact Lib.decDigits_one (by decide)
  have h1 : Lib.itoa 1 = [49] := by unfold Lib.itoa; rw [if_neg (by decide)]; exact Lib.decDigits_one (by decide)
  have e : listText knownP = [109, 105, 115, 115, 58, 10] ++ ((Lib.itoa 0 ++ [58, 32] ++ [105, 110, 115, 101, 114, 116]) ++ (([32] ++ ([113] ++ Lib.itoa 0) ++ ([32] ++ [102, 114, 111, 110, 116])) ++ [10]) ++ ((Lib.itoa 1 ++ [58, 32] ++ [101, 110, 100]) ++ ([] ++ [10]) ++ [])) := by kernel_rfl
  rw [e, h0, h1]
  rfl

theorem least_at (w : World) : PAt w noSpots leastP := by
  have hn : ∀ xs : List Value, xs = [] → Lies w none xs := fun xs h i v hv => by rw [h] at hv; simp at hv
  exact ⟨hn _ rfl, hn _ rfl, hn _ rfl, hn _ rfl, hn _ rfl, by decide, by decide, by decide, by decide, by decide, fun _ => rfl, fun _ => rfl, fun _ => rfl, fun _ => rfl, fun _ => rfl⟩
theorem new_lies (w : World) (cs : Array Value) (t : TypeId) : Lies (w.alloc (.cells cs t)) (some ⟨w.heap.size, 0, none⟩) cs.toList := by
  intro i v hv
  refine ⟨_, rfl, ?_⟩
  have h := (MapKept.heap_alloc w (.cells cs t)).1
  have e : (⟨w.heap.size, 0, none⟩ : Addr).add i = ⟨w.heap.size, i, none⟩ := by unfold Addr.add; split <;> simp_all
  rw [e, cell_at h i]
  simpa using hv

theorem three_blocks (w : World) (c1 c2 c3 : Array Value) (t1 t2 t3 : TypeId) :
    ((((w.alloc (.cells c1 t1)).alloc (.cells c2 t2)).alloc (.cells c3 t3)).heap[w.heap.size]? = some (.cells c1 t1 (0, 0)) ∧ (((w.alloc (.cells c1 t1)).alloc (.cells c2 t2)).alloc (.cells c3 t3)).heap[w.heap.size + 1]? = some (.cells c2 t2 (0, 0))) ∧
      (((w.alloc (.cells c1 t1)).alloc (.cells c2 t2)).alloc (.cells c3 t3)).heap[w.heap.size + 2]? = some (.cells c3 t3 (0, 0)) ∧ Below w.heap.size w (((w.alloc (.cells c1 t1)).alloc (.cells c2 t2)).alloc (.cells c3 t3)) ∧ (((w.alloc (.cells c1 t1)).alloc (.cells c2 t2)).alloc (.cells c3 t3)).heap.size = w.heap.size + 3 := by
  have h1 := (MapKept.heap_alloc w (.cells c1 t1)).1
  have z1 : (w.alloc (.cells c1 t1)).heap.size = w.heap.size + 1 := by simp
  have b1 := (Below.refl w.heap.size w).alloc (Nat.le_refl _) (.cells c1 t1)
  generalize w.alloc (.cells c1 t1) = w1 at *
  have h2 := (MapKept.heap_alloc w1 (.cells c2 t2)).1
  have z2 : (w1.alloc (.cells c2 t2)).heap.size = w.heap.size + 2 := by simp [z1]
  have b2 := b1.alloc (by omega) (.cells c2 t2)
  have h12 := (Below.heap_alloc w1 (.cells c2 t2) _ (by omega)).trans h1
  generalize w1.alloc (.cells c2 t2) = w2 at *
  have h3 := (MapKept.heap_alloc w2 (.cells c3 t3)).1
  rw [z2] at h3
  rw [z1] at h2
  exact ⟨⟨(Below.heap_alloc w2 _ _ (by omega)).trans h12, (Below.heap_alloc w2 _ _ (by omega)).trans h2⟩, h3, b2.alloc (by omega) _, by simp [z2]⟩
theorem two_new (w : World) (c1 c2 : Array Value) (t1 t2 : TypeId) :
    ((w.alloc (.cells c1 t1)).alloc (.cells c2 t2)).heap[w.heap.size + 1]? = some (.cells c2 t2 (0, 0)) ∧ Below w.heap.size w ((w.alloc (.cells c1 t1)).alloc (.cells c2 t2)) ∧ ((w.alloc (.cells c1 t1)).alloc (.cells c2 t2)).heap.size = w.heap.size + 2 := by
  have z1 : (w.alloc (.cells c1 t1)).heap.size = w.heap.size + 1 := by simp
  have b1 := (Below.refl w.heap.size w).alloc (Nat.le_refl _) (.cells c1 t1)
  generalize w.alloc (.cells c1 t1) = w1 at *
  have h2 := (MapKept.heap_alloc w1 (.cells c2 t2)).1
  rw [z1] at h2
  exact ⟨h2, b1.alloc (by omega) _, by simp [z1]⟩
theorem lies_block {w : World} {b : Nat} {cs : Array Value} {t : TypeId} (h : w.heap[b]? = some (.cells cs t (0, 0))) : Lies w (some ⟨b, 0, none⟩) cs.toList := by
  intro i v hv
  refine ⟨_, rfl, ?_⟩
  have e : (⟨b, 0, none⟩ : Addr).add i = ⟨b, i, none⟩ := by unfold Addr.add; split <;> simp_all
  rw [e, cell_at h i]
  simpa using hv

set_option maxHeartbeats 4000000 in
set_option maxRecDepth 100000 in
theorem known_any (w : World) (hT : Tab w) : Calls Tryd.prog 10 #[] w fun e w' => e = .returned (.bool true) ∧ Below w.heap.size w w' := by
  have hb0 : Below w.heap.size w (w.alloc (.cells #[.slice none 0 0, .slice none 0 0, .slice none 0 0, .slice none 0 0, .int .i64 (-1), .slice none 0 0] 27)) := (Below.refl _ w).alloc (Nat.le_refl _) _
  have hp0 := (MapKept.heap_alloc w (.cells #[.slice none 0 0, .slice none 0 0, .slice none 0 0, .slice none 0 0, .int .i64 (-1), .slice none 0 0] 27)).1
  have HB0 := Lib.hid hb0
  have HP0 := Lib.hid hp0
  have hz0 : (w.alloc (.cells #[.slice none 0 0, .slice none 0 0, .slice none 0 0, .slice none 0 0, .int .i64 (-1), .slice none 0 0] 27)).heap.size = w.heap.size + 1 := by simp
  have HT := Lib.hid hT
  clear hb0 hp0 hT
  go_enter Tryd.func10, Tryd.ntmps10
  go_wp2_with fail
  generalize w.alloc (.cells #[.slice none 0 0, .slice none 0 0, .slice none 0 0, .slice none 0 0, .int .i64 (-1), .slice none 0 0] 27) = w1 at *
  refine (encode_ok noSpots leastP w1 (least_at w1) least_ok).mono ?_
  rintro e w2 ⟨g, cap, rfl, hown, hb2⟩
  rw [least_enc] at hown ⊢
  have HL2 := Lib.hid (own_cells hown)
  have HB2 := Lib.hid hb2
  have hz2 := hb2.size
  have HL3 : Hid (Lies (w2.alloc (.cells #[.int .u8 87, .int .u8 1, .int .u8 0, .int .u8 0, .int .u8 0, .int .u8 0, .int .u8 1, .int .u8 2, .int .u8 31, .int .u8 0, .int .u8 0, .int .u8 0] 5)) (some ⟨w2.heap.size, 0, none⟩) (bcells [87, 1, 0, 0, 0, 0, 1, 2, 31, 0, 0, 0])) := Lib.hid (new_lies w2 #[.int .u8 87, .int .u8 1, .int .u8 0, .int .u8 0, .int .u8 0, .int .u8 0, .int .u8 1, .int .u8 2, .int .u8 31, .int .u8 0, .int .u8 0, .int .u8 0] 5)
  have HB3 : Hid (Below w2.heap.size w2 (w2.alloc (.cells #[.int .u8 87, .int .u8 1, .int .u8 0, .int .u8 0, .int .u8 0, .int .u8 0, .int .u8 1, .int .u8 2, .int .u8 31, .int .u8 0, .int .u8 0, .int .u8 0] 5))) := Lib.hid ((Below.refl _ w2).alloc (Nat.le_refl _) _)
  have hz3 : (w2.alloc (.cells #[.int .u8 87, .int .u8 1, .int .u8 0, .int .u8 0, .int .u8 0, .int .u8 0, .int .u8 1, .int .u8 2, .int .u8 31, .int .u8 0, .int .u8 0, .int .u8 0] 5)).heap.size = w2.heap.size + 1 := by simp
  clear hown hb2
  go_wp2_with fail
  generalize w2.alloc (.cells #[.int .u8 87, .int .u8 1, .int .u8 0, .int .u8 0, .int .u8 0, .int .u8 0, .int .u8 1, .int .u8 2, .int .u8 31, .int .u8 0, .int .u8 0, .int .u8 0] 5) = w3 at *
  refine (decode_any (some ⟨w2.heap.size, 0, none⟩) 12 [87, 1, 0, 0, 0, 0, 1, 2, 31, 0, 0, 0] w3 HL3.out (by decide) (fun a ha => by cases ha; show w2.heap.size < _; omega)).mono ?_
  rintro e w4 (⟨P, s, hdec, rfl, hO, hb4⟩ | ⟨c, k, hdec, _, _⟩)
  case inr => rw [known_dec] at hdec; cases hdec
  rw [known_dec] at hdec
  obtain rfl := Except.ok.inj hdec
  have HO4 := Lib.hid hO
  have HB4 := Lib.hid hb4
  have hz4 := hb4.size
  clear hdec hO hb4
  obtain ⟨⟨k1, k2⟩, k3, k4, k5⟩ := three_blocks w4 #[.slice s.a0 knownP.ghost.length s.c0, .slice s.a1 knownP.vars.length s.c1, .slice s.a2 knownP.tags.length s.c2, .slice s.a3 knownP.on.length s.c3, .int .i64 knownP.miss, .slice s.a4 knownP.code.length s.c4] #[.int .i64 0, .int .i64 0] #[.int .u8 88] 27 46 5
  have K1 := Lib.hid k1
  have K2 := Lib.hid k2
  have K3 := Lib.hid k3
  have K4 := Lib.hid k4
  have K5 := Lib.hid k5
  clear k1 k2 k3 k4 k5
  unfold pval
  go_wp2_with fail
  generalize ((w4.alloc (.cells #[.slice s.a0 knownP.ghost.length s.c0, .slice s.a1 knownP.vars.length s.c1, .slice s.a2 knownP.tags.length s.c2, .slice s.a3 knownP.on.length s.c3, .int .i64 knownP.miss, .slice s.a4 knownP.code.length s.c4] 27)).alloc (.cells #[.int .i64 0, .int .i64 0] 46)).alloc (.cells #[.int .u8 88] 5) = w5 at *
  have hz5 := K5.out
  refine (decode_any (some ⟨w4.heap.size + 2, 0, none⟩) 1 [88] w5 (lies_block K3.out) (by decide) (fun a ha => by cases ha; show w4.heap.size + 2 < _; omega)).mono ?_
  rintro e w6 (⟨P, s2, hdec, _, _, _⟩ | ⟨c, k, hdec, rfl, hb6⟩)
  case inl => rw [wrong_dec] at hdec; cases hdec
  rw [wrong_dec] at hdec
  obtain ⟨rfl, rfl⟩ : c = 83 ∧ k = 0 := by cases hdec; exact ⟨rfl, rfl⟩
  have HB6 := Lib.hid hb6
  have hz6 := hb6.size
  obtain ⟨j1, j2, j3⟩ := two_new w6 #[.slice none 0 0, .slice none 0 0, .slice none 0 0, .slice none 0 0, .int .i64 0, .slice none 0 0] #[.int .i64 83, .int .i64 0] 27 46
  have hq6 := (j2.block _ (by omega)).trans ((hb6.block _ (by omega)).trans K1.out)
  have f0 := cell_at hq6 0
  have f1 := cell_at hq6 1
  have f2 := cell_at hq6 2
  have f3 := cell_at hq6 3
  have f4 := cell_at hq6 4
  have f5 := cell_at hq6 5
  have J1 := Lib.hid j1
  have J2 := Lib.hid j2
  have J3 := Lib.hid j3
  have HQ6 := Lib.hid hq6
  clear hdec hb6 j1 j2 j3 hq6
  unfold pval noSpots noPrg
  go_wp2_with fail
  generalize (w6.alloc (.cells #[.slice none 0 0, .slice none 0 0, .slice none 0 0, .slice none 0 0, .int .i64 0, .slice none 0 0] 27)).alloc (.cells #[.int .i64 83, .int .i64 0] 46) = w7 at *
  have hz7 := J3.out
  have h47 : Hid (Below w4.heap.size w4 w7) := Lib.hid ((K4.out.trans (HB6.out.mono (by omega))).trans (J2.out.mono (by omega)))
  have h27 : Hid (Below w2.heap.size w2 w7) := Lib.hid (((HB3.out.trans (HB4.out.mono (by omega))).trans (h47.out.mono (by omega))))
  have h07 : Hid (Below w.heap.size w w7) := Lib.hid ((HB0.out.trans (HB2.out.mono (by omega))).trans (h27.out.mono (by omega)))
  have hP7 := (HO4.out.below h47.out).at
  have hli := list_ok s knownP w7 hP7 known_ok (HT.out.below h07.out)
  rw [known_list] at hli
  unfold pval at hli
  refine hli.mono ?_
  rintro e w8 ⟨rfl, hb8⟩
  have hz8 := hb8.size
  have H8 := Lib.hid hb8
  have h48 := Lib.hid (h47.out.trans (hb8.mono (by omega)))
  have h28 := Lib.hid (h27.out.trans (hb8.mono (by omega)))
  have h08 := Lib.hid (h07.out.trans (hb8.mono (by omega)))
  have hP8 := Lib.hid (HO4.out.below h48.out).at
  have hq8 := (hb8.block _ (by omega)).trans HQ6.out
  have hf8 := (hb8.block (w4.heap.size + 1) (by omega)).trans ((J2.out.block _ (by omega)).trans ((HB6.out.block _ (by omega)).trans K2.out))
  have hg8 := (hb8.block (w6.heap.size + 1) (by omega)).trans J1.out
  have hp8 := (h28.out.block w.heap.size (by omega)).trans ((HB2.out.block _ (by omega)).trans HP0.out)
  have hL8 := HL2.out.below h28.out
  have hcv : (convert 32 9 (.slice (some ⟨g, 0, none⟩) 6 cap)).run Tryd.prog w8 = .ok (.string ⟨#[87, 0, 0, 0, 0, 0]⟩) w8 := convert_str (cap := cap) hL8
  obtain ⟨ao, hao, hcao⟩ := hP8.out.on.at 0 (by decide)
  have ha0 : s.a3 = some ao := hao
  have hca : w8.cell? ao = some (.int .i64 (-1)) := by have h := hcao; rw [add_zero'] at h; exact h
  have y0 : w8.cell? ⟨w4.heap.size, 0, none⟩ = some (.slice s.a0 1 s.c0) := cell_at hq8 0
  have y1 : w8.cell? ⟨w4.heap.size, 1, none⟩ = some (.slice s.a1 0 s.c1) := cell_at hq8 1
  have y2 : w8.cell? ⟨w4.heap.size, 2, none⟩ = some (.slice s.a2 0 s.c2) := cell_at hq8 2
  have y3 : w8.cell? ⟨w4.heap.size, 3, none⟩ = some (.slice (some ao) 1 s.c3) := by rw [← ha0]; exact cell_at hq8 3
  have y4 : w8.cell? ⟨w4.heap.size, 4, none⟩ = some (.int .i64 0) := cell_at hq8 4
  have y5 : w8.cell? ⟨w4.heap.size, 5, none⟩ = some (.slice s.a4 2 s.c4) := cell_at hq8 5
  have e1 : ∀ w, (binOp .eql 46 (.agg #[.int .i64 0, .int .i64 0]) (.agg #[.int .i64 0, .int .i64 0])).run Tryd.prog w = .ok (.bool true) w := fun _ => by kernel_rfl
  have e2 : ∀ w, (binOp .eql 46 (.agg #[.int .i64 83, .int .i64 0]) (.agg #[.int .i64 83, .int .i64 0])).run Tryd.prog w = .ok (.bool true) w := fun _ => by kernel_rfl
  have HA0 := Lib.hid ha0
  have v0 := cell_at hf8 0
  have v1 := cell_at hf8 1
  have u0 := cell_at hg8 0
  have u1 := cell_at hg8 1
  have p0 := cell_at hp8 0
  have p1 := cell_at hp8 1
  have p2 := cell_at hp8 2
  have p3 := cell_at hp8 3
  have p4 := cell_at hp8 4
  have p5 := cell_at hp8 5
  have HQ8 := Lib.hid hq8
  clear f0 f1 f2 f3 f4 f5 hb8 hq8 hf8 hg8 hp8 hL8 hli hP7 hao hcao ha0
  unfold str
  go_wp2_with fail
  have hs1 := same_any noSpots s leastP knownP w8 (least_at w8) hP8.out
  unfold pval at hs1
  rw [HA0.out, least_ne] at hs1
  refine hs1.mono ?_
  rintro e w9 ⟨rfl, hb9⟩
  have hz9 := hb9.size
  have hq9 := (hb9.block _ (by omega)).trans HQ8.out
  have x0 : w9.cell? ⟨w4.heap.size, 0, none⟩ = some (.slice s.a0 1 s.c0) := cell_at hq9 0
  have x1 : w9.cell? ⟨w4.heap.size, 1, none⟩ = some (.slice s.a1 0 s.c1) := cell_at hq9 1
  have x2 : w9.cell? ⟨w4.heap.size, 2, none⟩ = some (.slice s.a2 0 s.c2) := cell_at hq9 2
  have x3 : w9.cell? ⟨w4.heap.size, 3, none⟩ = some (.slice (some ao) 1 s.c3) := by rw [← HA0.out]; exact cell_at hq9 3
  have x4 : w9.cell? ⟨w4.heap.size, 4, none⟩ = some (.int .i64 0) := cell_at hq9 4
  have x5 : w9.cell? ⟨w4.heap.size, 5, none⟩ = some (.slice s.a4 2 s.c4) := cell_at hq9 5
  have h09 := Lib.hid (h08.out.trans (hb9.mono (by omega)))
  have hs2 := same_any s s knownP knownP w9 (hP8.out.below hb9) (hP8.out.below hb9)
  unfold pval at hs2
  rw [HA0.out, prgEq_self] at hs2
  clear hs1 hb9 hq9 y0 y1 y2 y3 y4 y5 v0 v1 u0 u1 p0 p1 p2 p3 p4 p5 hca hcv
  go_wp2_with fail
  refine hs2.mono ?_
  rintro e w10 ⟨rfl, hb10⟩
  have h10 := Lib.hid (h09.out.trans (hb10.mono (by omega)))
  clear hs2 hb10
  go_wp2
  go_ret
  exact ⟨rfl, h10.out⟩
end Go.Proofs.YtfjiikadnlhekaaDoor
