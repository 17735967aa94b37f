/-
  What is proved here: the law SpanApart answers true. Conditions: the bytes and the numbers lie in memory; at most 2^20 bytes each; the library's variable internal/bytealg.MaxLen holds a number.
-/
import Derived.Test.YtdmdfcdfmedhcaaDoorHead
import Derived.Test.YtdmdfcdfmedhcaaDoorKit
namespace Go.Proofs.YtdmdfcdfmedhcaaDoor
open Go.RowKit

/-- What the law's road reads: two texts, the bytes they are of, the numbers asked. -/
structure Apart (w : World) (p q : Nat) (ao bo : Option Addr) (xs ys : List UInt8) (io : Option Addr) (zs : List Int) (m : Int) : Prop where
  t1 : TextAt w p xs
  t2 : TextAt w q ys
  b1 : BAt w ao xs
  b2 : BAt w bo ys
  i : IAt w io zs
  m : w.cell? ⟨1, 0, none⟩ = some (.int .i64 m)
theorem Apart.below {w w' : World} {p q : Nat} {ao bo : Option Addr} {xs ys : List UInt8} {io : Option Addr} {zs : List Int} {m : Int} (h : Apart w p q ao bo xs ys io zs m) (hb : Below w.heap.size w w') : Apart w' p q ao bo xs ys io zs m :=
  ⟨h.t1.below hb, h.t2.below hb, h.b1.below hb, h.b2.below hb, h.i.below hb, (hb.cell (World.block_lt_of_cell? w _ h.m)).trans h.m⟩

set_option maxHeartbeats 4000000 in
set_option maxRecDepth 100000 in
theorem lawApart (ao : Option Addr) (acap : Nat) (xs : List UInt8) (bo : Option Addr) (bcap : Nat) (ys : List UInt8) (io : Option Addr) (icap : Nat) (zs : List Int) (m : Int) (w : World)
    (hB1 : BAt w ao xs) (hcap1 : xs.length ≤ acap) (hn1 : xs.length ≤ 1048576) (hB2 : BAt w bo ys) (hcap2 : ys.length ≤ bcap) (hn2 : ys.length ≤ 1048576) (hI : IAt w io zs) (_hz : zs.length ≤ 9223372036854775807) (hm : w.cell? ⟨1, 0, none⟩ = some (.int .i64 m)) :
    Calls Tryd.prog 8 #[.slice ao xs.length acap, .slice bo ys.length bcap, .slice io zs.length icap] w fun e w' => e = .returned (.bool true) ∧ Below w.heap.size w w' := by
  have HB1 := Lib.hid hB1
  have HB2 := Lib.hid hB2
  have HM := Lib.hid hm
  have HI := Lib.hid hI
  clear hB1 hB2 hm hI
  go_enter Tryd.func8, Tryd.ntmps8
  go_wp2_with fail
  refine (made_any ao acap xs m _ HB1.out (by omega) HM.out).mono ?_
  rintro e w1 ⟨p, rfl, hT1, hb1⟩
  have HT1 := Lib.hid hT1
  replace HB1 := Lib.hid (HB1.out.below hb1)
  replace HB2 := Lib.hid (HB2.out.below hb1)
  replace HI := Lib.hid (HI.out.below hb1)
  replace HM := Lib.hid ((hb1.cell (World.block_lt_of_cell? w _ HM.out)).trans HM.out)
  clear hT1
  go_wp2_with fail
  refine (made_any bo bcap ys m _ HB2.out (by omega) HM.out).mono ?_
  rintro e w2 ⟨q, rfl, hT2, hb2⟩
  have G0 : Hid (Apart w2 p q ao bo xs ys io zs m) := Lib.hid ⟨HT1.out.below hb2, hT2, HB1.out.below hb2, HB2.out.below hb2, HI.out.below hb2, (hb2.cell (World.block_lt_of_cell? w1 _ HM.out)).trans HM.out⟩
  have hbr0 : Below w.heap.size w w2 := hb1.trans (hb2.mono hb1.size)
  clear hT2 HT1 HB1 HB2 HI HM hb1 hb2
  go_wp2
  go_loopw [9] (fun i wr => ∃ k : Nat, k ≤ zs.length ∧ i = .int .i64 k ∧ Hid (Apart wr p q ao bo xs ys io zs m) ∧ Below w.heap.size w wr) (fun i _ => zs.length - (intOf i).toNat)
  case atStart => exact ⟨0, Nat.zero_le _, rfl, G0, hbr0⟩
  case round =>
    obtain ⟨k, hk, rfl, G, hbr⟩ := hrel
    clear G0 hbr0
    by_cases hlt : k < zs.length ∧ k < 100
    · obtain ⟨hlt1, hlt2⟩ := hlt
      obtain ⟨a, rfl, hc, hz1, hz2⟩ := G.out.i k zs[k] (List.getElem?_eq_getElem hlt1)
      generalize zs[k] = z at *
      go_wp2_with fail
      refine (tSpot_any p xs z _ G.out.t1 (by omega)).mono ?_
      rintro e u1 ⟨rfl, hs1⟩
      replace G := Lib.hid (G.out.below hs1)
      replace hc := (hs1.cell (World.block_lt_of_cell? _ _ hc)).trans hc
      replace hbr := hbr.trans (hs1.mono hbr.size)
      clear hs1
      go_wp2_with fail
      refine (tSpot_any q ys z _ G.out.t2 (by omega)).mono ?_
      rintro e u2 ⟨rfl, hs2⟩
      replace G := Lib.hid (G.out.below hs2)
      replace hc := (hs2.cell (World.block_lt_of_cell? _ _ hc)).trans hc
      replace hbr := hbr.trans (hs2.mono hbr.size)
      clear hs2
      generalize hR1 : rSpot xs z = R1
      generalize hR2 : rSpot ys z = R2
      have HR1 := Lib.hid hR1
      have HR2 := Lib.hid hR2
      clear hR1 hR2
      go_wp2_with fail
      refine (tLine_any p xs R1.1 _ G.out.t1 (by omega)).mono ?_
      rintro e w' ⟨rfl, rfl⟩
      go_wp2_with fail
      refine (tLine_any q ys R2.1 _ G.out.t2 (by omega)).mono ?_
      rintro e w' ⟨rfl, rfl⟩
      go_wp2_with fail
      refine (HR1.out ▸ tSpot_any p xs z _ G.out.t1 (by omega)).mono ?_
      rintro e u3 ⟨rfl, hs3⟩
      replace G := Lib.hid (G.out.below hs3)
      replace hc := (hs3.cell (World.block_lt_of_cell? _ _ hc)).trans hc
      replace hbr := hbr.trans (hs3.mono hbr.size)
      clear hs3
      go_wp2_with fail
      refine (tLine_any p xs R1.1 _ G.out.t1 (by omega)).mono ?_
      rintro e w' ⟨rfl, rfl⟩
      go_wp2_with fail
      refine (HR1.out ▸ spot_any ao acap xs z _ G.out.b1 hcap1 (by omega)).mono ?_
      rintro e u4 ⟨rfl, hs4⟩
      replace G := Lib.hid (G.out.below hs4)
      replace hc := (hs4.cell (World.block_lt_of_cell? _ _ hc)).trans hc
      replace hbr := hbr.trans (hs4.mono hbr.size)
      clear hs4
      go_wp2_with fail
      refine (HR2.out ▸ spot_any bo bcap ys z _ G.out.b2 hcap2 (by omega)).mono ?_
      rintro e u5 ⟨rfl, hs5⟩
      replace G := Lib.hid (G.out.below hs5)
      replace hc := (hs5.cell (World.block_lt_of_cell? _ _ hc)).trans hc
      replace hbr := hbr.trans (hs5.mono hbr.size)
      clear hs5
      go_wp2_with fail
      refine (line_any ao acap xs R1.1 _ G.out.b1 hcap1 (by omega)).mono ?_
      rintro e w' ⟨rfl, rfl⟩
      go_wp2_with fail
      refine (line_any bo bcap ys R2.1 _ G.out.b2 hcap2 (by omega)).mono ?_
      rintro e w' ⟨rfl, rfl⟩
      generalize rLine xs R1.1 = L1 at *
      generalize rLine ys R2.1 = L2 at *
      go_wp2
      go_roundw
      case rel => exact ⟨k + 1, by omega, by go_num, G, hbr⟩
      case measure => simp [intOf]; omega
    · rcases (show (k < zs.length ∧ 100 ≤ k) ∨ zs.length ≤ k from by omega) with ⟨hlt1, hlt2⟩ | hlt1
      all_goals
        clear hlt
        go_wp2_with (go_at_call 19; refine (head_any m _ G.out.m).mono ?_; rintro e w2 ⟨rfl, hb2⟩)
        go_ret
        exact ⟨rfl, hbr.trans (hb2.mono hbr.size)⟩
end Go.Proofs.YtdmdfcdfmedhcaaDoor

