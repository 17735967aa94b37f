/-
  What is proved here: the law SpanPlaces answers true. Conditions: the bytes and the numbers lie in memory; at most 2^20 bytes; the library's variable internal/bytealg.MaxLen holds a number.
-/
import Derived.Test.YtdmdfcdfmedhcaaDoorHead
import Derived.Test.YtdmdfcdfmedhcaaDoorKit
import Derived.Deep.RegionHeld3
import Derived.IntWalk
namespace Go.Proofs.YtdmdfcdfmedhcaaDoor
open Go.RowKit

theorem add_succ (a : Addr) (k : Nat) : a.add (k + 1) = ⟨a.block, a.off + (k + 1), none⟩ := by simp [Addr.add]

set_option maxHeartbeats 1000000 in
set_option maxRecDepth 100000 in
theorem lawPlaces (ao : Option Addr) (cap : Nat) (bs : List UInt8) (io : Option Addr) (icap : Nat) (zs : List Int) (m : Int) (w : World)
    (hB : BAt w ao bs) (hcap : bs.length ≤ cap) (hn : bs.length ≤ 1048576) (hI : IAt w io zs) (_hz : zs.length ≤ 9223372036854775807) (hm : w.cell? ⟨1, 0, none⟩ = some (.int .i64 m)) :
    Calls Tryd.prog 5 #[.slice ao bs.length cap, .slice io zs.length icap] w fun e w' => e = .returned (.bool true) ∧ Below w.heap.size w w' := by
  have HB := Lib.hid hB
  have HM := Lib.hid hm
  have HI := Lib.hid hI
  clear hB hm hI
  go_enter Tryd.func5, Tryd.ntmps5
  go_wp2_with fail
  refine (made_any ao cap bs m _ HB.out (by omega) HM.out).mono ?_
  rintro e w1 ⟨p, rfl, hT, hb1⟩
  have HT := Lib.hid hT
  have HB1 := Lib.hid (HB.out.below hb1)
  have HI1 := Lib.hid (HI.out.below hb1)
  have HM1 := Lib.hid ((hb1.cell (World.block_lt_of_cell? w _ HM.out)).trans HM.out)
  clear hT HB HM HI
  go_wp2
  go_loopw [6] (fun i wr => ∃ k : Nat, k ≤ zs.length ∧ k ≤ 201 ∧ i = .int .i64 k ∧ Hid (TextAt wr p bs) ∧ Hid (BAt wr ao bs) ∧ Hid (IAt wr io zs) ∧ Hid (wr.cell? ⟨1, 0, none⟩ = some (.int .i64 m)) ∧ Below w.heap.size w wr) (fun i _ => zs.length + 1 - (intOf i).toNat)
  case atStart => exact ⟨0, Nat.zero_le _, by omega, rfl, HT, HB1, HI1, HM1, hb1⟩
  case round =>
    obtain ⟨k, hk, hk201, rfl, HTr, HBr, HIr, HMr, hbr⟩ := hrel
    clear HT HB1 HI1 HM1 hb1
    by_cases hlt : k + 1 < zs.length ∧ k < 200
    · obtain ⟨hlt1, hlt2⟩ := hlt
      obtain ⟨a, ha, hc, hz1, hz2⟩ := HIr.out k zs[k] (List.getElem?_eq_getElem (by omega))
      obtain ⟨a', ha', hd, hy1, hy2⟩ := HIr.out (k + 1) zs[k + 1] (List.getElem?_eq_getElem hlt1)
      subst ha
      obtain rfl := Option.some.inj ha'
      clear ha'
      rw [add_succ] at hd
      have HZ : Hid (zs[k]? = some zs[k]) := Lib.hid (List.getElem?_eq_getElem (by omega))
      have HY : Hid (zs[k + 1]? = some zs[k + 1]) := Lib.hid (List.getElem?_eq_getElem hlt1)
      generalize zs[k] = z at *
      generalize zs[k + 1] = y at *
      go_wp2_with fail
      have j1 : (0 : Int) ≤ (k : Int) := by omega
      have j2 : (k : Int) < (zs.length : Int) := by omega
      have j3 : (k : Int) + 1 < (zs.length : Int) := by omega
      have j4 : (0 : Int) ≤ (k : Int) + 1 := by omega
      have j5 : IntKind.i64.wrap ((k : Int) + 1) = (k : Int) + 1 := IntWalk.i64_in _ (by omega)
      have j6 : ((k : Int) + 1).toNat = k + 1 := by omega
      have hk1 : (a.add k).block < wr.heap.size := World.block_lt_of_cell? _ _ hc
      have hk2 : (⟨a.block, a.off + (k + 1), none⟩ : Addr).block < wr.heap.size := World.block_lt_of_cell? _ _ hd
      have hcd : wr.drew.cell? (a.add k) = some (.int .i64 z) := hc
      have hdd : wr.drew.cell? ⟨a.block, a.off + (k + 1), none⟩ = some (.int .i64 y) := hd
      go_region_held3 (fun w' => w'.cell? (a.add k) = some (.int .i64 z) ∧ w'.cell? ⟨a.block, a.off + (k + 1), none⟩ = some (.int .i64 y)) (first | exact ⟨hc, hd⟩ | exact ⟨(Below.cell hb2 hk1).trans hcd, (Below.cell (p := ⟨a.block, a.off + (k + 1), none⟩) hb2 hk2).trans hdd⟩)
        (first | (go_at_call 22; refine (tPlace_any p bs z y _ ?_ (by omega)).mono ?_; (exact HTr.out); rintro e w2 ⟨rfl, hb2⟩))
      have HB2 : Hid (BAt w2 ao bs) := Lib.hid (BAt.below (w := wr.drew) HBr.out hb2)
      have HT2 : Hid (TextAt w2 p bs) := Lib.hid (TextAt.below (w := wr.drew) HTr.out hb2)
      have HI2 : Hid (IAt w2 (some a) zs) := Lib.hid (IAt.below (w := wr.drew) HIr.out hb2)
      have HM2 : Hid (w2.cell? ⟨1, 0, none⟩ = some (.int .i64 m)) := Lib.hid ((Below.cell (p := ⟨1, 0, none⟩) hb2 (World.block_lt_of_cell? wr _ HMr.out)).trans HMr.out)
      have hbr2 : Below w.heap.size w w2 := hbr.drew.trans (hb2.mono hbr.size)
      replace hk1 : (a.add k).block < w2.heap.size := Nat.lt_of_lt_of_le hk1 hb2.size
      replace hk2 : (⟨a.block, a.off + (k + 1), none⟩ : Addr).block < w2.heap.size := Nat.lt_of_lt_of_le hk2 hb2.size
      replace hc : w2.cell? (a.add k) = some (.int .i64 z) := (HI2.out k z HZ.out).elim fun a' h => by obtain ⟨h1, h2, _⟩ := h; cases h1; exact h2
      replace hd : w2.cell? ⟨a.block, a.off + (k + 1), none⟩ = some (.int .i64 y) := (HI2.out (k + 1) y HY.out).elim fun a' h => by obtain ⟨h1, h2, _⟩ := h; cases h1; rwa [add_succ] at h2
      have hcd2 : w2.drew.cell? (a.add k) = some (.int .i64 z) := hc
      have hdd2 : w2.drew.cell? ⟨a.block, a.off + (k + 1), none⟩ = some (.int .i64 y) := hd
      clear HBr HTr HIr HMr hbr hb2 hcd hdd
      go_wp2
      go_region_held3 (fun w' => w'.cell? (a.add k) = some (.int .i64 z) ∧ w'.cell? ⟨a.block, a.off + (k + 1), none⟩ = some (.int .i64 y)) (first | exact ⟨hc, hd⟩ | exact ⟨(Below.cell hb3 hk1).trans hcd2, (Below.cell (p := ⟨a.block, a.off + (k + 1), none⟩) hb3 hk2).trans hdd2⟩)
        (first | (go_at_call 23; refine (place_any ao cap bs z y _ ?_ hcap (by omega) hy2).mono ?_; (exact HB2.out); rintro e w3 ⟨rfl, hb3⟩))
      have HB3 : Hid (BAt w3 ao bs) := Lib.hid (BAt.below (w := w2.drew) HB2.out hb3)
      have HT3 : Hid (TextAt w3 p bs) := Lib.hid (TextAt.below (w := w2.drew) HT2.out hb3)
      have HI3 : Hid (IAt w3 (some a) zs) := Lib.hid (IAt.below (w := w2.drew) HI2.out hb3)
      have HM3 : Hid (w3.cell? ⟨1, 0, none⟩ = some (.int .i64 m)) := Lib.hid ((Below.cell (p := ⟨1, 0, none⟩) hb3 (World.block_lt_of_cell? w2 _ HM2.out)).trans HM2.out)
      have hbr3 : Below w.heap.size w w3 := hbr2.drew.trans (hb3.mono hbr2.size)
      clear HB2 HT2 HI2 HM2 hbr2 hb3 hc hd hcd2 hdd2 hk1 hk2
      generalize rPlace bs z y = R at *
      go_wp2
      go_roundw
      case rel => exact ⟨k + 2, by omega, by omega, by go_num, HT3, HB3, HI3, HM3, hbr3⟩
      case measure => simp [intOf]; omega
    · rcases (show (k + 1 < zs.length ∧ 200 ≤ k) ∨ zs.length ≤ k + 1 from by omega) with ⟨hlt1, hlt2⟩ | hlt1
      all_goals
        clear hlt
        go_wp2_with (go_at_call 19; refine (head_any m _ HMr.out).mono ?_; rintro e w2 ⟨rfl, hb2⟩)
        go_ret
        exact ⟨rfl, hbr.trans (hb2.mono hbr.size)⟩
end Go.Proofs.YtdmdfcdfmedhcaaDoor
