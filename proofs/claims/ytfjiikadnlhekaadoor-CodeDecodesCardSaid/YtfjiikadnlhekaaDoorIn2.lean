/-
  What is proved here: the reference's reader: byte. Conditions: the reader lies in memory.
-/
import Derived.Test.YtfjiikadnlhekaaDoorIn1
import Derived.BigQuiet
namespace Go.Proofs.YtfjiikadnlhekaaDoor
open Go.RowKit

set_option maxHeartbeats 1000000 in
set_option maxRecDepth 100000 in
theorem ibyte_bad (b : Nat) (ao : Option Addr) (ca : Nat) (bs : List UInt8) (k : Nat) (f p : Int) (hf : f ≠ 0) (w : World) (hR : IAt w b ao ca bs k f p) :
    Calls Tryd.prog 52 #[.pointer (some ⟨b, 0, none⟩)] w fun e w' => e = .returned (.int .i64 0) ∧ w' = w := by
  have hb := ibad_any b ao ca bs k f p w hR
  rw [show decide (f ≠ 0) = true by simpa using hf] at hb
  clear hR hf
  go_enter Tryd.func52, Tryd.ntmps52
  go_wp2_with fail
  refine hb.mono ?_
  rintro e w' ⟨rfl, rfl⟩
  clear hb
  go_wp2
  go_ret
  exact ⟨rfl, rfl⟩

set_option maxHeartbeats 1000000 in
set_option maxRecDepth 100000 in
theorem ibyte_end (b : Nat) (ao : Option Addr) (ca : Nat) (bs : List UInt8) (p : Int) (w : World) (hR : IAt w b ao ca bs bs.length 0 p) :
    Calls Tryd.prog 52 #[.pointer (some ⟨b, 0, none⟩)] w fun e w' => e = .returned (.int .i64 0) ∧ IAt w' b ao ca bs bs.length 81 bs.length ∧ But w w' b := by
  have hb := ibad_any b ao ca bs bs.length 0 p w hR
  rw [show decide ((0 : Int) ≠ 0) = false by decide] at hb
  have HR := Lib.hid hR
  have c0 := cell_at hR.1 0
  have c1 := cell_at hR.1 1
  have hg : decide (((bs.length : Nat) : Int) ≥ ((bs.length : Nat) : Int)) = true := by simp
  clear hR
  go_enter Tryd.func52, Tryd.ntmps52
  go_wp2_with fail
  refine hb.mono ?_
  rintro e w' ⟨rfl, rfl⟩
  clear hb
  go_wp2_with fail
  go_quiet (fail)
  have hbn : But w' (w'.drewN nq) b := (But.refl w' b).drewN nq
  have hRn : IAt (w'.drewN nq) b ao ca bs bs.length 0 p := HR.out.but hbn (Nat.le_refl _) (by rw [(drewN_same w' nq).1]; exact HR.out.1)
  have hfs := ifail_set b ao ca bs bs.length p 81 bs.length (w'.drewN nq) hRn
  have HBN := Lib.hid hbn
  clear hbn hRn
  go_wp2_with fail
  refine hfs.mono ?_
  rintro e w2 ⟨rfl, hI, hB⟩
  have HI := Lib.hid hI
  have HB2 : Hid (But w' w2 b) := Lib.hid ⟨hB.os.trans HBN.out.os, hB.tape.trans HBN.out.tape, hB.output.trans HBN.out.output, hB.size.trans HBN.out.size, fun j hj => (hB.block j hj).trans (HBN.out.block j hj)⟩
  clear hfs hI hB
  go_wp2
  go_ret
  exact ⟨rfl, HI.out, HB2.out⟩

set_option maxHeartbeats 1000000 in
set_option maxRecDepth 100000 in
theorem ibyte_ok (b : Nat) (ao : Option Addr) (ca : Nat) (bs : List UInt8) (k : Nat) (hk : k < bs.length) (p : Int) (w : World) (hR : IAt w b ao ca bs k 0 p) :
    Calls Tryd.prog 52 #[.pointer (some ⟨b, 0, none⟩)] w fun e w' => e = .returned (.int .i64 (bs[k].toNat : Int)) ∧ IAt w' b ao ca bs (k + 1) 0 p ∧ But w w' b := by
  have hb := ibad_any b ao ca bs k 0 p w hR
  rw [show decide ((0 : Int) ≠ 0) = false by decide] at hb
  have HR := Lib.hid hR
  obtain ⟨hc, hl, hne, hlen, hat⟩ := hR
  obtain ⟨a, rfl, hca⟩ := hl.at k (by rw [bcells_length]; exact hk)
  simp only [bcells, List.getElem_map] at hca
  have c0 := cell_at hc 0
  have c1 := cell_at hc 1
  have q1 := free_at hc 1
  have hg : decide (((k : Nat) : Int) ≥ ((bs.length : Nat) : Int)) = false := decide_eq_false (by omega)
  have hab : (a.add k).block ≠ b := by rw [add_block]; exact hne a rfl
  have hc2 : ∀ (n : Nat) (v : Value), ((w.drewN n).setCell ⟨b, 1, none⟩ v).cell? (a.add k) = some (.int .u8 (bs[k].toNat : Int)) := fun n v => by
    rw [World.cell?_setCell_other _ _ _ _ (fun e => hab (by rw [← e])), cell_drewN]
    exact hca
  have hbyte : Hid (bs[k].toNat < 256) := Lib.hid bs[k].toNat_lt
  generalize bs[k] = c at *
  have hset : ∀ n : Nat, ((w.drewN n).setCell ⟨b, 1, none⟩ (.int .i64 ((k : Int) + 1))).heap[b]? = some (.cells #[.slice (some a) bs.length ca, .int .i64 ((k + 1 : Nat) : Int), .int .i64 0, .int .i64 p] 109 (0, 0)) := fun n => by
    have h1 : (w.drewN n).heap[b]? = some (.cells #[.slice (some a) bs.length ca, .int .i64 (k : Int), .int .i64 0, .int .i64 p] 109 (0, 0)) := by rw [(drewN_same w n).1]; exact hc
    exact set_block h1 1 (.int .i64 ((k : Int) + 1))
  have HSET := Lib.hid hset
  clear hl hc hset
  go_enter Tryd.func52, Tryd.ntmps52
  go_wp2_with fail
  refine hb.mono ?_
  rintro e w' ⟨rfl, rfl⟩
  clear hb
  go_wp2_with fail
  go_quiet (fail)
  go_wp2
  go_quiet (fail)
  go_wp2
  go_ret
  have hB := fun n m => (((But.refl w' b).drewN n).set 1 (.int .i64 ((k : Int) + 1))).drewN m
  have hwr : wrap64 (c.toNat : Int) = (c.toNat : Int) := by have := hbyte.out; unfold wrap64; omega
  refine ⟨by show Ending.returned (.int .i64 (wrap64 (c.toNat : Int))) = _; rw [hwr], HR.out.but (hB _ _) (by omega) (by rw [(drewN_same _ _).1]; exact HSET.out _), hB _ _⟩
end Go.Proofs.YtfjiikadnlhekaaDoor
