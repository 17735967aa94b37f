/-
  What is proved here: a reader's byte: the next byte, or a panic with the fault. Conditions: the reader lies in memory.
-/
import Derived.Test.YtfjiikadnlhekaaDoorNum
import Derived.WalkSmall
namespace Go.Proofs.YtfjiikadnlhekaaDoor
open Go.RowKit

/-- Bytes where a slice points at. -/
def RAt (w : World) (b : Nat) (ao : Option Addr) (ca : Nat) (bs : List UInt8) (at_ : Nat) : Prop :=
  w.heap[b]? = some (.cells #[.slice ao bs.length ca, .int .i64 (at_ : Int)] 105 (0, 0)) ∧ Lies w ao (bcells bs) ∧ (∀ a, ao = some a → a.block ≠ b) ∧ bs.length ≤ 1099511627776 ∧ at_ ≤ bs.length

theorem drewN_same (w : World) : ∀ n, (w.drewN n).heap = w.heap ∧ (w.drewN n).os = w.os ∧ (w.drewN n).tape = w.tape ∧ (w.drewN n).output = w.output
  | 0 => ⟨rfl, rfl, rfl, rfl⟩
  | n + 1 => drewN_same w n

/-- The reader's place is written; all else stays. -/
theorem RAt.moved {w : World} {b : Nat} {ao : Option Addr} {ca : Nat} {bs : List UInt8} {k : Nat} (h : RAt w b ao ca bs k) (n m : Nat) (hk : k < bs.length) :
    RAt (((w.drewN n).setCell ⟨b, 1, none⟩ (.int .i64 ((k : Int) + 1))).drewN m) b ao ca bs (k + 1) ∧ w.grownBy (((w.drewN n).setCell ⟨b, 1, none⟩ (.int .i64 ((k : Int) + 1))).drewN m) (some b) := by
  obtain ⟨hb, hl, hne, hlen, hat⟩ := h
  have s1 := drewN_same w n
  have s2 := drewN_same ((w.drewN n).setCell ⟨b, 1, none⟩ (.int .i64 ((k : Int) + 1))) m
  have hb1 : (w.drewN n).heap[b]? = some (.cells #[.slice ao bs.length ca, .int .i64 (k : Int)] 105 (0, 0)) := by rw [s1.1]; exact hb
  have hset := set_block hb1 1 (.int .i64 ((k : Int) + 1))
  have hoth : ∀ j, j ≠ b → (((w.drewN n).setCell ⟨b, 1, none⟩ (.int .i64 ((k : Int) + 1))).drewN m).heap[j]? = w.heap[j]? := fun j hj => by
    rw [s2.1, set_other 1 _ hj, s1.1]
  refine ⟨⟨?_, hl.kept (fun a ha => hoth _ (hne a ha)), hne, hlen, by omega⟩, ⟨?_, ?_, ?_, ?_, fun j _ hj => hoth j (fun e => hj (by rw [e]))⟩⟩
  · rw [s2.1]; exact hset
  · rw [s2.2.1]; exact s1.2.1
  · rw [s2.2.2.1]; exact s1.2.2.1
  · rw [s2.2.2.2]; exact s1.2.2.2
  · rw [s2.1]
    simp [World.setCell]

set_option maxHeartbeats 1000000 in
set_option maxRecDepth 100000 in
theorem byte_in (b : Nat) (ao : Option Addr) (ca : Nat) (bs : List UInt8) (k : Nat) (hk : k < bs.length) (w : World) (hR : RAt w b ao ca bs k) :
    Calls Tryd.prog 74 #[.pointer (some ⟨b, 0, none⟩)] w fun e w' => e = .returned (.int .u8 (bs[k].toNat : Int)) ∧ RAt w' b ao ca bs (k + 1) ∧ w.grownBy w' (some b) := by
  have HR := Lib.hid hR
  obtain ⟨hb, hl, hne, hlen, hat⟩ := hR
  obtain ⟨a, rfl, hca⟩ := hl.at k (by rw [bcells_length]; exact hk)
  simp only [bcells, List.getElem_map] at hca
  have c0 := cell_at hb 0
  have c1 := cell_at hb 1
  have q1 := free_at hb 1
  have hab : (a.add k).block ≠ b := by rw [add_block]; exact hne a rfl
  have hc2 : ∀ (n : Nat) (v : Value), ((w.drewN n).setCell ⟨b, 1, none⟩ v).cell? (a.add k) = some (.int .u8 (bs[k].toNat : Int)) := fun n v => by
    rw [World.cell?_setCell_other _ _ _ _ (fun e => hab (by rw [← e])), cell_drewN]
    exact hca
  generalize bs[k] = c at *
  clear hl hb
  go_enter Tryd.func74, Tryd.ntmps74
  go_wp2
  go_quiet (fail)
  go_wp2
  go_quiet (fail)
  go_wp2
  go_ret
  exact ⟨rfl, HR.out.moved _ _ hk⟩

theorem grown_drewN (w : World) (n : Nat) : w.grownBy (w.drewN n) none := by
  obtain ⟨s1, s2, s3, s4⟩ := drewN_same w n
  exact ⟨s2, s3, s4, by rw [s1]; exact Nat.le_refl _, fun k _ _ => by rw [s1]⟩

/-- What ends a reading. -/
def faultV (n k : Int) : Value := .iface 102 (.agg #[.int .i64 n, .int .i64 k])

set_option maxHeartbeats 1000000 in
set_option maxRecDepth 100000 in
theorem fail_any (b : Nat) (n k : Int) (w : World) :
    Calls Tryd.prog 75 #[.pointer (some ⟨b, 0, none⟩), .int .i64 n, .int .i64 k] w fun e w' => e = .panicked [{ v := faultV n k, recovered := false }] ∧ w' = w := by
  go_enter Tryd.func75, Tryd.ntmps75
  go_wp2
  exact ⟨rfl, rfl, rfl⟩

set_option maxHeartbeats 1000000 in
set_option maxRecDepth 100000 in
theorem byte_out (b : Nat) (ao : Option Addr) (ca : Nat) (bs : List UInt8) (w : World) (hR : RAt w b ao ca bs bs.length) :
    Calls Tryd.prog 74 #[.pointer (some ⟨b, 0, none⟩)] w fun e w' => e = .panicked [{ v := faultV 81 bs.length, recovered := false }] ∧ w.grownBy w' none := by
  obtain ⟨hb, hl, hne, hlen, hat⟩ := hR
  have c0 := cell_at hb 0
  have c1 := cell_at hb 1
  clear hb hl hne hat
  go_enter Tryd.func74, Tryd.ntmps74
  go_wp2
  go_quiet (fail)
  go_wp2_with fail
  refine (fail_any b 81 bs.length _).mono ?_
  rintro e w' ⟨rfl, rfl⟩
  exact ⟨rfl, rfl, grown_drewN w _⟩
end Go.Proofs.YtfjiikadnlhekaaDoor
