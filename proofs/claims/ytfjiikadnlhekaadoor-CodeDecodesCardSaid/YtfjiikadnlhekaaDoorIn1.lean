/-
  What is proved here: the reference's reader: bad, fail, byte. A fault sticks. Conditions: the reader lies in memory.
-/
import Derived.Test.YtfjiikadnlhekaaDoorRead
namespace Go.Proofs.YtfjiikadnlhekaaDoor
open Go.RowKit

/-- The reference's reader lies in block b: its bytes, its place, its fault. -/
def IAt (w : World) (b : Nat) (ao : Option Addr) (ca : Nat) (bs : List UInt8) (k : Nat) (e p : Int) : Prop :=
  w.heap[b]? = some (.cells #[.slice ao bs.length ca, .int .i64 (k : Int), .int .i64 e, .int .i64 p] 109 (0, 0)) ∧ Lies w ao (bcells bs) ∧ (∀ a, ao = some a → a.block ≠ b) ∧ bs.length ≤ 1099511627776 ∧ k ≤ bs.length
/-- A world that is another but for block b. -/
structure But (w w' : World) (b : Nat) : Prop where
  os : w'.os = w.os
  tape : w'.tape = w.tape
  output : w'.output = w.output
  size : w'.heap.size = w.heap.size
  block : ∀ j, j ≠ b → w'.heap[j]? = w.heap[j]?
theorem But.grown {w w' : World} {b : Nat} (h : But w w' b) : w.grownBy w' (some b) := ⟨h.os, h.tape, h.output, Nat.le_of_eq h.size.symm, fun k _ hk => h.block k (fun e => hk (by rw [e]))⟩
theorem But.refl (w : World) (b : Nat) : But w w b := ⟨rfl, rfl, rfl, rfl, fun _ _ => rfl⟩
theorem But.set {w w' : World} {b : Nat} (h : But w w' b) (i : Nat) (v : Value) : But w (w'.setCell ⟨b, i, none⟩ v) b :=
  ⟨h.os, h.tape, h.output, by rw [← h.size]; simp [World.setCell], fun j hj => (set_other i v hj).trans (h.block j hj)⟩
theorem But.drewN {w w' : World} {b : Nat} (h : But w w' b) (n : Nat) : But w (w'.drewN n) b := by
  obtain ⟨s1, s2, s3, s4⟩ := drewN_same w' n
  exact ⟨s2.trans h.os, s3.trans h.tape, s4.trans h.output, by rw [s1]; exact h.size, fun j hj => by rw [s1]; exact h.block j hj⟩
theorem IAt.but {w w' : World} {b : Nat} {ao : Option Addr} {ca : Nat} {bs : List UInt8} {k k' : Nat} {e p e' p' : Int} (h : IAt w b ao ca bs k e p) (hb : But w w' b) (hk : k' ≤ bs.length)
    (hc : w'.heap[b]? = some (.cells #[.slice ao bs.length ca, .int .i64 (k' : Int), .int .i64 e', .int .i64 p'] 109 (0, 0))) : IAt w' b ao ca bs k' e' p' :=
  ⟨hc, h.2.1.kept (fun a ha => hb.block _ (h.2.2.1 a ha)), h.2.2.1, h.2.2.2.1, hk⟩

set_option maxHeartbeats 1000000 in
set_option maxRecDepth 100000 in
theorem ibad_any (b : Nat) (ao : Option Addr) (ca : Nat) (bs : List UInt8) (k : Nat) (f p : Int) (w : World) (hR : IAt w b ao ca bs k f p) :
    Calls Tryd.prog 53 #[.pointer (some ⟨b, 0, none⟩)] w fun e w' => e = .returned (.bool (decide (f ≠ 0))) ∧ w' = w := by
  have c2 := cell_at hR.1 2
  clear hR
  by_cases hf : f = 0
  · subst hf
    go_enter Tryd.func53, Tryd.ntmps53
    go_wp2
    go_ret
    exact ⟨rfl, rfl⟩
  · have h1 : decide (f ≠ 0) = true := by simpa using hf
    have h2 : (f != 0) = true := by simpa using hf
    rw [h1]
    go_enter Tryd.func53, Tryd.ntmps53
    go_wp2
    go_ret
    exact ⟨by simp, rfl⟩

set_option maxHeartbeats 1000000 in
set_option maxRecDepth 100000 in
theorem ifail_set (b : Nat) (ao : Option Addr) (ca : Nat) (bs : List UInt8) (k : Nat) (p n q : Int) (w : World) (hR : IAt w b ao ca bs k 0 p) :
    Calls Tryd.prog 54 #[.pointer (some ⟨b, 0, none⟩), .int .i64 n, .int .i64 q] w fun e w' => e = .returned (.tuple #[]) ∧ IAt w' b ao ca bs k n q ∧ But w w' b := by
  have HR := Lib.hid hR
  have hc := hR.1
  have c2 := cell_at hc 2
  have c3 := cell_at hc 3
  have q2 := free_at hc 2
  have q3 := free_at hc 3
  have hset := Lib.hid (set_block (set_block hc 2 (.int .i64 n)) 3 (.int .i64 q))
  have hbut : Hid (But w ((w.setCell ⟨b, 2, none⟩ (.int .i64 n)).setCell ⟨b, 3, none⟩ (.int .i64 q)) b) := Lib.hid (((But.refl w b).set 2 _).set 3 _)
  clear hR hc
  go_enter Tryd.func54, Tryd.ntmps54
  go_wp2
  go_end0
  exact ⟨rfl, HR.out.but hbut.out HR.out.2.2.2.2 hset.out, hbut.out⟩

set_option maxHeartbeats 1000000 in
set_option maxRecDepth 100000 in
theorem ifail_stay (b : Nat) (ao : Option Addr) (ca : Nat) (bs : List UInt8) (k : Nat) (f p n q : Int) (hf : f ≠ 0) (w : World) (hR : IAt w b ao ca bs k f p) :
    Calls Tryd.prog 54 #[.pointer (some ⟨b, 0, none⟩), .int .i64 n, .int .i64 q] w fun e w' => e = .returned (.tuple #[]) ∧ w' = w := by
  have c2 := cell_at hR.1 2
  have h1 : decide (f = 0) = false := by simpa using hf
  have h2 : (f == 0) = false := by simpa using hf
  clear hR
  go_enter Tryd.func54, Tryd.ntmps54
  go_wp2
  go_end0
  exact ⟨rfl, rfl⟩
end Go.Proofs.YtfjiikadnlhekaaDoor
