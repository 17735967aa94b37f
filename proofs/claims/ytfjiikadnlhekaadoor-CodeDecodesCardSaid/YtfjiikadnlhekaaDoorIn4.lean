/-
  What is proved here: the reference's reader: num behind a fault; many. Conditions: the reader lies in memory.
-/
import Derived.Test.YtfjiikadnlhekaaDoorIn3
namespace Go.Proofs.YtfjiikadnlhekaaDoor
open Go.RowKit

set_option maxHeartbeats 2000000 in
set_option maxRecDepth 100000 in
theorem inum_bad (b : Nat) (ao : Option Addr) (ca : Nat) (bs : List UInt8) (k : Nat) (f p : Int) (hf : f ≠ 0) (w : World) (hR : IAt w b ao ca bs k f p) :
    Calls Tryd.prog 57 #[.pointer (some ⟨b, 0, none⟩)] w fun e w' => e = .returned (.tuple #[.int .u64 0, .int .i64 (k : Int)]) ∧ w' = w := by
  have c1 := cell_at hR.1 1
  have hb := ibyte_bad b ao ca bs k f p hf w hR
  have hbd := ibad_any b ao ca bs k f p w hR
  rw [show decide (f ≠ 0) = true by simpa using hf] at hbd
  clear hR hf
  go_enter Tryd.func57, Tryd.ntmps57
  go_wp2
  refine wp_loop_rounds 1 ?_
  rw [rounds_succ]
  go_wp2_with fail
  refine hb.mono ?_
  rintro e w1 ⟨rfl, rfl⟩
  go_wp2_with fail
  refine hbd.mono ?_
  rintro e w2 ⟨rfl, rfl⟩
  clear hb hbd
  go_wp2
  go_ret2
  exact ⟨rfl, rfl⟩

set_option maxHeartbeats 2000000 in
set_option maxRecDepth 100000 in
theorem imany_bad (b : Nat) (ao : Option Addr) (ca : Nat) (bs : List UInt8) (k : Nat) (most : Int) (f p : Int) (hf : f ≠ 0) (w : World) (hR : IAt w b ao ca bs k f p) :
    Calls Tryd.prog 55 #[.pointer (some ⟨b, 0, none⟩), .int .i64 most] w fun e w' => e = .returned (.int .i64 0) ∧ w' = w := by
  have hn := inum_bad b ao ca bs k f p hf w hR
  have hbd := ibad_any b ao ca bs k f p w hR
  rw [show decide (f ≠ 0) = true by simpa using hf] at hbd
  clear hR hf
  go_enter Tryd.func55, Tryd.ntmps55
  go_wp2_with fail
  refine hn.mono ?_
  rintro e w1 ⟨rfl, rfl⟩
  go_wp2_with fail
  refine hbd.mono ?_
  rintro e w2 ⟨rfl, rfl⟩
  clear hn hbd
  go_wp2
  go_ret
  exact ⟨rfl, rfl⟩

set_option maxHeartbeats 2000000 in
set_option maxRecDepth 100000 in
theorem iint_bad (b : Nat) (ao : Option Addr) (ca : Nat) (bs : List UInt8) (k : Nat) (f p : Int) (hf : f ≠ 0) (w : World) (hR : IAt w b ao ca bs k f p) :
    Calls Tryd.prog 56 #[.pointer (some ⟨b, 0, none⟩)] w fun e w' => e = .returned (.int .i64 0) ∧ w' = w := by
  have hn := inum_bad b ao ca bs k f p hf w hR
  clear hR hf
  go_enter Tryd.func56, Tryd.ntmps56
  go_wp2_with fail
  refine hn.mono ?_
  rintro e w1 ⟨rfl, rfl⟩
  clear hn
  go_wp2
  go_ret
  exact ⟨rfl, rfl⟩
end Go.Proofs.YtfjiikadnlhekaaDoor
