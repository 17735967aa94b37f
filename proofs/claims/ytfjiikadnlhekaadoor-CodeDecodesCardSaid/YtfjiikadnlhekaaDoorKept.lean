/-
  What is proved here: winnowlaw15.keptBytes: bytes that were lent and are as they were. Conditions: the bytes and the marks lie in memory.
-/
import Derived.Test.YtfjiikadnlhekaaDoorKnown
import Derived.Test.YtfjiikadnlhekaaDoorLawUnlike
namespace Go.Proofs.YtfjiikadnlhekaaDoor
open Go.RowKit

set_option maxHeartbeats 2000000 in
set_option maxRecDepth 100000 in
theorem kept_bytes (g : Nat) (ao : Option Addr) (ca : Nat) (bs : List UInt8) (w : World) (hL : Lies w (some ⟨g, 0, none⟩) (bcells (bs ++ [201, 201, 201, 201, 201]))) (hB : Lies w ao (bcells bs)) (hlen : bs.length ≤ 1099511627776) :
    Calls Tryd.prog 23 #[.slice (some ⟨g, 0, none⟩) bs.length (bs.length + 5), .slice ao bs.length ca] w fun e w' => e = .returned (.bool true) ∧ w' = w := by
  have hm : ∀ j, j < 5 → w.cell? ⟨g, bs.length + j, none⟩ = some (.int .u8 201) := fun j hj => by
    have hv : (bcells (bs ++ [201, 201, 201, 201, 201]))[bs.length + j]? = some (.int .u8 201) := by
      unfold bcells
      rw [List.getElem?_map, List.getElem?_append_right (by omega)]
      rcases (show j = 0 ∨ j = 1 ∨ j = 2 ∨ j = 3 ∨ j = 4 by omega) with rfl | rfl | rfl | rfl | rfl <;> simp
    obtain ⟨a, ha, hc⟩ := hL _ _ hv
    cases ha
    have e : (⟨g, 0, none⟩ : Addr).add (bs.length + j) = ⟨g, bs.length + j, none⟩ := by unfold Addr.add; split <;> simp_all
    rw [← e]
    exact hc
  have hb0 : Lies w (some ⟨g, 0, none⟩) (bcells bs) := fun i v hv => hL i v (by
    unfold bcells at hv ⊢
    rw [List.map_append, List.getElem?_append_left (by exact (List.getElem?_eq_some_iff.1 hv).1)]
    exact hv)
  have h1 := convert_str (cap := bs.length + 5) hb0
  have h2 := convert_str (cap := ca) hB
  have HM := Lib.hid hm
  have H1 := Lib.hid h1
  have H2 := Lib.hid h2
  clear hL hB hm hb0 h1 h2
  go_enter Tryd.func23, Tryd.ntmps23
  go_wp2
  go_loopw [6] (fun i wr => ∃ j : Nat, j ≤ 5 ∧ i = .int .i64 ((bs.length + j : Nat) : Int) ∧ wr = w) (fun i _ => bs.length + 6 - (intOf i).toNat)
  case atStart => exact ⟨0, by omega, by go_num, rfl⟩
  case round =>
    obtain ⟨j, hj, rfl, hwr⟩ := hrel
    subst hwr
    by_cases hlt : j < 5
    · have hc := HM.out j hlt
      go_wp2
      go_roundw
      case rel => exact ⟨j + 1, by omega, by go_num, trivial⟩
      case measure => simp [intOf]; omega
    · obtain rfl : j = 5 := by omega
      have h1 := H1.out
      have h2 := H2.out
      go_wp2
      go_ret
      exact ⟨by simp, rfl⟩
end Go.Proofs.YtfjiikadnlhekaaDoor
