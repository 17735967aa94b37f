/-
  What is proved here: a text's Spot answers what the reference's Spot answers. Conditions: the text lies in memory ('TextAt'); fewer than 2^31 bytes.
-/
import Derived.Test.YtdmdfcdfmedhcaaDoorSpotLaw
namespace Go.Proofs.YtdmdfcdfmedhcaaDoor
open Go.RowKit

set_option maxHeartbeats 400000 in
theorem tSpot_out (p : Nat) (bs : List UInt8) (n : Int) (w : World) (hT : TextAt w p bs) (h : n < 0 ∨ (bs.length : Int) < n) :
    Calls Tryd.prog 20 #[.pointer (some ⟨p, 0, none⟩), .int .i64 n] w fun e w' => e = .returned (.tuple #[.int .i64 0, .int .i64 0, .int .i64 1]) ∧ Below w.heap.size w w' := by
  obtain ⟨g1, c1, g2, c2, _, _, h2, _, _⟩ := hT.open
  by_cases h0 : n < 0
  · clear h
    go_enter Tryd.func20, Tryd.ntmps20
    go_wp2
    go_ret3
    exact ⟨rfl, Below.refl _ _⟩
  · have h1 : (bs.length : Int) < n := by omega
    clear h
    go_enter Tryd.func20, Tryd.ntmps20
    go_wp2
    go_ret3
    exact ⟨rfl, Below.refl _ _⟩

set_option maxHeartbeats 2000000 in
set_option maxRecDepth 100000 in
theorem tSpot_in (p : Nat) (bs : List UInt8) (k : Nat) (w : World) (hT : TextAt w p bs) (hn : bs.length ≤ 2147483647) (hk : k ≤ bs.length) :
    Calls Tryd.prog 20 #[.pointer (some ⟨p, 0, none⟩), .int .i64 k] w fun e w' => e = .returned (.tuple #[.int .i64 (rowOf bs k : Nat), .int .i64 (colAt bs k : Nat), .int .i64 0]) ∧ Below w.heap.size w w' := by
  obtain ⟨g1, c1, g2, c2, h0, h1, h2, hS, hN⟩ := hT.open
  have hr := row_le bs k hk
  have hll := lns_length bs
  have hcl : bs.count 10 ≤ bs.length := List.count_le_length
  obtain ⟨hf1, hf2⟩ := row_from bs k hk
  obtain ⟨hs1, hs2, hs3⟩ := row_seg bs k hk (by omega)
  have hct := col_take bs k hk
  have hbg : ∀ j, j < (lns bs).length → w.cell? ⟨g2, j, none⟩ = some (.int .i64 (off (lns bs) j : Nat)) := fun j hj => by
    have := begs_get (lns bs) 0 j hj
    rw [Nat.zero_add] at this
    exact hN j _ this
  have hin : ∀ j, j < rowOf bs k → off (lns bs) j ≤ k := fun j hj => row_in bs k j hk hj
  have hout : rowOf bs k < (lns bs).length → k < off (lns bs) (rowOf bs k) := row_out bs k hk
  have hlc : w.cell? ⟨g1, rowOf bs k - 1, none⟩ = some (.string (segOf bs k)) := hS _ _ (by rw [hs1]; unfold linesOf; rw [List.getElem?_map, List.getElem?_eq_getElem (by omega)]; rfl)
  have hfc : w.cell? ⟨g2, rowOf bs k - 1, none⟩ = some (.int .i64 (fromOf bs k : Nat)) := by rw [hf1]; exact hbg _ (by omega)
  have hN2 : (lns bs).length ≤ 2147483648 := by omega
  have hsz : (segOf bs k).size ≤ 2147483647 := by
    have := off_line bs (rowOf bs k - 1) (by omega)
    rw [hs1, str_size]; omega
  rw [hct]
  clear hct hf1 hs1 hs2 hs3 hS hN hT
  generalize rowOf bs k = r at *
  generalize fromOf bs k = f at *
  generalize segOf bs k = s at *
  generalize off (lns bs) = F at *
  generalize (lns bs).length = N at *
  obtain ⟨r, rfl⟩ : ∃ r', r = r' + 1 := ⟨r - 1, by omega⟩
  rw [Nat.add_sub_cancel] at hlc hfc
  obtain ⟨C, hC⟩ : ∃ C, C = ((cols s).takeWhile (fun x => decide (x ≤ k - f))).length := ⟨_, rfl⟩
  rw [← hC]
  have HC := Lib.hid hC
  have HBG := Lib.hid hbg
  have HIN := Lib.hid hin
  have HOUT := Lib.hid hout
  clear hC hbg hin hout hll
  go_enter Tryd.func20, Tryd.ntmps20
  go_wp2
  go_loop [4] (fun l => ∃ j : Nat, j ≤ r + 1 ∧ l = .int .i64 j) (fun l => r + 1 - (intOf l).toNat)
  case atStart => exact ⟨0, Nat.zero_le _, rfl⟩
  case round =>
    obtain ⟨j, hj, rfl⟩ := hrel
    by_cases hlt : j < r + 1
    · have hc := HBG.out j (by omega)
      have hle := HIN.out j hlt
      generalize F j = x at *
      go_wp2
      go_round
      case rel => exact ⟨j + 1, by omega, by go_num⟩
      case measure => simp [intOf]; omega
    · obtain rfl : j = r + 1 := by omega
      clear hj hlt
      have HCI : Hid (∀ i, i < C → ∃ x, (cols s)[i]? = some x ∧ x ≤ k - f) := Lib.hid (fun i hi => by
        obtain ⟨x, hx, hq⟩ := takeWhile_in _ _ i (HC.out ▸ hi)
        exact ⟨x, hx, by simpa using hq⟩)
      have HCO : Hid (∀ x, (cols s)[C]? = some x → ¬ x ≤ k - f) := Lib.hid (fun x hx => by
        have := takeWhile_out (fun x => decide (x ≤ k - f)) (cols s) x (HC.out ▸ hx)
        simpa using this)
      have hCl : C ≤ (cols s).length := by rw [HC.out]; exact takeWhile_le _ _
      have hcs : (cols s).length ≤ 2147483648 := by have := starts_length s; unfold cols; simp; omega
      generalize hL : (cols s).length = L at *
      have HL := Lib.hid hL
      clear hL HC
      have hcell : (∃ x : Nat, r + 1 < N ∧ w.cell? ⟨g2, r + 1, none⟩ = some (.int .i64 (x : Int)) ∧ k < x) ∨ ¬ r + 1 < N := by
        by_cases h : r + 1 < N
        · exact .inl ⟨F (r + 1), h, HBG.out (r + 1) h, HOUT.out h⟩
        · exact .inr h
      clear HBG HIN HOUT
      rcases hcell with ⟨x, hrN, hc, hle⟩ | hrN
      all_goals
        go_wp2_with fail
        refine (pieces_any s _ (by omega)).mono ?_
        rintro e w1 ⟨g, cp, rfl, hNum, hg1, hg2, hcc, hcm, hb1⟩
        have HNUM := Lib.hid hNum
        have hl := HL.out
        rw [hl]
        have hl := Lib.hid hl
        clear hNum HL h0 h1 h2 hlc hfc hcc
        go_wp2
        go_loop [5, 60] (fun c i => ∃ j : Nat, j ≤ C ∧ c = .int .i64 j ∧ i = .int .i64 j) (fun c _ => C - (intOf c).toNat)
        case atStart => exact ⟨0, Nat.zero_le _, rfl, rfl⟩
        case round =>
          obtain ⟨j, hj, rfl, rfl⟩ := hrel
          by_cases hjC : j < C
          · obtain ⟨y, hy, hyl⟩ := HCI.out j hjC
            have hc2 := HNUM.out j y hy
            have HY := Lib.hid hy
            clear hy
            go_wp2
            go_round
            case rel => exact ⟨j + 1, by omega, by go_num, by go_num⟩
            case measure => simp [intOf]; omega
          · obtain rfl : j = C := by omega
            clear hj hjC
            rcases (show (∃ y : Nat, j < L ∧ w1.cell? ⟨g, j, none⟩ = some (.int .i64 (y : Int)) ∧ ¬ y ≤ k - f) ∨ ¬ j < L from by
              by_cases h : j < L
              · have hjl : j < (cols s).length := by rw [hl.out]; exact h
                exact .inl ⟨(cols s)[j], h, HNUM.out j _ (List.getElem?_eq_getElem hjl), HCO.out _ (List.getElem?_eq_getElem hjl)⟩
              · exact .inr h) with ⟨y, hjL, hc2, hyl⟩ | hjL
            all_goals
              clear HCO HCI HNUM
              go_wp2
              go_ret3
              exact ⟨rfl, hb1⟩

theorem tSpot_any (p : Nat) (bs : List UInt8) (n : Int) (w : World) (hT : TextAt w p bs) (hn : bs.length ≤ 2147483647) :
    Calls Tryd.prog 20 #[.pointer (some ⟨p, 0, none⟩), .int .i64 n] w fun e w' => e = .returned (.tuple #[.int .i64 (rSpot bs n).1, .int .i64 (rSpot bs n).2.1, .int .i64 (rSpot bs n).2.2]) ∧ Below w.heap.size w w' := by
  by_cases h : n < 0 ∨ (bs.length : Int) < n
  · have e1 : rSpot bs n = (0, 0, 1) := if_pos h
    rw [e1]
    exact tSpot_out p bs n w hT h
  · have e1 : rSpot bs n = (((rowOf bs n.toNat : Nat) : Int), ((colAt bs n.toNat : Nat) : Int), 0) := if_neg h
    rw [e1]
    obtain ⟨k, rfl⟩ : ∃ k : Nat, n = k := ⟨n.toNat, by omega⟩
    exact tSpot_in p bs k w hT hn (by omega)
end Go.Proofs.YtdmdfcdfmedhcaaDoor
