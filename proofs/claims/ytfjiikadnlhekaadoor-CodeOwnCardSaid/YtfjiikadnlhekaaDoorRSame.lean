/-
  What is proved here: the reference's Same tells whether two programs are the same ('prgEq'). Conditions: the programs lie in memory.
-/
import Derived.Test.YtfjiikadnlhekaaDoorSame
namespace Go.Proofs.YtfjiikadnlhekaaDoor
open Go.RowKit

theorem prg_len (P Q : Prg) (h : P.ghost.length ≠ Q.ghost.length ∨ P.vars.length ≠ Q.vars.length ∨ P.tags.length ≠ Q.tags.length ∨ P.on.length ≠ Q.on.length ∨ P.code.length ≠ Q.code.length ∨ P.miss ≠ Q.miss) : prgEq P Q = false := by
  rw [Bool.eq_false_iff]
  intro e
  simp only [prgEq, Bool.and_eq_true, beq_iff_eq] at e
  obtain ⟨e0, e1, e2, e3, e4, e5⟩ := e
  rw [e0, e1, e2, e3, e4, e5] at h
  simp at h
theorem prg_ne (P Q : Prg) (h : P.ghost ≠ Q.ghost ∨ P.vars ≠ Q.vars ∨ P.tags ≠ Q.tags ∨ P.on ≠ Q.on ∨ P.code ≠ Q.code) : prgEq P Q = false := by
  rw [Bool.eq_false_iff]
  intro e
  simp only [prgEq, Bool.and_eq_true, beq_iff_eq] at e
  obtain ⟨e0, e1, e2, e3, e4, e5⟩ := e
  rw [e0, e1, e2, e3, e5] at h
  simp at h

set_option maxHeartbeats 8000000 in
set_option maxRecDepth 100000 in
theorem rsame_any (s r : Spots) (P Q : Prg) (w : World) (hP : PAt w s P) (hQ : PAt w r Q) :
    Calls Tryd.prog 22 #[pval s P, pval r Q] w fun e w' => e = .returned (.bool (prgEq P Q)) ∧ Below w.heap.size w w' := by
  obtain ⟨fA, fB, hbA⟩ := two_blocks w s r P Q 27
  unfold pcells at fA fB hbA
  generalize hA : (w.alloc (.cells #[.slice s.a0 P.ghost.length s.c0, .slice s.a1 P.vars.length s.c1, .slice s.a2 P.tags.length s.c2, .slice s.a3 P.on.length s.c3, .int .i64 P.miss, .slice s.a4 P.code.length s.c4] 27)).alloc (.cells #[.slice r.a0 Q.ghost.length r.c0, .slice r.a1 Q.vars.length r.c1, .slice r.a2 Q.tags.length r.c2, .slice r.a3 Q.on.length r.c3, .int .i64 Q.miss, .slice r.a4 Q.code.length r.c4] 27) = wA at fA fB hbA
  have HP := Lib.hid (hP.below hbA)
  have HQ := Lib.hid (hQ.below hbA)
  have FA := Lib.hid fA
  have FB := Lib.hid fB
  have hbA' : Below wA.heap.size wA wA := Below.refl _ _
  have hzA := hbA.size
  have xa0 := fA.f0
  have xa1 := fA.f1
  have xa2 := fA.f2
  have xa3 := fA.f3
  have xa4 := fA.f4
  have xa5 := fA.f5
  have xb0 := fB.f0
  have xb1 := fB.f1
  have xb2 := fB.f2
  have xb3 := fB.f3
  have xb4 := fB.f4
  have xb5 := fB.f5
  clear hP hQ fA fB
  by_cases hlen : P.ghost.length ≠ Q.ghost.length ∨ P.vars.length ≠ Q.vars.length ∨ P.tags.length ≠ Q.tags.length ∨ P.on.length ≠ Q.on.length ∨ P.code.length ≠ Q.code.length ∨ P.miss ≠ Q.miss
  · have hne := Lib.hid (prg_len P Q hlen)
    unfold pval
    clear HP HQ
    by_cases g0 : P.ghost.length = Q.ghost.length
    rotate_left
    · clear hlen
      go_enter Tryd.func22, Tryd.ntmps22
      go_wp2
      go_ret
      exact ⟨ret_bool hne.out, by first | exact hbA | exact hbA.drew | exact ((Below.refl _ w).alloc (Nat.le_refl _) _).alloc (by simp) _⟩
    by_cases g1 : P.vars.length = Q.vars.length
    rotate_left
    · clear hlen
      go_enter Tryd.func22, Tryd.ntmps22
      go_wp2
      go_ret
      exact ⟨ret_bool hne.out, by first | exact hbA | exact hbA.drew | exact ((Below.refl _ w).alloc (Nat.le_refl _) _).alloc (by simp) _⟩
    by_cases g2 : P.tags.length = Q.tags.length
    rotate_left
    · clear hlen
      go_enter Tryd.func22, Tryd.ntmps22
      go_wp2
      go_ret
      exact ⟨ret_bool hne.out, by first | exact hbA | exact hbA.drew | exact ((Below.refl _ w).alloc (Nat.le_refl _) _).alloc (by simp) _⟩
    by_cases g3 : P.on.length = Q.on.length
    rotate_left
    · clear hlen
      go_enter Tryd.func22, Tryd.ntmps22
      go_wp2
      go_ret
      exact ⟨ret_bool hne.out, by first | exact hbA | exact hbA.drew | exact ((Below.refl _ w).alloc (Nat.le_refl _) _).alloc (by simp) _⟩
    by_cases g4 : P.code.length = Q.code.length
    rotate_left
    · clear hlen
      go_enter Tryd.func22, Tryd.ntmps22
      go_wp2
      go_ret
      exact ⟨ret_bool hne.out, by first | exact hbA | exact hbA.drew | exact ((Below.refl _ w).alloc (Nat.le_refl _) _).alloc (by simp) _⟩
    by_cases g5 : P.miss = Q.miss
    rotate_left
    · clear hlen
      go_enter Tryd.func22, Tryd.ntmps22
      go_wp2
      go_ret
      exact ⟨ret_bool hne.out, by first | exact hbA | exact hbA.drew | exact ((Below.refl _ w).alloc (Nat.le_refl _) _).alloc (by simp) _⟩
    exact absurd hlen (by simp [g0, g1, g2, g3, g4, g5])
  · have hl : P.ghost.length = Q.ghost.length ∧ P.vars.length = Q.vars.length ∧ P.tags.length = Q.tags.length ∧ P.on.length = Q.on.length ∧ P.code.length = Q.code.length ∧ P.miss = Q.miss := by
      simp only [not_or, Decidable.not_not] at hlen
      exact hlen
    clear hlen
    have HL := Lib.hid hl
    unfold pval
    rw [hl.1, hl.2.1, hl.2.2.1, hl.2.2.2.1, hl.2.2.2.2.1, hl.2.2.2.2.2]
    rw [hl.1] at xa0
    rw [hl.2.1] at xa1
    rw [hl.2.2.1] at xa2
    rw [hl.2.2.2.1] at xa3
    rw [hl.2.2.2.2.2] at xa4
    rw [hl.2.2.2.2.1] at xa5
    rw [hl.1, hl.2.1, hl.2.2.1, hl.2.2.2.1, hl.2.2.2.2.1, hl.2.2.2.2.2] at hA
    have q0 := HQ.out.lghost
    have q1 := HQ.out.lvars
    have q2 := HQ.out.ltags
    have q3 := HQ.out.lon
    have q4 := HQ.out.lcode
    have FA2 : Hid (Fields wA w.heap.size s Q) := Lib.hid ⟨xa0, xa1, xa2, xa3, xa4, xa5⟩
    clear hl FA
    go_enter Tryd.func22, Tryd.ntmps22
    go_wp2
    clear xa0 xa1 xa2 xa3 xa4 xa5 xb0 xb1 xb2 xb3 xb4 xb5 hA
    go_loopw [5] (fun i wr => ∃ k : Nat, k ≤ Q.ghost.length ∧ i = .int .i64 k ∧ Hid (P.ghost.take k = Q.ghost.take k) ∧ Below wA.heap.size wA wr) (fun i _ => Q.ghost.length + 1 - (intOf i).toNat)
    case atStart => exact ⟨0, Nat.zero_le _, rfl, Lib.hid (by simp), by first | exact hbA' | exact hbA'.drew | exact hbA'.drew.drew | exact hbA'.drew.drew.drew | exact below_drewN hbA' _⟩
    case round =>
      obtain ⟨k0, hk0, rfl, he0, hb0⟩ := hrel
      have ya0 := (FA2.out.below hb0).f0
      have yb0 := (FB.out.below hb0).f0
      by_cases hlt : k0 < Q.ghost.length
      · have hxl : k0 < P.ghost.length := by rw [HL.out.1]; exact hlt
        obtain ⟨a, ha, hca⟩ := (HP.out.below hb0).ghost.at k0 (by rw [bools_length]; exact hxl)
        obtain ⟨b, hbb, hcb⟩ := (HQ.out.below hb0).ghost.at k0 (by rw [bools_length]; exact hlt)
        simp only [bools, List.getElem_map] at hca hcb
        rw [ha] at ya0
        rw [hbb] at yb0
        have HN : Hid (P.ghost[k0] = Q.ghost[k0] → P.ghost.take (k0 + 1) = Q.ghost.take (k0 + 1)) := Lib.hid (take_more _ _ k0 hxl hlt he0.out)
        have HE : Hid (P.ghost[k0] ≠ Q.ghost[k0] → prgEq P Q = false) := Lib.hid (fun h' => prg_ne P Q (by have h := ne_at P.ghost Q.ghost k0 hxl hlt h'; exact Or.inl h))
        generalize P.ghost[k0] = u at *
        generalize Q.ghost[k0] = v at *
        clear he0 HP HQ hxl ha hbb FA2 FB HL
        by_cases huv : u = v
        · subst huv
          have HN2 := Lib.hid (HN.out rfl)
          clear HN HE
          go_wp2
          go_quiet (fail)
          go_wp2
          go_roundw
          case rel => exact ⟨k0 + 1, by omega, by go_num, HN2, below_drewN hb0 _⟩
          case measure => simp [intOf]; omega
        · have hbu : (u == v) = false := by rw [beq_eq_false_iff_ne]; exact huv
          have HE2 := Lib.hid (HE.out huv)
          clear HN HE
          go_wp2
          go_quiet (fail)
          go_wp2
          go_ret
          exact ⟨ret_bool HE2.out, hbA.trans ((below_drewN hb0 _).mono hzA)⟩
      · have hkl : k0 = Q.ghost.length := by omega
        have eq0 : Hid (P.ghost = Q.ghost) := Lib.hid (by
          have h := he0.out
          rw [hkl] at h
          exact take_all _ _ HL.out.1 (by rw [HL.out.1]; exact h))
        subst hkl
        clear he0
        go_wp2
        clear ya0 yb0
        go_loopw [6] (fun i wr => ∃ k : Nat, k ≤ Q.vars.length ∧ i = .int .i64 k ∧ Hid (P.vars.take k = Q.vars.take k) ∧ Below wA.heap.size wA wr) (fun i _ => Q.vars.length + 1 - (intOf i).toNat)
        case atStart => exact ⟨0, Nat.zero_le _, rfl, Lib.hid (by simp), by first | exact hb0 | exact hb0.drew | exact hb0.drew.drew | exact hb0.drew.drew.drew | exact below_drewN hb0 _⟩
        case round =>
          obtain ⟨k1, hk1, rfl, he1, hb1⟩ := hrel
          have ya1 := (FA2.out.below hb1).f1
          have yb1 := (FB.out.below hb1).f1
          by_cases hlt : k1 < Q.vars.length
          · have hxl : k1 < P.vars.length := by rw [HL.out.2.1]; exact hlt
            obtain ⟨a, ha, hca⟩ := (HP.out.below hb1).vars.row 3 (fun _ => rfl) (by decide) k1 hxl
            obtain ⟨b, hbb, hcb⟩ := (HQ.out.below hb1).vars.row 3 (fun _ => rfl) (by decide) k1 hlt
            rw [ha] at ya1
            rw [hbb] at yb1
            have HN : Hid (P.vars[k1] = Q.vars[k1] → P.vars.take (k1 + 1) = Q.vars.take (k1 + 1)) := Lib.hid (take_more _ _ k1 hxl hlt he1.out)
            have HE : Hid (P.vars[k1] ≠ Q.vars[k1] → prgEq P Q = false) := Lib.hid (fun h' => prg_ne P Q (by have h := ne_at P.vars Q.vars k1 hxl hlt h'; exact Or.inr (Or.inl h)))
            generalize P.vars[k1] = u at *
            generalize Q.vars[k1] = v at *
            obtain ⟨u0, u1, u2⟩ := u
            obtain ⟨v0, v1, v2⟩ := v
            have a0 : wr.cell? (a.add (k1 * 3)) = some (.int .i64 u0) := by have h := hca 0 _ rfl; rwa [add_zero'] at h
            have a1 : wr.cell? ⟨(a.add (k1 * 3)).block, (a.add (k1 * 3)).off + 1, none⟩ = some (.int .i64 u1) := by have h := hca 1 _ rfl; rwa [add_pos' _ _ (by decide)] at h
            have a2 : wr.cell? ⟨(a.add (k1 * 3)).block, (a.add (k1 * 3)).off + 2, none⟩ = some (.int .i64 u2) := by have h := hca 2 _ rfl; rwa [add_pos' _ _ (by decide)] at h
            have b0 : wr.cell? (b.add (k1 * 3)) = some (.int .i64 v0) := by have h := hcb 0 _ rfl; rwa [add_zero'] at h
            have b1 : wr.cell? ⟨(b.add (k1 * 3)).block, (b.add (k1 * 3)).off + 1, none⟩ = some (.int .i64 v1) := by have h := hcb 1 _ rfl; rwa [add_pos' _ _ (by decide)] at h
            have b2 : wr.cell? ⟨(b.add (k1 * 3)).block, (b.add (k1 * 3)).off + 2, none⟩ = some (.int .i64 v2) := by have h := hcb 2 _ rfl; rwa [add_pos' _ _ (by decide)] at h
            clear he1 HP HQ hxl hca hcb ha hbb FA2 FB HL
            by_cases h0 : u0 = v0
            · subst h0
              by_cases h1 : u1 = v1
              · subst h1
                by_cases h2 : u2 = v2
                · subst h2
                  have HN2 := Lib.hid (HN.out rfl)
                  clear HN HE
                  go_wp2
                  go_quiet (fail)
                  go_wp2
                  go_roundw
                  case rel => exact ⟨k1 + 1, by omega, by go_num, HN2, below_drewN hb1 _⟩
                  case measure => simp [intOf]; omega
                · have HE2 := Lib.hid (HE.out (by simp [h2]))
                  clear HN HE
                  go_wp2
                  go_quiet (fail)
                  go_wp2
                  go_ret
                  exact ⟨ret_bool HE2.out, hbA.trans ((below_drewN hb1 _).mono hzA)⟩
              · have HE2 := Lib.hid (HE.out (by simp [h1]))
                clear HN HE
                go_wp2
                go_quiet (fail)
                go_wp2
                go_ret
                exact ⟨ret_bool HE2.out, hbA.trans ((below_drewN hb1 _).mono hzA)⟩
            · have HE2 := Lib.hid (HE.out (by simp [h0]))
              clear HN HE
              go_wp2
              go_quiet (fail)
              go_wp2
              go_ret
              exact ⟨ret_bool HE2.out, hbA.trans ((below_drewN hb1 _).mono hzA)⟩
          · have hkl : k1 = Q.vars.length := by omega
            have eq1 : Hid (P.vars = Q.vars) := Lib.hid (by
              have h := he1.out
              rw [hkl] at h
              exact take_all _ _ HL.out.2.1 (by rw [HL.out.2.1]; exact h))
            subst hkl
            clear he1
            go_wp2
            clear ya1 yb1
            go_loopw [7] (fun i wr => ∃ k : Nat, k ≤ Q.tags.length ∧ i = .int .i64 k ∧ Hid (P.tags.take k = Q.tags.take k) ∧ Below wA.heap.size wA wr) (fun i _ => Q.tags.length + 1 - (intOf i).toNat)
            case atStart => exact ⟨0, Nat.zero_le _, rfl, Lib.hid (by simp), by first | exact hb1 | exact hb1.drew | exact hb1.drew.drew | exact hb1.drew.drew.drew | exact below_drewN hb1 _⟩
            case round =>
              obtain ⟨k2, hk2, rfl, he2, hb2⟩ := hrel
              have ya2 := (FA2.out.below hb2).f2
              have yb2 := (FB.out.below hb2).f2
              by_cases hlt : k2 < Q.tags.length
              · have hxl : k2 < P.tags.length := by rw [HL.out.2.2.1]; exact hlt
                obtain ⟨a, ha, hca⟩ := (HP.out.below hb2).tags.at k2 (by rw [nums_length]; exact hxl)
                obtain ⟨b, hbb, hcb⟩ := (HQ.out.below hb2).tags.at k2 (by rw [nums_length]; exact hlt)
                simp only [nums, List.getElem_map] at hca hcb
                rw [ha] at ya2
                rw [hbb] at yb2
                have HN : Hid (P.tags[k2] = Q.tags[k2] → P.tags.take (k2 + 1) = Q.tags.take (k2 + 1)) := Lib.hid (take_more _ _ k2 hxl hlt he2.out)
                have HE : Hid (P.tags[k2] ≠ Q.tags[k2] → prgEq P Q = false) := Lib.hid (fun h' => prg_ne P Q (by have h := ne_at P.tags Q.tags k2 hxl hlt h'; exact Or.inr (Or.inr (Or.inl h))))
                generalize P.tags[k2] = u at *
                generalize Q.tags[k2] = v at *
                clear he2 HP HQ hxl ha hbb FA2 FB HL
                by_cases huv : u = v
                · subst huv
                  have HN2 := Lib.hid (HN.out rfl)
                  clear HN HE
                  go_wp2
                  go_quiet (fail)
                  go_wp2
                  go_roundw
                  case rel => exact ⟨k2 + 1, by omega, by go_num, HN2, below_drewN hb2 _⟩
                  case measure => simp [intOf]; omega
                · have hbu : (u == v) = false := by rw [beq_eq_false_iff_ne]; exact huv
                  have HE2 := Lib.hid (HE.out huv)
                  clear HN HE
                  go_wp2
                  go_quiet (fail)
                  go_wp2
                  go_ret
                  exact ⟨ret_bool HE2.out, hbA.trans ((below_drewN hb2 _).mono hzA)⟩
              · have hkl : k2 = Q.tags.length := by omega
                have eq2 : Hid (P.tags = Q.tags) := Lib.hid (by
                  have h := he2.out
                  rw [hkl] at h
                  exact take_all _ _ HL.out.2.2.1 (by rw [HL.out.2.2.1]; exact h))
                subst hkl
                clear he2
                go_wp2
                clear ya2 yb2
                go_loopw [8] (fun i wr => ∃ k : Nat, k ≤ Q.on.length ∧ i = .int .i64 k ∧ Hid (P.on.take k = Q.on.take k) ∧ Below wA.heap.size wA wr) (fun i _ => Q.on.length + 1 - (intOf i).toNat)
                case atStart => exact ⟨0, Nat.zero_le _, rfl, Lib.hid (by simp), by first | exact hb2 | exact hb2.drew | exact hb2.drew.drew | exact hb2.drew.drew.drew | exact below_drewN hb2 _⟩
                case round =>
                  obtain ⟨k3, hk3, rfl, he3, hb3⟩ := hrel
                  have ya3 := (FA2.out.below hb3).f3
                  have yb3 := (FB.out.below hb3).f3
                  by_cases hlt : k3 < Q.on.length
                  · have hxl : k3 < P.on.length := by rw [HL.out.2.2.2.1]; exact hlt
                    obtain ⟨a, ha, hca⟩ := (HP.out.below hb3).on.at k3 (by rw [nums_length]; exact hxl)
                    obtain ⟨b, hbb, hcb⟩ := (HQ.out.below hb3).on.at k3 (by rw [nums_length]; exact hlt)
                    simp only [nums, List.getElem_map] at hca hcb
                    rw [ha] at ya3
                    rw [hbb] at yb3
                    have HN : Hid (P.on[k3] = Q.on[k3] → P.on.take (k3 + 1) = Q.on.take (k3 + 1)) := Lib.hid (take_more _ _ k3 hxl hlt he3.out)
                    have HE : Hid (P.on[k3] ≠ Q.on[k3] → prgEq P Q = false) := Lib.hid (fun h' => prg_ne P Q (by have h := ne_at P.on Q.on k3 hxl hlt h'; exact Or.inr (Or.inr (Or.inr (Or.inl h)))))
                    generalize P.on[k3] = u at *
                    generalize Q.on[k3] = v at *
                    clear he3 HP HQ hxl ha hbb FA2 FB HL
                    by_cases huv : u = v
                    · subst huv
                      have HN2 := Lib.hid (HN.out rfl)
                      clear HN HE
                      go_wp2
                      go_quiet (fail)
                      go_wp2
                      go_roundw
                      case rel => exact ⟨k3 + 1, by omega, by go_num, HN2, below_drewN hb3 _⟩
                      case measure => simp [intOf]; omega
                    · have hbu : (u == v) = false := by rw [beq_eq_false_iff_ne]; exact huv
                      have HE2 := Lib.hid (HE.out huv)
                      clear HN HE
                      go_wp2
                      go_quiet (fail)
                      go_wp2
                      go_ret
                      exact ⟨ret_bool HE2.out, hbA.trans ((below_drewN hb3 _).mono hzA)⟩
                  · have hkl : k3 = Q.on.length := by omega
                    have eq3 : Hid (P.on = Q.on) := Lib.hid (by
                      have h := he3.out
                      rw [hkl] at h
                      exact take_all _ _ HL.out.2.2.2.1 (by rw [HL.out.2.2.2.1]; exact h))
                    subst hkl
                    clear he3
                    go_wp2
                    clear ya3 yb3
                    go_loopw [9] (fun i wr => ∃ k : Nat, k ≤ Q.code.length ∧ i = .int .i64 k ∧ Hid (P.code.take k = Q.code.take k) ∧ Below wA.heap.size wA wr) (fun i _ => Q.code.length + 1 - (intOf i).toNat)
                    case atStart => exact ⟨0, Nat.zero_le _, rfl, Lib.hid (by simp), by first | exact hb3 | exact hb3.drew | exact hb3.drew.drew | exact hb3.drew.drew.drew | exact below_drewN hb3 _⟩
                    case round =>
                      obtain ⟨k4, hk4, rfl, he4, hb4⟩ := hrel
                      have ya4 := (FA2.out.below hb4).f5
                      have yb4 := (FB.out.below hb4).f5
                      by_cases hlt : k4 < Q.code.length
                      · have hxl : k4 < P.code.length := by rw [HL.out.2.2.2.2.1]; exact hlt
                        obtain ⟨a, ha, hca⟩ := (HP.out.below hb4).code.row 5 (fun _ => rfl) (by decide) k4 hxl
                        obtain ⟨b, hbb, hcb⟩ := (HQ.out.below hb4).code.row 5 (fun _ => rfl) (by decide) k4 hlt
                        rw [ha] at ya4
                        rw [hbb] at yb4
                        have HN : Hid (P.code[k4] = Q.code[k4] → P.code.take (k4 + 1) = Q.code.take (k4 + 1)) := Lib.hid (take_more _ _ k4 hxl hlt he4.out)
                        have HE : Hid (P.code[k4] ≠ Q.code[k4] → prgEq P Q = false) := Lib.hid (fun h' => prg_ne P Q (by have h := ne_at P.code Q.code k4 hxl hlt h'; exact Or.inr (Or.inr (Or.inr (Or.inr h)))))
                        generalize P.code[k4] = u at *
                        generalize Q.code[k4] = v at *
                        obtain ⟨u0, u1, u2, u3, u4⟩ := u
                        obtain ⟨v0, v1, v2, v3, v4⟩ := v
                        have a0 : wr.cell? (a.add (k4 * 5)) = some (.int .i64 u0) := by have h := hca 0 _ rfl; rwa [add_zero'] at h
                        have a1 : wr.cell? ⟨(a.add (k4 * 5)).block, (a.add (k4 * 5)).off + 1, none⟩ = some (.int .i64 u1) := by have h := hca 1 _ rfl; rwa [add_pos' _ _ (by decide)] at h
                        have a2 : wr.cell? ⟨(a.add (k4 * 5)).block, (a.add (k4 * 5)).off + 2, none⟩ = some (.int .i64 u2) := by have h := hca 2 _ rfl; rwa [add_pos' _ _ (by decide)] at h
                        have a3 : wr.cell? ⟨(a.add (k4 * 5)).block, (a.add (k4 * 5)).off + 3, none⟩ = some (.int .i64 u3) := by have h := hca 3 _ rfl; rwa [add_pos' _ _ (by decide)] at h
                        have a4 : wr.cell? ⟨(a.add (k4 * 5)).block, (a.add (k4 * 5)).off + 4, none⟩ = some (.int .i64 u4) := by have h := hca 4 _ rfl; rwa [add_pos' _ _ (by decide)] at h
                        have b0 : wr.cell? (b.add (k4 * 5)) = some (.int .i64 v0) := by have h := hcb 0 _ rfl; rwa [add_zero'] at h
                        have b1 : wr.cell? ⟨(b.add (k4 * 5)).block, (b.add (k4 * 5)).off + 1, none⟩ = some (.int .i64 v1) := by have h := hcb 1 _ rfl; rwa [add_pos' _ _ (by decide)] at h
                        have b2 : wr.cell? ⟨(b.add (k4 * 5)).block, (b.add (k4 * 5)).off + 2, none⟩ = some (.int .i64 v2) := by have h := hcb 2 _ rfl; rwa [add_pos' _ _ (by decide)] at h
                        have b3 : wr.cell? ⟨(b.add (k4 * 5)).block, (b.add (k4 * 5)).off + 3, none⟩ = some (.int .i64 v3) := by have h := hcb 3 _ rfl; rwa [add_pos' _ _ (by decide)] at h
                        have b4 : wr.cell? ⟨(b.add (k4 * 5)).block, (b.add (k4 * 5)).off + 4, none⟩ = some (.int .i64 v4) := by have h := hcb 4 _ rfl; rwa [add_pos' _ _ (by decide)] at h
                        clear he4 HP HQ hxl hca hcb ha hbb FA2 FB HL
                        by_cases h0 : u0 = v0
                        · subst h0
                          by_cases h1 : u1 = v1
                          · subst h1
                            by_cases h2 : u2 = v2
                            · subst h2
                              by_cases h3 : u3 = v3
                              · subst h3
                                by_cases h4 : u4 = v4
                                · subst h4
                                  have HN2 := Lib.hid (HN.out rfl)
                                  clear HN HE
                                  go_wp2
                                  go_quiet (fail)
                                  go_wp2
                                  go_roundw
                                  case rel => exact ⟨k4 + 1, by omega, by go_num, HN2, below_drewN hb4 _⟩
                                  case measure => simp [intOf]; omega
                                · have HE2 := Lib.hid (HE.out (by simp [h4]))
                                  clear HN HE
                                  go_wp2
                                  go_quiet (fail)
                                  go_wp2
                                  go_ret
                                  exact ⟨ret_bool HE2.out, hbA.trans ((below_drewN hb4 _).mono hzA)⟩
                              · have HE2 := Lib.hid (HE.out (by simp [h3]))
                                clear HN HE
                                go_wp2
                                go_quiet (fail)
                                go_wp2
                                go_ret
                                exact ⟨ret_bool HE2.out, hbA.trans ((below_drewN hb4 _).mono hzA)⟩
                            · have HE2 := Lib.hid (HE.out (by simp [h2]))
                              clear HN HE
                              go_wp2
                              go_quiet (fail)
                              go_wp2
                              go_ret
                              exact ⟨ret_bool HE2.out, hbA.trans ((below_drewN hb4 _).mono hzA)⟩
                          · have HE2 := Lib.hid (HE.out (by simp [h1]))
                            clear HN HE
                            go_wp2
                            go_quiet (fail)
                            go_wp2
                            go_ret
                            exact ⟨ret_bool HE2.out, hbA.trans ((below_drewN hb4 _).mono hzA)⟩
                        · have HE2 := Lib.hid (HE.out (by simp [h0]))
                          clear HN HE
                          go_wp2
                          go_quiet (fail)
                          go_wp2
                          go_ret
                          exact ⟨ret_bool HE2.out, hbA.trans ((below_drewN hb4 _).mono hzA)⟩
                      · have hkl : k4 = Q.code.length := by omega
                        have eq4 : Hid (P.code = Q.code) := Lib.hid (by
                          have h := he4.out
                          rw [hkl] at h
                          exact take_all _ _ HL.out.2.2.2.2.1 (by rw [HL.out.2.2.2.2.1]; exact h))
                        subst hkl
                        clear he4
                        go_wp2
                        go_ret
                        exact ⟨ret_bool (by simp [prgEq, eq0.out, eq1.out, eq2.out, eq3.out, eq4.out, HL.out.2.2.2.2.2]), hbA.trans (hb4.mono hzA)⟩
end Go.Proofs.YtfjiikadnlhekaaDoor
