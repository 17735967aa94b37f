/-
  What is proved here: slices.Equal on variables and on instructions tells whether two lists are the same. Conditions: the lists lie in memory.
-/
import Derived.Test.YtfjiikadnlhekaaDoorBase
namespace Go.Proofs.YtfjiikadnlhekaaDoor
open Go.RowKit

set_option maxHeartbeats 2000000 in
set_option maxRecDepth 100000 in
theorem equal_var3 (ao bo : Option Addr) (ca cb : Nat) (x y : List Var3) (w : World) (hx : Lies w ao (flat var3 x)) (hy : Lies w bo (flat var3 y)) (hlx : x.length ≤ 9223372036854775807) :
    Calls Tryd.prog 60 #[.slice ao x.length ca, .slice bo y.length cb] w fun e w' => e = .returned (.bool (x == y)) ∧ Below w.heap.size w w' := by
  have HX := Lib.hid hx
  have HY := Lib.hid hy
  clear hx hy
  by_cases hl : x.length = y.length
  · rw [hl] at hlx ⊢
    have HL := Lib.hid hl
    clear hl
    go_enter Tryd.func60, Tryd.ntmps60
    go_wp2
    go_loopw [13] (fun i wr => ∃ k : Nat, k ≤ y.length ∧ i = .int .i64 k ∧ Hid (x.take k = y.take k) ∧ Below w.heap.size w wr) (fun i _ => y.length + 1 - (intOf i).toNat)
    case atStart => exact ⟨0, Nat.zero_le _, rfl, Lib.hid (by simp), Below.refl _ _⟩
    case round =>
      obtain ⟨k, hk, rfl, he, hb⟩ := hrel
      by_cases hlt : k < y.length
      · have hxl : k < x.length := by rw [HL.out]; exact hlt
        obtain ⟨a, rfl, hca⟩ := (HX.out.below hb).row 3 (fun _ => rfl) (by decide) k hxl
        obtain ⟨b, rfl, hcb⟩ := (HY.out.below hb).row 3 (fun _ => rfl) (by decide) k hlt
        have HN : Hid (x[k] = y[k] → x.take (k + 1) = y.take (k + 1)) := Lib.hid (take_more x y k hxl hlt he.out)
        have HE : Hid (x[k] ≠ y[k] → (x == y) = false) := Lib.hid (fun h => by rw [beq_eq_false_iff_ne]; exact ne_at x y k hxl hlt h)
        generalize x[k] = u at *
        generalize y[k] = v at *
        obtain ⟨u0, u1, u2⟩ := u
        obtain ⟨v0, v1, v2⟩ := v
        have a0 : wr.cell? (a.add (k * 3)) = some (.int .i64 u0) := by have h := hca 0 _ rfl; rwa [add_zero'] at h
        have a1 : wr.cell? ⟨(a.add (k * 3)).block, (a.add (k * 3)).off + 1, none⟩ = some (.int .i64 u1) := by have h := hca 1 _ rfl; rwa [add_pos' _ _ (by decide)] at h
        have a2 : wr.cell? ⟨(a.add (k * 3)).block, (a.add (k * 3)).off + 2, none⟩ = some (.int .i64 u2) := by have h := hca 2 _ rfl; rwa [add_pos' _ _ (by decide)] at h
        have b0 : wr.cell? (b.add (k * 3)) = some (.int .i64 v0) := by have h := hcb 0 _ rfl; rwa [add_zero'] at h
        have b1 : wr.cell? ⟨(b.add (k * 3)).block, (b.add (k * 3)).off + 1, none⟩ = some (.int .i64 v1) := by have h := hcb 1 _ rfl; rwa [add_pos' _ _ (by decide)] at h
        have b2 : wr.cell? ⟨(b.add (k * 3)).block, (b.add (k * 3)).off + 2, none⟩ = some (.int .i64 v2) := by have h := hcb 2 _ rfl; rwa [add_pos' _ _ (by decide)] at h
        clear he HX HY hxl hca hcb
        by_cases h0 : u0 = v0
        · subst h0
          by_cases h1 : u1 = v1
          · subst h1
            by_cases h2 : u2 = v2
            · subst h2
              have HN2 := Lib.hid (HN.out rfl)
              clear HN HE
              go_wp2
              go_quiet (fail)
              go_wp2
              go_roundw
              case rel => exact ⟨k + 1, by omega, by go_num, HN2, below_drewN hb _⟩
              case measure => simp [intOf]; omega
            · have HE2 := Lib.hid (HE.out (by simp [h2]))
              clear HN HE
              go_wp2
              go_quiet (fail)
              go_wp2
              go_ret
              exact ⟨ret_bool HE2.out, below_drewN hb _⟩
          · have HE2 := Lib.hid (HE.out (by simp [h1]))
            clear HN HE
            go_wp2
            go_quiet (fail)
            go_wp2
            go_ret
            exact ⟨ret_bool HE2.out, below_drewN hb _⟩
        · have HE2 := Lib.hid (HE.out (by simp [h0]))
          clear HN HE
          go_wp2
          go_quiet (fail)
          go_wp2
          go_ret
          exact ⟨ret_bool HE2.out, below_drewN hb _⟩
      · have hkl : k = y.length := by omega
        have hxy : Hid ((x == y) = true) := Lib.hid (by
          rw [beq_iff_eq]
          have := he.out
          rw [hkl] at this
          exact take_all x y HL.out (by rw [HL.out]; exact this))
        subst hkl
        clear he HX HY
        go_wp2
        go_ret
        exact ⟨ret_bool hxy.out, hb⟩
  · have hne : Hid ((x == y) = false) := Lib.hid (by rw [beq_eq_false_iff_ne]; intro e; exact hl (by rw [e]))
    clear HX HY
    go_enter Tryd.func60, Tryd.ntmps60
    go_wp2
    go_ret
    exact ⟨ret_bool hne.out, Below.refl _ _⟩

set_option maxHeartbeats 2000000 in
set_option maxRecDepth 100000 in
theorem equal_ins5 (ao bo : Option Addr) (ca cb : Nat) (x y : List Ins5) (w : World) (hx : Lies w ao (flat ins5 x)) (hy : Lies w bo (flat ins5 y)) (hlx : x.length ≤ 9223372036854775807) :
    Calls Tryd.prog 62 #[.slice ao x.length ca, .slice bo y.length cb] w fun e w' => e = .returned (.bool (x == y)) ∧ Below w.heap.size w w' := by
  have HX := Lib.hid hx
  have HY := Lib.hid hy
  clear hx hy
  by_cases hl : x.length = y.length
  · rw [hl] at hlx ⊢
    have HL := Lib.hid hl
    clear hl
    go_enter Tryd.func62, Tryd.ntmps62
    go_wp2
    go_loopw [13] (fun i wr => ∃ k : Nat, k ≤ y.length ∧ i = .int .i64 k ∧ Hid (x.take k = y.take k) ∧ Below w.heap.size w wr) (fun i _ => y.length + 1 - (intOf i).toNat)
    case atStart => exact ⟨0, Nat.zero_le _, rfl, Lib.hid (by simp), Below.refl _ _⟩
    case round =>
      obtain ⟨k, hk, rfl, he, hb⟩ := hrel
      by_cases hlt : k < y.length
      · have hxl : k < x.length := by rw [HL.out]; exact hlt
        obtain ⟨a, rfl, hca⟩ := (HX.out.below hb).row 5 (fun _ => rfl) (by decide) k hxl
        obtain ⟨b, rfl, hcb⟩ := (HY.out.below hb).row 5 (fun _ => rfl) (by decide) k hlt
        have HN : Hid (x[k] = y[k] → x.take (k + 1) = y.take (k + 1)) := Lib.hid (take_more x y k hxl hlt he.out)
        have HE : Hid (x[k] ≠ y[k] → (x == y) = false) := Lib.hid (fun h => by rw [beq_eq_false_iff_ne]; exact ne_at x y k hxl hlt h)
        generalize x[k] = u at *
        generalize y[k] = v at *
        obtain ⟨u0, u1, u2, u3, u4⟩ := u
        obtain ⟨v0, v1, v2, v3, v4⟩ := v
        have a0 : wr.cell? (a.add (k * 5)) = some (.int .i64 u0) := by have h := hca 0 _ rfl; rwa [add_zero'] at h
        have a1 : wr.cell? ⟨(a.add (k * 5)).block, (a.add (k * 5)).off + 1, none⟩ = some (.int .i64 u1) := by have h := hca 1 _ rfl; rwa [add_pos' _ _ (by decide)] at h
        have a2 : wr.cell? ⟨(a.add (k * 5)).block, (a.add (k * 5)).off + 2, none⟩ = some (.int .i64 u2) := by have h := hca 2 _ rfl; rwa [add_pos' _ _ (by decide)] at h
        have a3 : wr.cell? ⟨(a.add (k * 5)).block, (a.add (k * 5)).off + 3, none⟩ = some (.int .i64 u3) := by have h := hca 3 _ rfl; rwa [add_pos' _ _ (by decide)] at h
        have a4 : wr.cell? ⟨(a.add (k * 5)).block, (a.add (k * 5)).off + 4, none⟩ = some (.int .i64 u4) := by have h := hca 4 _ rfl; rwa [add_pos' _ _ (by decide)] at h
        have b0 : wr.cell? (b.add (k * 5)) = some (.int .i64 v0) := by have h := hcb 0 _ rfl; rwa [add_zero'] at h
        have b1 : wr.cell? ⟨(b.add (k * 5)).block, (b.add (k * 5)).off + 1, none⟩ = some (.int .i64 v1) := by have h := hcb 1 _ rfl; rwa [add_pos' _ _ (by decide)] at h
        have b2 : wr.cell? ⟨(b.add (k * 5)).block, (b.add (k * 5)).off + 2, none⟩ = some (.int .i64 v2) := by have h := hcb 2 _ rfl; rwa [add_pos' _ _ (by decide)] at h
        have b3 : wr.cell? ⟨(b.add (k * 5)).block, (b.add (k * 5)).off + 3, none⟩ = some (.int .i64 v3) := by have h := hcb 3 _ rfl; rwa [add_pos' _ _ (by decide)] at h
        have b4 : wr.cell? ⟨(b.add (k * 5)).block, (b.add (k * 5)).off + 4, none⟩ = some (.int .i64 v4) := by have h := hcb 4 _ rfl; rwa [add_pos' _ _ (by decide)] at h
        clear he HX HY hxl hca hcb
        by_cases h0 : u0 = v0
        · subst h0
          by_cases h1 : u1 = v1
          · subst h1
            by_cases h2 : u2 = v2
            · subst h2
              by_cases h3 : u3 = v3
              · subst h3
                by_cases h4 : u4 = v4
                · subst h4
                  have HN2 := Lib.hid (HN.out rfl)
                  clear HN HE
                  go_wp2
                  go_quiet (fail)
                  go_wp2
                  go_roundw
                  case rel => exact ⟨k + 1, by omega, by go_num, HN2, below_drewN hb _⟩
                  case measure => simp [intOf]; omega
                · have HE2 := Lib.hid (HE.out (by simp [h4]))
                  clear HN HE
                  go_wp2
                  go_quiet (fail)
                  go_wp2
                  go_ret
                  exact ⟨ret_bool HE2.out, below_drewN hb _⟩
              · have HE2 := Lib.hid (HE.out (by simp [h3]))
                clear HN HE
                go_wp2
                go_quiet (fail)
                go_wp2
                go_ret
                exact ⟨ret_bool HE2.out, below_drewN hb _⟩
            · have HE2 := Lib.hid (HE.out (by simp [h2]))
              clear HN HE
              go_wp2
              go_quiet (fail)
              go_wp2
              go_ret
              exact ⟨ret_bool HE2.out, below_drewN hb _⟩
          · have HE2 := Lib.hid (HE.out (by simp [h1]))
            clear HN HE
            go_wp2
            go_quiet (fail)
            go_wp2
            go_ret
            exact ⟨ret_bool HE2.out, below_drewN hb _⟩
        · have HE2 := Lib.hid (HE.out (by simp [h0]))
          clear HN HE
          go_wp2
          go_quiet (fail)
          go_wp2
          go_ret
          exact ⟨ret_bool HE2.out, below_drewN hb _⟩
      · have hkl : k = y.length := by omega
        have hxy : Hid ((x == y) = true) := Lib.hid (by
          rw [beq_iff_eq]
          have := he.out
          rw [hkl] at this
          exact take_all x y HL.out (by rw [HL.out]; exact this))
        subst hkl
        clear he HX HY
        go_wp2
        go_ret
        exact ⟨ret_bool hxy.out, hb⟩
  · have hne : Hid ((x == y) = false) := Lib.hid (by rw [beq_eq_false_iff_ne]; intro e; exact hl (by rw [e]))
    clear HX HY
    go_enter Tryd.func62, Tryd.ntmps62
    go_wp2
    go_ret
    exact ⟨ret_bool hne.out, Below.refl _ _⟩

end Go.Proofs.YtfjiikadnlhekaaDoor
