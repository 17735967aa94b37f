/-
  What is proved here: slices.Clone makes a list of its own, the same as the one handed in. Conditions: the list lies in memory; it takes at most 2^47 bytes.
-/
import Derived.Test.YtfjiikadnlhekaaDoorBase
import Derived.Lib.SliceRun
namespace Go.Proofs.YtfjiikadnlhekaaDoor
open Go.RowKit

theorem info4 : (Tryd.prog.info? 4).map (fun i => (i.zero, i.size, i.bytes)) = some (some (.bool false), 1, 1) := by kernel_rfl

set_option maxHeartbeats 1000000 in
set_option maxRecDepth 100000 in
theorem clone_bool (ao : Option Addr) (ca : Nat) (x : List Bool) (w : World) (hx : Lies w ao (bools x)) (hn : ao = none → ca = 0) (hl : x.length * 1 ≤ 140737488355328) :
    Calls Tryd.prog 63 #[.slice ao x.length ca] w fun e w' => ∃ bo cb, e = .returned (.slice bo x.length cb) ∧ Lies w' bo (bools x) ∧ (bo = none → cb = 0) ∧ (∀ a, bo = some a → w.heap.size ≤ a.block) ∧ Below w.heap.size w w' := by
  cases ao with
  | none =>
    obtain rfl := hn rfl
    have hx0 := hx.cells_nil
    have hlen : (bools x).length = x.length * 1 := (by rw [bools_length]; simp)
    rw [hx0] at hlen
    obtain rfl : x = [] := List.eq_nil_of_length_eq_zero (by simp at hlen; omega)
    have hnil := fun (w : World) (a : Option Addr) (n c n' c' : Nat) => Lib.run_eql_slice_nil (P := Tryd.prog) w 22 _ a n c n' c' Tryd.underlying22
    go_enter Tryd.func63, Tryd.ntmps63
    go_wp2
    go_ret
    exact ⟨none, 0, rfl, hx, fun _ => rfl, (fun a ha => by cases ha), Below.refl _ _⟩
  | some a =>
    have HX := Lib.hid hx
    clear hx hn
    obtain ⟨i0, hi, hz0, hz1, hz2⟩ := info_parts info4
    have hw1 : ∀ b, Below w.heap.size w (w.alloc b) := fun b => (Below.refl _ w).alloc (Nat.le_refl _) _
    have hnil := fun (w : World) (a : Option Addr) (n c n' c' : Nat) => Lib.run_eql_slice_nil (P := Tryd.prog) w 22 _ a n c n' c' Tryd.underlying22
    go_enter Tryd.func63, Tryd.ntmps63
    go_wp2_with (at_builtin; go_loud (refine wpList_append_own _ rfl _ _ 22 rfl w.heap.size 4 i0 (.bool false) 1 1 Tryd.underlying22 hi hz0 hz1 hz2 rfl (by decide) _ 0 [] rfl (World.ownsRow_lit w #[] 0 (Nat.le_refl _) (by decide) rfl) a x.length ca (bools x) rfl ?c1 ?c2 ?c3 ?c4 ?c5 ?c6 ?_))
    case c1 => exact (by rw [bools_length]; simp)
    case c2 => exact (HX.out.below (hw1 _)).cell_some
    case c3 => exact bools_one x
    case c4 => unfold maxLen; omega
    case c5 => omega
    case c6 => simp
    intro v' w' hown hgr _
    obtain ⟨o, cap, rfl, hli, hno, hbl⟩ := own_lies hown
    have hb : Below w.heap.size w w' := (hw1 _).grown hgr (by simp) (fun k hk => by have := Option.some.inj hk; simp only at this; omega)
    have HO := Lib.hid (show Lies w' o (bools x) by simpa using hli)
    have HB := Lib.hid hbl
    clear hown hgr hli hi hz0 hz1 hz2
    go_wp2
    go_ret
    exact ⟨o, cap, rfl, HO.out, hno, (fun a ha => (HB.out a ha).1), hb⟩

theorem info3 : (Tryd.prog.info? 3).map (fun i => (i.zero, i.size, i.bytes)) = some (some (.int .i64 0), 1, 8) := by kernel_rfl

set_option maxHeartbeats 1000000 in
set_option maxRecDepth 100000 in
theorem clone_int (ao : Option Addr) (ca : Nat) (x : List Int) (w : World) (hx : Lies w ao (nums x)) (hn : ao = none → ca = 0) (hl : x.length * 8 ≤ 140737488355328) :
    Calls Tryd.prog 65 #[.slice ao x.length ca] w fun e w' => ∃ bo cb, e = .returned (.slice bo x.length cb) ∧ Lies w' bo (nums x) ∧ (bo = none → cb = 0) ∧ (∀ a, bo = some a → w.heap.size ≤ a.block) ∧ Below w.heap.size w w' := by
  cases ao with
  | none =>
    obtain rfl := hn rfl
    have hx0 := hx.cells_nil
    have hlen : (nums x).length = x.length * 1 := (by rw [nums_length]; simp)
    rw [hx0] at hlen
    obtain rfl : x = [] := List.eq_nil_of_length_eq_zero (by simp at hlen; omega)
    have hnil := fun (w : World) (a : Option Addr) (n c n' c' : Nat) => Lib.run_eql_slice_nil (P := Tryd.prog) w 24 _ a n c n' c' Tryd.underlying24
    go_enter Tryd.func65, Tryd.ntmps65
    go_wp2
    go_ret
    exact ⟨none, 0, rfl, hx, fun _ => rfl, (fun a ha => by cases ha), Below.refl _ _⟩
  | some a =>
    have HX := Lib.hid hx
    clear hx hn
    obtain ⟨i0, hi, hz0, hz1, hz2⟩ := info_parts info3
    have hw1 : ∀ b, Below w.heap.size w (w.alloc b) := fun b => (Below.refl _ w).alloc (Nat.le_refl _) _
    have hnil := fun (w : World) (a : Option Addr) (n c n' c' : Nat) => Lib.run_eql_slice_nil (P := Tryd.prog) w 24 _ a n c n' c' Tryd.underlying24
    go_enter Tryd.func65, Tryd.ntmps65
    go_wp2_with (at_builtin; go_loud (refine wpList_append_own _ rfl _ _ 24 rfl w.heap.size 3 i0 (.int .i64 0) 1 8 Tryd.underlying24 hi hz0 hz1 hz2 rfl (by decide) _ 0 [] rfl (World.ownsRow_lit w #[] 0 (Nat.le_refl _) (by decide) rfl) a x.length ca (nums x) rfl ?c1 ?c2 ?c3 ?c4 ?c5 ?c6 ?_))
    case c1 => exact (by rw [nums_length]; simp)
    case c2 => exact (HX.out.below (hw1 _)).cell_some
    case c3 => exact nums_one x
    case c4 => unfold maxLen; omega
    case c5 => omega
    case c6 => simp
    intro v' w' hown hgr _
    obtain ⟨o, cap, rfl, hli, hno, hbl⟩ := own_lies hown
    have hb : Below w.heap.size w w' := (hw1 _).grown hgr (by simp) (fun k hk => by have := Option.some.inj hk; simp only at this; omega)
    have HO := Lib.hid (show Lies w' o (nums x) by simpa using hli)
    have HB := Lib.hid hbl
    clear hown hgr hli hi hz0 hz1 hz2
    go_wp2
    go_ret
    exact ⟨o, cap, rfl, HO.out, hno, (fun a ha => (HB.out a ha).1), hb⟩

theorem info70 : (Tryd.prog.info? 70).map (fun i => (i.zero, i.size, i.bytes)) = some (some (.agg #[.int .i64 0, .int .i64 0, .int .i64 0]), 3, 24) := by kernel_rfl

set_option maxHeartbeats 1000000 in
set_option maxRecDepth 100000 in
theorem clone_var3 (ao : Option Addr) (ca : Nat) (x : List Var3) (w : World) (hx : Lies w ao (flat var3 x)) (hn : ao = none → ca = 0) (hl : x.length * 24 ≤ 140737488355328) :
    Calls Tryd.prog 64 #[.slice ao x.length ca] w fun e w' => ∃ bo cb, e = .returned (.slice bo x.length cb) ∧ Lies w' bo (flat var3 x) ∧ (bo = none → cb = 0) ∧ (∀ a, bo = some a → w.heap.size ≤ a.block) ∧ Below w.heap.size w w' := by
  cases ao with
  | none =>
    obtain rfl := hn rfl
    have hx0 := hx.cells_nil
    have hlen : (flat var3 x).length = x.length * 3 := (flat_length var3 3 (fun _ => rfl) x)
    rw [hx0] at hlen
    obtain rfl : x = [] := List.eq_nil_of_length_eq_zero (by simp at hlen; omega)
    have hnil := fun (w : World) (a : Option Addr) (n c n' c' : Nat) => Lib.run_eql_slice_nil (P := Tryd.prog) w 23 _ a n c n' c' Tryd.underlying23
    go_enter Tryd.func64, Tryd.ntmps64
    go_wp2
    go_ret
    exact ⟨none, 0, rfl, hx, fun _ => rfl, (fun a ha => by cases ha), Below.refl _ _⟩
  | some a =>
    have HX := Lib.hid hx
    clear hx hn
    obtain ⟨i0, hi, hz0, hz1, hz2⟩ := info_parts info70
    have hw1 : ∀ b, Below w.heap.size w (w.alloc b) := fun b => (Below.refl _ w).alloc (Nat.le_refl _) _
    have hnil := fun (w : World) (a : Option Addr) (n c n' c' : Nat) => Lib.run_eql_slice_nil (P := Tryd.prog) w 23 _ a n c n' c' Tryd.underlying23
    go_enter Tryd.func64, Tryd.ntmps64
    go_wp2_with (at_builtin; go_loud (refine wpList_append_own _ rfl _ _ 23 rfl w.heap.size 70 i0 (.agg #[.int .i64 0, .int .i64 0, .int .i64 0]) 3 24 Tryd.underlying23 hi hz0 hz1 hz2 rfl (by decide) _ 0 [] rfl (World.ownsRow_lit w #[] 0 (Nat.le_refl _) (by decide) rfl) a x.length ca (flat var3 x) rfl ?c1 ?c2 ?c3 ?c4 ?c5 ?c6 ?_))
    case c1 => exact (flat_length var3 3 (fun _ => rfl) x)
    case c2 => exact (HX.out.below (hw1 _)).cell_some
    case c3 => exact var3_one x
    case c4 => unfold maxLen; omega
    case c5 => omega
    case c6 => simp
    intro v' w' hown hgr _
    obtain ⟨o, cap, rfl, hli, hno, hbl⟩ := own_lies hown
    have hb : Below w.heap.size w w' := (hw1 _).grown hgr (by simp) (fun k hk => by have := Option.some.inj hk; simp only at this; omega)
    have HO := Lib.hid (show Lies w' o (flat var3 x) by simpa using hli)
    have HB := Lib.hid hbl
    clear hown hgr hli hi hz0 hz1 hz2
    go_wp2
    go_ret
    exact ⟨o, cap, rfl, HO.out, hno, (fun a ha => (HB.out a ha).1), hb⟩

theorem info57 : (Tryd.prog.info? 57).map (fun i => (i.zero, i.size, i.bytes)) = some (some (.agg #[.int .i64 0, .int .i64 0, .int .i64 0, .int .i64 0, .int .i64 0]), 5, 40) := by kernel_rfl

set_option maxHeartbeats 1000000 in
set_option maxRecDepth 100000 in
theorem clone_ins5 (ao : Option Addr) (ca : Nat) (x : List Ins5) (w : World) (hx : Lies w ao (flat ins5 x)) (hn : ao = none → ca = 0) (hl : x.length * 40 ≤ 140737488355328) :
    Calls Tryd.prog 66 #[.slice ao x.length ca] w fun e w' => ∃ bo cb, e = .returned (.slice bo x.length cb) ∧ Lies w' bo (flat ins5 x) ∧ (bo = none → cb = 0) ∧ (∀ a, bo = some a → w.heap.size ≤ a.block) ∧ Below w.heap.size w w' := by
  cases ao with
  | none =>
    obtain rfl := hn rfl
    have hx0 := hx.cells_nil
    have hlen : (flat ins5 x).length = x.length * 5 := (flat_length ins5 5 (fun _ => rfl) x)
    rw [hx0] at hlen
    obtain rfl : x = [] := List.eq_nil_of_length_eq_zero (by simp at hlen; omega)
    have hnil := fun (w : World) (a : Option Addr) (n c n' c' : Nat) => Lib.run_eql_slice_nil (P := Tryd.prog) w 25 _ a n c n' c' Tryd.underlying25
    go_enter Tryd.func66, Tryd.ntmps66
    go_wp2
    go_ret
    exact ⟨none, 0, rfl, hx, fun _ => rfl, (fun a ha => by cases ha), Below.refl _ _⟩
  | some a =>
    have HX := Lib.hid hx
    clear hx hn
    obtain ⟨i0, hi, hz0, hz1, hz2⟩ := info_parts info57
    have hw1 : ∀ b, Below w.heap.size w (w.alloc b) := fun b => (Below.refl _ w).alloc (Nat.le_refl _) _
    have hnil := fun (w : World) (a : Option Addr) (n c n' c' : Nat) => Lib.run_eql_slice_nil (P := Tryd.prog) w 25 _ a n c n' c' Tryd.underlying25
    go_enter Tryd.func66, Tryd.ntmps66
    go_wp2_with (at_builtin; go_loud (refine wpList_append_own _ rfl _ _ 25 rfl w.heap.size 57 i0 (.agg #[.int .i64 0, .int .i64 0, .int .i64 0, .int .i64 0, .int .i64 0]) 5 40 Tryd.underlying25 hi hz0 hz1 hz2 rfl (by decide) _ 0 [] rfl (World.ownsRow_lit w #[] 0 (Nat.le_refl _) (by decide) rfl) a x.length ca (flat ins5 x) rfl ?c1 ?c2 ?c3 ?c4 ?c5 ?c6 ?_))
    case c1 => exact (flat_length ins5 5 (fun _ => rfl) x)
    case c2 => exact (HX.out.below (hw1 _)).cell_some
    case c3 => exact ins5_one x
    case c4 => unfold maxLen; omega
    case c5 => omega
    case c6 => simp
    intro v' w' hown hgr _
    obtain ⟨o, cap, rfl, hli, hno, hbl⟩ := own_lies hown
    have hb : Below w.heap.size w w' := (hw1 _).grown hgr (by simp) (fun k hk => by have := Option.some.inj hk; simp only at this; omega)
    have HO := Lib.hid (show Lies w' o (flat ins5 x) by simpa using hli)
    have HB := Lib.hid hbl
    clear hown hgr hli hi hz0 hz1 hz2
    go_wp2
    go_ret
    exact ⟨o, cap, rfl, HO.out, hno, (fun a ha => (HB.out a ha).1), hb⟩

end Go.Proofs.YtfjiikadnlhekaaDoor
