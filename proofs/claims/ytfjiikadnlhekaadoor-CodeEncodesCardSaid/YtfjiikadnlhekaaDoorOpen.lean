/-
  What is proved here: how an argument of type api.Program is opened: it lies in memory, each of its lists within the form's reach. Conditions: none.
-/
import Derived.Test.YtfjiikadnlhekaaDoorKit
import Derived.Test.YtfjiikadnlhekaaDoorTwin
import Derived.SizedLaws
namespace Go.Proofs.YtfjiikadnlhekaaDoor
open Go.RowKit Go.ChangeShapes Go.WideShapes Go.ChangeAt

/-- The other way round: where a flat list's cell stands. -/
theorem flat_at {α : Type} (enc : α → List Value) (s : Nat) (hs : ∀ x, (enc x).length = s) : ∀ (l : List α) (i : Nat) (v : Value), (flat enc l)[i]? = some v → ∃ (k : Nat) (hk : k < l.length) (j : Nat), (enc l[k])[j]? = some v ∧ i = k * s + j
  | [], i, v, h => by simp [flat] at h
  | x :: l, i, v, h => by
    have h' : (enc x ++ flat enc l)[i]? = some v := h
    rcases Nat.lt_or_ge i s with h1 | h1
    · rw [List.getElem?_append_left (by rw [hs]; exact h1)] at h'
      exact ⟨0, by simp, i, h', by omega⟩
    · rw [List.getElem?_append_right (by rw [hs]; exact h1), hs] at h'
      obtain ⟨k, hk, j, hv, he⟩ := flat_at enc s hs l (i - s) v h'
      exact ⟨k + 1, by simp; omega, j, by simpa using hv, by rw [Nat.add_mul]; omega⟩

theorem list_of {α : Type} {p : Nat → α → Prop} : ∀ (n : Nat), (∀ i, i < n → ∃ a, p i a) → ∃ l : List α, l.length = n ∧ ∀ (i : Nat) (hi : i < l.length), p i l[i]
  | 0, _ => ⟨[], rfl, fun i hi => by simp at hi⟩
  | n + 1, h => by
    obtain ⟨l, hl, hp⟩ := list_of (p := fun i a => p i a) n (fun i hi => h i (by omega))
    obtain ⟨a, ha⟩ := h n (by omega)
    refine ⟨l ++ [a], by simp [hl], fun i hi => ?_⟩
    rcases Nat.lt_or_ge i l.length with h1 | h1
    · rw [List.getElem_append_left h1]; exact hp i h1
    · have : i = l.length := by simp at hi; omega
      subst this
      simpa [hl] using ha

section
variable {H : Type} {enc : TypeId × Value → H} {W : World}
/-- A slice of rows that came in. -/
theorem open_rows {α : Type} {row : α → List Value} {sz : Nat} (hsz : ∀ x, (row x).length = sz) {t e : TypeId} (ht : Tryd.prog.underlying t = some (.slice e)) (hc : Tryd.prog.cellsOf e = sz)
    (hone : ∀ n cs x, DataW.trod enc Tryd.prog W 0 (fun _ => true) true n e cs = some x → ∃ a, cs = row a) {fuel : Nat} {cs : List Value} {x : DataW H × List MemPlace}
    (h : DataW.trod enc Tryd.prog W 0 (fun _ => true) true fuel t cs = some x) (hw : ∀ n ∈ x.1.weights Tryd.prog t, n ≤ reachBytes) :
    ∃ (ao : Option Addr) (l : List α) (cap : Nat), cs = [.slice ao l.length cap] ∧ Lies W ao (flat row l) ∧ l.length ≤ 9223372036854775807 ∧ (ao = none → cap = 0) ∧ l.length * Tryd.prog.bytesOf e ≤ 140737488355328 := by
  rcases DataW.trod_slice ht h with ⟨rfl, rfl⟩ | ⟨a, len, cap, elems, rest, n, rfl, rfl, rfl, hb, hl, hm, hlen, hel, hsp, hns⟩
  · exact ⟨none, [], 0, rfl, fun i v hv => by simp [flat] at hv, Nat.zero_le _, fun _ => rfl, by simp⟩
  · have each : ∀ i, i < len → ∃ b : α, ∀ j v, (row b)[j]? = some v → W.cell? (a.add (i * sz + j)) = some v := by
      intro i hi
      have hi' : i < elems.length := by omega
      have h1 := hel i hi
      rw [List.getElem?_eq_getElem hi', hc] at h1
      obtain ⟨cs', hcs', ht'⟩ := Option.bind_eq_some_iff.1 h1
      obtain ⟨b, rfl⟩ := hone _ _ _ ht'
      obtain ⟨_, _, hcell⟩ := World.cells?_some hcs'
      refine ⟨b, fun j v hv => ?_⟩
      have hj : j < sz := by have := (List.getElem?_eq_some_iff.1 hv).1; rw [hsz] at this; exact this
      rw [← add_add, hcell j hj, hv]
    obtain ⟨l, hll, hlp⟩ := list_of len each
    refine ⟨some a, l, cap, by rw [hll], fun i v hv => ?_, by unfold maxLen at hm; omega, fun h => (by cases h), ?_⟩
    · obtain ⟨k, hk, j, hv', rfl⟩ := flat_at row sz hsz l i v hv
      exact ⟨a, rfl, hlp k hk j v hv'⟩
    · have h2 := hw ((elems.length + rest.length) * Tryd.prog.bytesOf e) (by simp [DataW.weights, ht])
      have h3 : l.length * Tryd.prog.bytesOf e ≤ (elems.length + rest.length) * Tryd.prog.bytesOf e := Nat.mul_le_mul_right _ (by omega)
      unfold reachBytes at h2
      omega

theorem one_cut {cs : List Value} {o : Nat} {v : Value} (h : (cs.drop o).take 1 = [v]) : cs[o]? = some v := cell_of_cut h
theorem take_of {cs : List Value} {o : Nat} {v : Value} (h : (cs.drop o).take 1 = [v]) : cs[o]? = some v := cell_of_cut h

theorem one_bool : ∀ n cs x, DataW.trod enc Tryd.prog W 0 (fun _ => true) true n 4 cs = some x → ∃ b : Bool, cs = [Value.bool b] := by
  intro n cs x h
  obtain ⟨b, hb, _⟩ := DataW.trod_bool Tryd.underlying4 h
  exact ⟨b, hb⟩
theorem one_int : ∀ n cs x, DataW.trod enc Tryd.prog W 0 (fun _ => true) true n 3 cs = some x → ∃ b : Int, cs = [Value.int .i64 b] := by
  intro n cs x h
  obtain ⟨b, hb, _⟩ := DataW.trod_int Tryd.underlying3 h
  exact ⟨b, hb⟩
set_option maxRecDepth 100000 in
theorem one_var : ∀ n cs x, DataW.trod enc Tryd.prog W 0 (fun _ => true) true n 70 cs = some x → ∃ b : Var3, cs = var3 b := by
  intro n cs x h
  obtain ⟨xs, m, rfl, rfl, hl, hx, hf⟩ := DataW.trod_struct Tryd.underlying70 h
  have hl3 : cs.length = 3 := by rw [hl]; kernel_rfl
  have hx3 : xs.length = 3 := by rw [hx]; rfl
  have g0 := hf 0 _ rfl
  have g1 := hf 1 _ rfl
  have g2 := hf 2 _ rfl
  rw [List.getElem?_eq_getElem (by omega)] at g0 g1 g2
  obtain ⟨a0, e0⟩ := one_int _ _ _ g0
  obtain ⟨a1, e1⟩ := one_int _ _ _ g1
  obtain ⟨a2, e2⟩ := one_int _ _ _ g2
  change List.take (Tryd.prog.cellsOf 3) (cs.drop 0) = _ at e0
  change List.take (Tryd.prog.cellsOf 3) (cs.drop 1) = _ at e1
  change List.take (Tryd.prog.cellsOf 3) (cs.drop 2) = _ at e2
  rw [show Tryd.prog.cellsOf 3 = 1 from cells3] at e0 e1 e2
  refine ⟨(a0, a1, a2), ?_⟩
  match cs, hl3 with
  | [c0, c1, c2], _ =>
    simp at e0 e1 e2
    rw [e0, e1, e2]
    rfl
set_option maxRecDepth 100000 in
theorem one_ins : ∀ n cs x, DataW.trod enc Tryd.prog W 0 (fun _ => true) true n 57 cs = some x → ∃ b : Ins5, cs = ins5 b := by
  intro n cs x h
  obtain ⟨xs, m, rfl, rfl, hl, hx, hf⟩ := DataW.trod_struct Tryd.underlying57 h
  have hl3 : cs.length = 5 := by rw [hl]; kernel_rfl
  have hx3 : xs.length = 5 := by rw [hx]; rfl
  have g0 := hf 0 _ rfl
  have g1 := hf 1 _ rfl
  have g2 := hf 2 _ rfl
  have g3 := hf 3 _ rfl
  have g4 := hf 4 _ rfl
  rw [List.getElem?_eq_getElem (by omega)] at g0 g1 g2 g3 g4
  obtain ⟨a0, e0⟩ := one_int _ _ _ g0
  obtain ⟨a1, e1⟩ := one_int _ _ _ g1
  obtain ⟨a2, e2⟩ := one_int _ _ _ g2
  obtain ⟨a3, e3⟩ := one_int _ _ _ g3
  obtain ⟨a4, e4⟩ := one_int _ _ _ g4
  change List.take (Tryd.prog.cellsOf 3) (cs.drop 0) = _ at e0
  change List.take (Tryd.prog.cellsOf 3) (cs.drop 1) = _ at e1
  change List.take (Tryd.prog.cellsOf 3) (cs.drop 2) = _ at e2
  change List.take (Tryd.prog.cellsOf 3) (cs.drop 3) = _ at e3
  change List.take (Tryd.prog.cellsOf 3) (cs.drop 4) = _ at e4
  rw [show Tryd.prog.cellsOf 3 = 1 from cells3] at e0 e1 e2 e3 e4
  refine ⟨(a0, a1, a2, a3, a4), ?_⟩
  match cs, hl3 with
  | [c0, c1, c2, c3, c4], _ =>
    simp at e0 e1 e2 e3 e4
    rw [e0, e1, e2, e3, e4]
    rfl

set_option maxRecDepth 100000 in
/-- A program that came in. -/
theorem open_prg {base : Nat} {v : Value} {d : DataW H} {ps : List MemPlace} (hv : Value.okWide Tryd.prog W .any base 27 v) (h : DataW.Trod enc Tryd.prog W 0 (fun _ => true) true 27 v d ps)
    (hz : ∀ n ∈ d.weights Tryd.prog 27, n ≤ reachBytes) : ∃ s P, v = pval s P ∧ PAt W s P ∧ Small P := by
  obtain ⟨⟨cs⟩, rfl, hcs⟩ := okWide_struct Tryd.underlying27 hv
  obtain ⟨fuel, hf⟩ := h
  have hf' : DataW.trod enc Tryd.prog W 0 (fun _ => true) true fuel 27 cs = some (d, ps) := hf
  obtain ⟨xs, m, rfl, hx, hl, hxl, hfs⟩ := DataW.trod_struct Tryd.underlying27 hf'
  have hl6 : cs.length = 6 := by rw [hl]; kernel_rfl
  have hx6 : xs.length = 6 := by rw [hxl]; rfl
  have ed : d = .agg (xs.map (·.1)) := congrArg Prod.fst hx
  have hw : ∀ (i : Nat) (t : TypeId) (hi : i < xs.length), [22, 23, 24, 24, 3, 25][i]? = some t → ∀ n ∈ xs[i].1.weights Tryd.prog t, n ≤ reachBytes := by
    intro i t hi hti n hn
    refine hz n ?_
    rw [ed]
    simp only [DataW.weights, Tryd.underlying27]
    exact DataW.weights_mem_each (j := i) (t := t) hti (by simp [List.getElem?_eq_getElem hi]) n hn
  have g0 := hfs 0 _ rfl
  have g1 := hfs 1 _ rfl
  have g2 := hfs 2 _ rfl
  have g3 := hfs 3 _ rfl
  have g4 := hfs 4 _ rfl
  have g5 := hfs 5 _ rfl
  rw [List.getElem?_eq_getElem (by omega)] at g0 g1 g2 g3 g4 g5
  obtain ⟨a0, l0, c0, e0, y0, z0, n0, s0⟩ := open_rows (row := fun b => [Value.bool b]) (sz := 1) (fun _ => rfl) Tryd.underlying22 (by kernel_rfl) one_bool g0 (hw 0 22 _ rfl)
  obtain ⟨a1, l1, c1, e1, y1, z1, n1, s1⟩ := open_rows (row := var3) (sz := 3) (fun _ => rfl) Tryd.underlying23 (by kernel_rfl) one_var g1 (hw 1 23 _ rfl)
  obtain ⟨a2, l2, c2, e2, y2, z2, n2, s2⟩ := open_rows (row := fun b => [Value.int .i64 b]) (sz := 1) (fun _ => rfl) Tryd.underlying24 (by kernel_rfl) one_int g2 (hw 2 24 _ rfl)
  obtain ⟨a3, l3, c3, e3, y3, z3, n3, s3⟩ := open_rows (row := fun b => [Value.int .i64 b]) (sz := 1) (fun _ => rfl) Tryd.underlying24 (by kernel_rfl) one_int g3 (hw 3 24 _ rfl)
  obtain ⟨a4, e4⟩ := one_int _ _ _ g4
  obtain ⟨a5, l5, c5, e5, y5, z5, n5, s5⟩ := open_rows (row := ins5) (sz := 5) (fun _ => rfl) Tryd.underlying25 (by kernel_rfl) one_ins g5 (hw 5 25 _ rfl)
  have fb : ∀ l : List Bool, flat (fun b => [Value.bool b]) l = bools l := fun l => by induction l with | nil => rfl | cons a r ih => simp only [flat, bools, List.flatMap_cons, List.map_cons] at ih ⊢; rw [ih]; rfl
  have fi : ∀ l : List Int, flat (fun b => [Value.int .i64 b]) l = nums l := fun l => by induction l with | nil => rfl | cons a r ih => simp only [flat, nums, List.flatMap_cons, List.map_cons] at ih ⊢; rw [ih]; rfl
  rw [fb] at y0
  rw [fi] at y2 y3
  refine ⟨⟨a0, c0, a1, c1, a2, c2, a3, c3, a5, c5⟩, ⟨l0, l1, l2, l3, a4, l5⟩, ?_, ⟨y0, y1, y2, y3, y5, z0, z1, z2, z3, z5, n0, n1, n2, n3, n5⟩, ⟨?_, ?_, ?_, ?_, ?_⟩⟩
  · change List.take (Tryd.prog.cellsOf 22) (cs.drop 0) = _ at e0
    change List.take (Tryd.prog.cellsOf 23) (cs.drop 1) = _ at e1
    change List.take (Tryd.prog.cellsOf 24) (cs.drop 2) = _ at e2
    change List.take (Tryd.prog.cellsOf 24) (cs.drop 3) = _ at e3
    change List.take (Tryd.prog.cellsOf 3) (cs.drop 4) = _ at e4
    change List.take (Tryd.prog.cellsOf 25) (cs.drop 5) = _ at e5
    rw [show Tryd.prog.cellsOf 22 = 1 by kernel_rfl] at e0
    rw [show Tryd.prog.cellsOf 23 = 1 by kernel_rfl] at e1
    rw [show Tryd.prog.cellsOf 24 = 1 by kernel_rfl] at e2 e3
    rw [show Tryd.prog.cellsOf 3 = 1 from cells3] at e4
    rw [show Tryd.prog.cellsOf 25 = 1 by kernel_rfl] at e5
    match cs, hl6 with
    | [k0, k1, k2, k3, k4, k5], _ =>
      simp at e0 e1 e2 e3 e4 e5
      rw [e0, e1, e2, e3, e4, e5]
      rfl
  · rw [show Tryd.prog.bytesOf 4 = 1 by kernel_rfl] at s0; exact s0
  · rw [show Tryd.prog.bytesOf 70 = 24 by kernel_rfl] at s1; exact s1
  · rw [show Tryd.prog.bytesOf 3 = 8 by kernel_rfl] at s2; exact s2
  · rw [show Tryd.prog.bytesOf 3 = 8 by kernel_rfl] at s3; exact s3
  · rw [show Tryd.prog.bytesOf 57 = 40 by kernel_rfl] at s5; exact s5
end
end Go.Proofs.YtfjiikadnlhekaaDoor
