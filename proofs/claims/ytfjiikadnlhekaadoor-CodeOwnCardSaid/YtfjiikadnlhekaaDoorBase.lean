/-
  What is proved here: the frame of this seat's walks: cells in a row that a slice points at. Conditions: none beyond each lemma's own.
-/
import Derived.Test.YtfjiikadnlhekaaDoorRows
import Derived.WalkKit
import Derived.ProofKit
import Derived.Lib.Hide
import Derived.Deep.QuietTactic
import Derived.BigQuiet
import Derived.Deep.MidRow
namespace Go.Proofs.YtfjiikadnlhekaaDoor
open Go.RowKit

/-- The cells xs lie where a slice points at. -/
def Lies (w : World) (ao : Option Addr) (xs : List Value) : Prop :=
  ∀ (i : Nat) (v : Value), xs[i]? = some v → ∃ a, ao = some a ∧ w.cell? (a.add i) = some v

theorem add_block (a : Addr) (i : Nat) : (a.add i).block = a.block := by unfold Addr.add; split <;> rfl

theorem add_add (a : Addr) (i j : Nat) : (a.add i).add j = a.add (i + j) := by
  unfold Addr.add
  by_cases hi : i = 0
  · subst hi; simp
  · by_cases hj : j = 0
    · subst hj; simp [hi]
    · simp [hi, hj, Nat.add_assoc]

theorem add_zero' (a : Addr) : a.add 0 = a := by simp [Addr.add]
theorem add_pos' (a : Addr) (j : Nat) (h : 0 < j) : a.add j = ⟨a.block, a.off + j, none⟩ := by unfold Addr.add; rw [if_neg (by omega)]

theorem Lies.below {w w' : World} {ao : Option Addr} {xs : List Value} (h : Lies w ao xs) (hb : Below w.heap.size w w') : Lies w' ao xs := by
  intro i v hv
  obtain ⟨a, ha, hc⟩ := h i v hv
  exact ⟨a, ha, (hb.cell (World.block_lt_of_cell? w _ hc)).trans hc⟩

theorem Lies.at {w : World} {ao : Option Addr} {xs : List Value} (h : Lies w ao xs) (i : Nat) (hi : i < xs.length) : ∃ a, ao = some a ∧ w.cell? (a.add i) = some xs[i] := h i xs[i] (List.getElem?_eq_getElem hi)

def bools (l : List Bool) : List Value := l.map Value.bool
def nums (l : List Int) : List Value := l.map (Value.int .i64)
theorem bools_length (l : List Bool) : (bools l).length = l.length := by simp [bools]
theorem nums_length (l : List Int) : (nums l).length = l.length := by simp [nums]

/-- Fronts that agree, one more. -/
theorem take_more {α : Type} (x y : List α) (k : Nat) (hx : k < x.length) (hy : k < y.length) (h : x.take k = y.take k) (he : x[k] = y[k]) : x.take (k + 1) = y.take (k + 1) := by
  rw [List.take_succ_eq_append_getElem hx, List.take_succ_eq_append_getElem hy, h, he]
theorem take_all {α : Type} (x y : List α) (hl : x.length = y.length) (h : x.take x.length = y.take x.length) : x = y := by
  rw [List.take_length, hl, List.take_length] at h
  exact h
theorem ne_at {α : Type} (x y : List α) (k : Nat) (hx : k < x.length) (hy : k < y.length) (h : x[k] ≠ y[k]) : x ≠ y := by
  intro e
  subst e
  exact h rfl

theorem below_drewN {B : Nat} {a w : World} (h : Below B a w) : ∀ n, Below B a (w.drewN n)
  | 0 => h
  | n + 1 => by
    have h' := below_drewN h n
    exact ⟨h'.os, h'.tape, h'.output, h'.size, h'.block⟩
/-- Rows of s cells each, one behind the other. -/
def flat {α : Type} (enc : α → List Value) (l : List α) : List Value := l.flatMap enc
theorem flat_length {α : Type} (enc : α → List Value) (s : Nat) (hs : ∀ x, (enc x).length = s) : ∀ l : List α, (flat enc l).length = l.length * s
  | [] => by simp [flat]
  | x :: l => by
    have ih := flat_length enc s hs l
    simp only [flat, List.flatMap_cons, List.length_append, hs, List.length_cons] at ih ⊢
    rw [ih, Nat.add_mul]; omega
theorem flat_get {α : Type} (enc : α → List Value) (s : Nat) (hs : ∀ x, (enc x).length = s) : ∀ (l : List α) (k : Nat) (h : k < l.length) (j : Nat) (v : Value), (enc l[k])[j]? = some v → (flat enc l)[k * s + j]? = some v
  | [], k, h, _, _, _ => by simp at h
  | x :: l, 0, _, j, v, hv => by
    have hj : j < (enc x).length := (List.getElem?_eq_some_iff.1 hv).1
    show (enc x ++ flat enc l)[0 * s + j]? = _
    rw [Nat.zero_mul, Nat.zero_add, List.getElem?_append_left hj]
    exact hv
  | x :: l, k + 1, h, j, v, hv => by
    have ih := flat_get enc s hs l k (by simpa using h) j v hv
    show (enc x ++ flat enc l)[(k + 1) * s + j]? = _
    have e : (k + 1) * s = k * s + s := by rw [Nat.add_mul]; omega
    rw [List.getElem?_append_right (by rw [hs]; omega), hs, ← ih]
    congr 1
    omega
theorem Lies.row {α : Type} {w : World} {ao : Option Addr} {l : List α} {enc : α → List Value} (s : Nat) (hs : ∀ x, (enc x).length = s) (h0 : 0 < s) (h : Lies w ao (flat enc l)) (k : Nat) (hk : k < l.length) :
    ∃ a, ao = some a ∧ ∀ j v, (enc l[k])[j]? = some v → w.cell? ((a.add (k * s)).add j) = some v := by
  have hl : 0 < (enc l[k]).length := by rw [hs]; exact h0
  obtain ⟨a, ha, _⟩ := h _ _ (flat_get enc s hs l k hk 0 _ (List.getElem?_eq_getElem hl))
  refine ⟨a, ha, fun j v hv => ?_⟩
  obtain ⟨a', ha', hc⟩ := h _ _ (flat_get enc s hs l k hk j v hv)
  rw [ha] at ha'
  cases ha'
  rw [add_add]
  exact hc

/-- A whole row or struct is read. -/
theorem load_row {w : World} (a : Addr) (ty : TypeId) (cs : List Value) (d : TypeDesc) (hc : ∀ j v, cs[j]? = some v → w.cell? (a.add j) = some v)
    (hu : Tryd.prog.underlying ty = some d) (hd : d.isRow = true) (hi : (Tryd.prog.info? ty).map (·.size) = some cs.length) :
    (Instr.loadAt ty (.pointer (some a))).run Tryd.prog w = .ok (.agg cs.toArray) w := by
  have hl : (loadCells a cs.length).run Tryd.prog w = .ok cs.toArray w := run_loadCells_list (P := Tryd.prog) w a cs hc
  cases hq : Tryd.prog.info? ty with
  | none => simp [hq] at hi
  | some i =>
    have hs : i.size = cs.length := by simpa [hq] using hi
    have hagg : (isAgg ty).run Tryd.prog w = .ok true w := by
      unfold isAgg
      rw [Sem.run_bind, run_underlying hu w]
      cases d <;> simp_all
    simp [Instr.loadAt, Instr.sureAddr, loadVar, Sem.run_bind, hagg, sizeOf, typeInfo, hq, hs, hl]

/-- A variable's three numbers; an instruction's five. -/
abbrev Var3 := Int × Int × Int
abbrev Ins5 := Int × Int × Int × Int × Int
def var3 (v : Var3) : List Value := [.int .i64 v.1, .int .i64 v.2.1, .int .i64 v.2.2]
def ins5 (x : Ins5) : List Value := [.int .i64 x.1, .int .i64 x.2.1, .int .i64 x.2.2.1, .int .i64 x.2.2.2.1, .int .i64 x.2.2.2.2]
theorem cell_drewN (w : World) (p : Addr) : ∀ n, (w.drewN n).cell? p = w.cell? p
  | 0 => rfl
  | n + 1 => cell_drewN w p n
/-- An owned row lies in memory. -/
theorem own_lies {w : World} {base : Nat} {e : TypeId} {size : Nat} {v : Value} {n : Nat} {xs : List Value} (h : w.ownsRow base e size v n xs) :
    ∃ o cap, v = .slice o n cap ∧ Lies w o xs ∧ (o = none → cap = 0) ∧ (∀ a, o = some a → base ≤ a.block ∧ a.block < w.heap.size) := by
  rcases h.2 with ⟨hv, hn⟩ | ⟨g, cap, cur, hv, hg, hh, hr⟩
  · refine ⟨none, 0, by rw [hv, hn], fun i c hc => ?_, fun _ => rfl, fun a ha => by cases ha⟩
    have h1 := h.1
    rw [hn, Nat.zero_mul] at h1
    rw [List.eq_nil_of_length_eq_zero h1] at hc
    simp at hc
  · refine ⟨some ⟨g, 0, none⟩, cap, hv, fun i c hc => ⟨_, rfl, h.cells (g := g) (by rw [hv]; rfl) i c hc⟩, (by simp), fun a ha => ?_⟩
    cases ha
    exact ⟨hg, (Array.getElem?_eq_some_iff.1 hh).1⟩
theorem bools_one (l : List Bool) : ∀ u ∈ bools l, u.oneCell' = true := by intro u hu; simp [bools] at hu; rcases hu with ⟨_, rfl⟩ | ⟨_, rfl⟩ <;> rfl
theorem nums_one (l : List Int) : ∀ u ∈ nums l, u.oneCell' = true := by intro u hu; simp [nums] at hu; obtain ⟨_, _, rfl⟩ := hu; rfl
theorem var3_one (l : List Var3) : ∀ u ∈ flat var3 l, u.oneCell' = true := by
  intro u hu
  simp only [flat, List.mem_flatMap] at hu
  obtain ⟨x, _, hx⟩ := hu
  simp [var3] at hx
  rcases hx with rfl | rfl | rfl <;> rfl
theorem ins5_one (l : List Ins5) : ∀ u ∈ flat ins5 l, u.oneCell' = true := by
  intro u hu
  simp only [flat, List.mem_flatMap] at hu
  obtain ⟨x, _, hx⟩ := hu
  simp [ins5] at hx
  rcases hx with rfl | rfl | rfl | rfl | rfl <;> rfl
theorem Lies.cell_some {w : World} {a : Addr} {xs : List Value} (h : Lies w (some a) xs) : ∀ j u, xs[j]? = Option.some u → w.cell? (a.add j) = Option.some u := by
  intro j u hu
  obtain ⟨a', ha', hc⟩ := h j u hu
  cases ha'
  exact hc
theorem Lies.cells_nil {w : World} {xs : List Value} (h : Lies w none xs) : xs = [] := by
  cases xs with
  | nil => rfl
  | cons v r => obtain ⟨a, ha, _⟩ := h 0 v rfl; cases ha
theorem ret_bool {a b : Bool} (h : b = a) : Ending.returned (Value.bool a) = .returned (.bool b) := by rw [h]
end Go.Proofs.YtfjiikadnlhekaaDoor
