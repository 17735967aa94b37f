/-
  What is proved here: a region that draws its order, by an invariant; 'append' onto an empty row. Conditions: none beyond each lemma's own.
-/
import Derived.Test.YtfjiikadnlhekaaDoorTwin
import Derived.Deep.AppendSrc
import Derived.Orders
import Derived.RegionTactic
namespace Go.Proofs.YtfjiikadnlhekaaDoor
open Go.RowKit

/-- How many operations have not come up yet. -/
def left (l : Array Bool) : Nat := l.toList.countP fun b => !b
theorem left_set : ∀ (l : List Bool) (i : Nat), l[i]? = some false → (l.set i true).countP (fun b => !b) + 1 = l.countP fun b => !b
  | [], i, h => by simp at h
  | b :: l, 0, h => by
    simp only [List.getElem?_cons_zero, Option.some.injEq] at h
    subst h
    simp
  | b :: l, i + 1, h => by
    simp only [List.getElem?_cons_succ] at h
    have ih := left_set l i h
    simp only [List.set_cons_succ, List.countP_cons]
    omega
theorem unlisted {l : Array Bool} {i : Nat} (h : l.getD i true = false) : l.toList[i]? = some false := by
  rw [Array.getElem?_toList]
  rcases Nat.lt_or_ge i l.size with hi | hi
  · simp [hi] at h ⊢; exact h
  · simp [Array.getElem?_eq_none hi] at h
theorem left_put {l : Array Bool} {i : Nat} (h : l.getD i true = false) : left (l.setIfInBounds i true) + 1 = left l := by
  unfold left
  rw [Array.toList_setIfInBounds]
  exact left_set _ _ (unlisted h)
theorem left_none {l : Array Bool} (h : left l = 0) (i : Nat) : l.getD i true = true := by
  cases hq : l.getD i true
  · have := left_put hq; omega
  · rfl

section
variable {P : Program} {ops : Array Oper} {Q : Exit → Act → World → Prop} {md : Region.Mode}
theorem wpAny_inv (I : Array Bool → Act → World → Prop) (hstep : ∀ l a w i, I l a w → i ∈ Region.ready md ops l → wpOp P ops Q i (I (l.setIfInBounds i true)) a w)
    (hdone : ∀ l a w, I l a w → Region.ready md ops l = [] → Q .normal a w) : ∀ (fuel : Nat) (l : Array Bool) (a : Act) (w : World), I l a w → left l ≤ fuel → wpAny P md ops Q fuel l a w
  | 0, l, a, w, hI, hf => by
    have hr : Region.ready md ops l = [] := by
      cases hq : Region.ready md ops l with
      | nil => rfl
      | cons j r =>
        have hj : j ∈ Region.ready md ops l := by rw [hq]; simp
        have h1 := (mem_ready.1 hj).1
        rw [left_none (by omega)] at h1
        cases h1
    exact ⟨hr, hdone l a w hI hr⟩
  | fuel + 1, l, a, w, hI, hf => ⟨fun h0 => hdone l a w hI h0, fun i hi => wpOp_mono (fun a' w' h' => wpAny_inv I hstep hdone fuel _ a' w' h' (by
      have := left_put (mem_ready.1 hi).1
      omega)) (hstep l a w i hI hi)⟩
/-- Each operation waits for earlier ones alone. -/
def backB (ops : Array Oper) : Bool := (List.range ops.size).all fun j => (ops[j]?).all fun o => o.after.all fun e => decide (e.on < j)
theorem all_listed (hb : backB ops = true) {l : Array Bool} (hl : l.size = ops.size) (hr : Region.ready md ops l = []) : ∀ j, j < ops.size → l.getD j false = true := by
  intro j
  induction j using Nat.strongRecOn with
  | _ j ih =>
    intro hj
    cases hq : l.getD j false
    · have ho : ops[j]? = some ops[j] := Array.getElem?_eq_getElem hj
      have hmem : j ∈ Region.ready md ops l := mem_ready.2 ⟨by simp [hl, hj] at hq ⊢; exact hq, ops[j], ho, fun e he _ => by
        have h1 := List.all_eq_true.1 hb j (by simpa using hj)
        rw [ho] at h1
        simp only [Option.all_some] at h1
        have h2 := (Array.all_eq_true'.1 h1) e he
        have h3 := of_decide_eq_true h2
        exact ih e.on h3 (by omega)⟩
      rw [hr] at hmem
      cases hmem
    · rfl
end

theorem run_app0 (w : World) (t ty : TypeId) (e : TypeId) (i : TypeInfo) (z : Value) (size bytes : Nat) (ht : Tryd.prog.underlying t = some (.slice e)) (hi : Tryd.prog.info? e = some i) (hz : i.zero = some z)
    (hsize : i.size = size) (hby : i.bytes = bytes) (hsz : 0 < size) (g0 : Nat) (hg0 : g0 < w.heap.size)
    (ao : Option Addr) (m c : Nat) (news : List Value) (hl : news.length = m * size) (hL : Lies w ao news) (h1 : ∀ u ∈ news, u.oneCell' = true) (h63 : m ≤ maxLen) (hbytes : m * bytes ≤ 140737488355328) :
    ∃ b d w', (Builtin.append_ #[t, t] ty #[.slice (some ⟨g0, 0, none⟩) 0 0, .slice ao m c]).run Tryd.prog w = .ok (.slice b m d) w' ∧ Lies w' b news ∧ (b = none → d = 0) ∧ (∀ a, b = some a → (a.block = g0 ∨ w.heap.size ≤ a.block) ∧ a.block < w'.heap.size) ∧ Below w.heap.size w w' := by
  unfold maxLen at h63
  subst hsize
  subst hby
  rcases Nat.eq_zero_or_pos m with hm | hm
  · subst hm
    have hn : news = [] := List.length_eq_zero_iff.1 (by rw [hl]; omega)
    subst hn
    have hs : Src Tryd.prog i.size t (.slice ao 0 c) 0 [] w := by
      cases ao with
      | none => exact Src.ofNil w ht c
      | some ad => exact Src.ofSlice w ht ad 0 c [] (by simp) (fun j u hu => by simp at hu) (fun u hu => by cases hu)
    have hr := run_append_room_src w t t ty e i ht hi g0 0 0 0 (.slice ao 0 c) 0 [] hs (by omega) (fun j hj => by simp at hj) (fun j hj => by simp at hj)
    exact ⟨some ⟨g0, 0, none⟩, 0, _, hr, fun j v hv => by simp at hv, fun h => (by cases h), fun a ha => by cases ha; exact ⟨Or.inl rfl, by simpa [World.setCells] using hg0⟩, by simpa [World.setCells] using Below.refl _ w⟩
  · obtain ⟨ad, rfl⟩ : ∃ ad, ao = some ad := by
      have : 0 < news.length := by rw [hl]; exact Nat.mul_pos hm hsz
      obtain ⟨a, ha, _⟩ := hL.at 0 this
      exact ⟨a, ha⟩
    have hs : Src Tryd.prog i.size t (.slice (some ad) m c) m news w := Src.ofSlice w ht ad m c news hl (fun j u hu => by
      obtain ⟨a, ha, hc⟩ := hL j u hu
      cases ha
      exact hc) h1
    have hold := run_firstCells_some (P := Tryd.prog) w.drew i.size 0 ⟨g0, 0, none⟩ 0 0 [] (by simp) (fun j v hv => by simp at hv)
    have hr := run_append_grow_src w t t ty e i z ht hi hz (some ⟨g0, 0, none⟩) 0 0 [] hold (.slice (some ad) m c) m news hs (by omega) (by omega) (by rw [Nat.zero_add, nextslicecap_zero hm]; omega)
    rw [Nat.zero_add] at hr
    have hnew : (w.drew.alloc (.cells (([] ++ news).toArray ++ Builtin.zeroCells z.cells (grownCap w m 0 e - m)) e)).heap[w.heap.size]? = some (.cells (([] ++ news).toArray ++ Builtin.zeroCells z.cells (grownCap w m 0 e - m)) e (0, 0)) := (MapKept.heap_alloc w.drew (.cells (([] ++ news).toArray ++ Builtin.zeroCells z.cells (grownCap w m 0 e - m)) e)).1
    refine ⟨some ⟨w.heap.size, 0, none⟩, _, _, hr, fun j v hv => ⟨_, rfl, ?_⟩, fun h => (by cases h), fun a ha => by cases ha; exact ⟨Or.inr (Nat.le_refl _), (Array.getElem?_eq_some_iff.1 hnew).1⟩, (Below.refl _ w).drew.alloc (Nat.le_refl _) _⟩
    have e1 : (⟨w.heap.size, 0, none⟩ : Addr).add j = ⟨w.heap.size, j, none⟩ := by unfold Addr.add; split <;> simp_all
    rw [e1, cell_at hnew j]
    have hj : j < news.length := (List.getElem?_eq_some_iff.1 hv).1
    rw [Array.getElem?_append_left (by simpa using hj)]
    simpa using hv
theorem step_app0 {w : World} {ops : Array Oper} {o : Oper} {a : Act} {K : Act → World → Prop} {Q : Exit → Act → World → Prop} {E : Prop} (hgd : o.guard = none) (s x : Operand) (t : TypeId)
    (ho : o.op = .call { callee := .builtin .append, args := #[s, x], argTypes := #[t, t] })
    (e : TypeId) (i : TypeInfo) (z : Value) (size bytes : Nat) (ht : Tryd.prog.underlying t = some (.slice e)) (hi : Tryd.prog.info? e = some i) (hz : i.zero = some z)
    (hsize : i.size = size) (hby : i.bytes = bytes) (hsz : 0 < size) (g0 : Nat) (hg0 : g0 < w.heap.size) (hs : a.eval s = .slice (some ⟨g0, 0, none⟩) 0 0)
    (ao : Option Addr) (m c : Nat) (news : List Value) (hx : a.eval x = .slice ao m c) (hl : news.length = m * size) (hL : Lies w ao news) (h1 : ∀ u ∈ news, u.oneCell' = true) (h63 : m ≤ maxLen) (hbytes : m * bytes ≤ 140737488355328)
    (h : ∀ b d w', Lies w' b news → (b = none → d = 0) → (∀ a, b = some a → (a.block = g0 ∨ w.heap.size ≤ a.block) ∧ a.block < w'.heap.size) → Below w.heap.size w w' → K (a.put o.dst (.slice b m d)) w') :
    if Region.wanted o (yielded ops a.tmps) = true then Oper.wp Tryd.prog o a w K Q else E := by
  have hw : Region.wanted o (yielded ops a.tmps) = true := by simp [Region.wanted, hgd]
  rw [if_pos hw]
  obtain ⟨b, d, w', hr, h2, h3, h4, h5⟩ := run_app0 w t o.type e i z size bytes ht hi hz hsize hby hsz g0 hg0 ao m c news hl hL h1 h63 hbytes
  unfold Oper.wp execOp
  simp only [ho, resolve, invoke, builtin, Sem.run_bind, Sem.run_pure, Result.andThen_ok, List.map_toArray, List.map_cons, List.map_nil, hs, hx, hr]
  exact h b d w' h2 h3 h4 h5
end Go.Proofs.YtfjiikadnlhekaaDoor
