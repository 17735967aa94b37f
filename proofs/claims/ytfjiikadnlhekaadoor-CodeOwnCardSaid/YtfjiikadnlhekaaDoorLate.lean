/-
  What is proved here: what CodeOwn holds of the grown rows, and what a push onto one of them leaves. Conditions: none.
-/
import Derived.Test.YtfjiikadnlhekaaDoorHold
namespace Go.Proofs.YtfjiikadnlhekaaDoor
open Go.RowKit

/-- The grown rows: each of the first i has k + 1 more bytes, each of the others k. -/
def gk (n k i : Nat) : Nat → List UInt8 := fun x => List.replicate n (UInt8.ofNat (200 + x)) ++ List.replicate (if x < i then k + 1 else k) (UInt8.ofNat (20 + x))
theorem gk_start (bs : List UInt8) (x : Nat) (h : x < 6) : gk bs.length 0 0 x = lk bs 6 0 x := by simp [gk, lk, h]
theorem gk_next (n k x : Nat) (h : x < 6) : gk n (k + 1) 0 x = gk n k 6 x := by simp [gk, h]
theorem gk_len (n k i x : Nat) : (gk n k i x).length ≤ n + k + 1 := by
  simp only [gk, List.length_append, List.length_replicate]
  split <;> omega
theorem gk_push (n k i : Nat) : gk n k (i + 1) i = gk n k i i ++ [UInt8.ofNat (20 + i)] := by
  simp [gk, List.replicate_succ']
theorem gk_other (n k i x : Nat) (h : x ≠ i) : gk n k (i + 1) x = gk n k i x := by
  simp only [gk]
  have e : (x < i + 1) = (x < i) := by simp; omega
  simp only [e]
theorem gk_front (n k x j : Nat) (h : j < n) : (gk n k 0 x)[j]? = some (UInt8.ofNat (200 + x)) := by
  simp [gk, List.getElem?_append, h]
theorem gk_back (n k x j : Nat) (h : n ≤ j) (h2 : j < n + k) : (gk n k 0 x)[j]? = some (UInt8.ofNat (20 + x)) := by
  simp only [gk, Nat.not_lt_zero, if_false]
  rw [List.getElem?_append_right (by simp; omega), List.length_replicate, List.getElem?_replicate, if_pos (by omega)]
theorem gk_size (n k x : Nat) : (gk n k 0 x).length = n + k := by simp [gk]

section
variable {w0 w w' w1 w2 : World} {ao : Option Addr} {bs : List UInt8} {P : Prg} {r : Spots} {b5 : Nat} {s6 s7 : Spots} {b15 b17 c : Nat} {col col' : Nat → Nat} {S : List Spots} {T : List (Nat × Nat)} {ga ca gl cl gg cg : Nat} {Pk : Nat → Prg} {U : Nat → Nat × Nat} {l l' : Nat → List UInt8}

structure Late (w0 : World) (ao : Option Addr) (bs : List UInt8) (P : Prg) (r : Spots) (b5 : Nat) (s6 : Spots) (b15 : Nat) (s7 : Spots) (b17 : Nat) (T : List (Nat × Nat)) (gl cl gg cg : Nat) (U : Nat → Nat × Nat) (l : Nat → List UInt8) (w : World) (col : Nat → Nat) : Prop where
  held : Held w0 ao bs P r b5 s6 b15 s7 b17 w col
  nT : T.length = 6
  lists : RRow w col 2 32 1 (.slice (some ⟨gl, 0, none⟩) 6 cl) 6 (T.map (bval bs.length))
  grown : RRow w col 3 32 1 (.slice (some ⟨gg, 0, none⟩) 6 cg) 6 ((List.range 6).map fun i => bval (l i).length (U i))
  rows : ∀ i, i < 6 → RRow w col (20 + i) 5 1 (bval (l i).length (U i)) (l i).length (bcells (l i))

theorem Late.congr (h : Late w0 ao bs P r b5 s6 b15 s7 b17 T gl cl gg cg U l w col) (hl : ∀ i, i < 6 → l' i = l i) : Late w0 ao bs P r b5 s6 b15 s7 b17 T gl cl gg cg U l' w col := by
  refine ⟨h.held, h.nT, h.lists, ?_, fun i hi => by rw [hl i hi]; exact h.rows i hi⟩
  have e : (List.range 6).map (fun i => bval (l' i).length (U i)) = (List.range 6).map fun i => bval (l i).length (U i) := List.map_congr_left (fun i hi => by rw [hl i (List.mem_range.1 hi)])
  rw [e]
  exact h.grown

theorem Late.new (h : Full w0 ao bs P r b5 s6 b15 s7 b17 S T ga ca gl cl Pk l w col) (hl : ∀ i, (l i).length = bs.length) (hg : w.grownBy w' none) (hgg : gg = w.heap.size) (ho : w'.ownsRow 0 32 1 (.slice (some ⟨gg, 0, none⟩) 6 cg) 6 (T.map (bval bs.length))) :
    Late w0 ao bs P r b5 s6 b15 s7 b17 T gl cl gg cg (fun i => T.getD i (0, 0)) l w' (paint col w.heap.size 3) := by
  have n6 := h.nS
  have n7 := h.nT
  have t := Tr.grown (col := col) (c := 99) hg (fun g h => by cases h) 3
  refine ⟨h.held.tr t (by decide), n7, h.lists.tr t (by decide), ⟨?_, fun j hj => ?_⟩, fun i hi => ?_⟩
  · have e : (List.range 6).map (fun i => bval (l i).length (T.getD i (0, 0))) = T.map (bval bs.length) := by
      apply List.ext_getElem (by simp [n7])
      intro i h1 h2
      have h3 : i < T.length := by simpa using h2
      simp [hl, List.getElem?_eq_getElem h3]
    rw [e]
    exact ho
  · obtain rfl : gg = j := by simpa [Value.ownBlock] using hj
    exact paint_new (by omega)
  · have h3 : i < T.length := by omega
    have hr := (h.rows i h3).tr t (by omega)
    have e : T.getD i (0, 0) = T[i] := by simp [List.getD, List.getElem?_eq_getElem h3]
    simp only [e]
    exact hr

theorem Late.grown_at (h : Late w0 ao bs P r b5 s6 b15 s7 b17 T gl cl gg cg U l w col) {k m : Nat} (hk : k < 6) {t : Nat × Nat} (ht : U k = t) (hm : (l k).length = m) : w.cell? ⟨gg, k, none⟩ = some (.slice (some ⟨t.1, 0, none⟩) m t.2) :=
  h.grown.cell (by rw [List.getElem?_map, List.getElem?_range hk]; simp [bval, ht, hm])
theorem Late.list_at (h : Late w0 ao bs P r b5 s6 b15 s7 b17 T gl cl gg cg U l w col) {k : Nat} (hk : k < T.length) {t : Nat × Nat} (ht : T[k] = t) : w.cell? ⟨gl, k, none⟩ = some (.slice (some ⟨t.1, 0, none⟩) bs.length t.2) :=
  h.lists.cell (by rw [List.getElem?_map, List.getElem?_eq_getElem hk, ht]; rfl)
theorem Late.byte_at (h : Late w0 ao bs P r b5 s6 b15 s7 b17 T gl cl gg cg U l w col) {k j : Nat} (hk : k < 6) {t : Nat × Nat} (ht : U k = t) {x : UInt8} (hx : (l k)[j]? = some x) : w.cell? ⟨t.1, j, none⟩ = some (.int .u8 (x.toNat : Int)) := by
  subst ht
  exact (h.rows k hk).cell (by rw [bcells, List.getElem?_map, hx]; rfl)

/-- Behind the push, ahead of the store. -/
theorem Late.mid (h : Late w0 ao bs P r b5 s6 b15 s7 b17 T gl cl gg cg U l w col) {k : Nat} (hk : k < 6) (hb : Below w.heap.size w w1) (hg : w1.grownBy w2 (some (U k).1)) :
    (∃ u, w2.cell? ⟨gg, k, none⟩ = some u) ∧ w2.frozen? ⟨gg, k, none⟩ = false := by
  have t1 := Tr.below (col := col) hb 99 99
  have hr1 := (h.rows k hk).tr t1 (by omega)
  have t2 := Tr.grown (c := 20 + k) hg (fun g hh => hr1.col g hh) 99
  have hgr := (h.grown.tr t1 (by decide)).tr t2 (by omega)
  exact ⟨⟨_, hgr.cell (by rw [List.getElem?_map, List.getElem?_range hk]; rfl)⟩, hgr.free k⟩

theorem Late.push (h : Late w0 ao bs P r b5 s6 b15 s7 b17 T gl cl gg cg U l w col) {k m : Nat} (hk : k < 6) (hm : (l k).length = m) {x : UInt8} {g cap : Nat} (hb : Below w.heap.size w w1) (hg : w1.grownBy w2 (some (U k).1))
    (ho : w2.ownsRow 0 5 1 (.slice (some ⟨g, 0, none⟩) (m + 1) cap) (m + 1) (bcells (l k ++ [x]))) (hor : some (U k).1 = some g ∨ g = w1.heap.size) (h1 : l' k = l k ++ [x]) (h2 : ∀ i, i ≠ k → l' i = l i) :
    ∃ U' col', Late w0 ao bs P r b5 s6 b15 s7 b17 T gl cl gg cg U' l' (w2.setCell ⟨gg, k, none⟩ (.slice (some ⟨g, 0, none⟩) (m + 1) cap)) col' := by
  have t1 := Tr.below (col := col) hb 99 99
  have hr1 := (h.rows k hk).tr t1 (by omega)
  have t2 := Tr.grown (c := 20 + k) hg (fun g hh => hr1.col g hh) (20 + k)
  have hr2 := hr1.grow ho hor
  have hgr := (h.grown.tr t1 (by decide)).tr t2 (by omega)
  have t3 : Tr 3 w2 _ (w2.setCell ⟨gg, k, none⟩ (.slice (some ⟨g, 0, none⟩) (m + 1) cap)) _ := Tr.cell (hgr.col gg rfl) k _
  have hlk : (l' k).length = m + 1 := by rw [h1]; simp [hm]
  refine ⟨fun i => if i = k then (g, cap) else U i, _, ((h.held.tr t1 (by decide)).tr t2 (by omega)).tr t3 (by decide), h.nT, ((h.lists.tr t1 (by decide)).tr t2 (by omega)).tr t3 (by decide), ⟨?_, hgr.col⟩, fun i hi => ?_⟩
  · have hin := own_into hgr.own (o := k) (vs := [.slice (some ⟨g, 0, none⟩) (m + 1) cap]) (by simp; omega) (fun v hv => by simp at hv; subst hv; rfl)
    have e : ((List.range 6).map fun i => bval (l i).length (U i)).take k ++ [.slice (some ⟨g, 0, none⟩) (m + 1) cap] ++ ((List.range 6).map fun i => bval (l i).length (U i)).drop (k + 1) = (List.range 6).map fun i => bval (l' i).length (if i = k then (g, cap) else U i) := by
      have e2 : ∀ i, bval (l' i).length (if i = k then (g, cap) else U i) = if i = k then .slice (some ⟨g, 0, none⟩) (m + 1) cap else bval (l i).length (U i) := by
        intro i
        by_cases he : i = k
        · subst he; simp [hlk, bval]
        · simp [he, h2 i he]
      simp only [e2]
      rcases (show k = 0 ∨ k = 1 ∨ k = 2 ∨ k = 3 ∨ k = 4 ∨ k = 5 by omega) with rfl | rfl | rfl | rfl | rfl | rfl <;> simp [List.range_succ]
    have e3 : k + [Value.slice (some ⟨g, 0, none⟩) (m + 1) cap].length = k + 1 := rfl
    rw [e3, e] at hin
    exact hin
  · by_cases he : i = k
    · subst he
      simp only [if_true]
      rw [hlk, h1]
      exact hr2.tr t3 (by omega)
    · simp only [he, if_false]
      rw [h2 i he]
      exact (((h.rows i hi).tr t1 (by omega)).tr t2 (by omega)).tr t3 (by omega)
end

theorem own_addr {w : World} {B g n cap : Nat} {e : TypeId} {sz : Nat} {xs : List Value} (h : w.ownsRow B e sz (.slice (some ⟨g, 0, none⟩) n cap) n xs) (j : Nat) (u : Value) (hu : xs[j]? = some u) : w.cell? ((⟨g, 0, none⟩ : Addr).add j) = some u := by
  obtain ⟨o, cp, he, hl, _, _⟩ := own_lies h
  cases he
  obtain ⟨a, ha, hc⟩ := hl j u hu
  cases ha
  exact hc

theorem wpList_all53 {ops : Array Oper} {rest : List Oper} {o : Oper} {a : Act} {w : World} {Q : Exit → Act → World → Prop} (hgd : o.guard = none) (x y : Operand)
    (ho : o.op = .call { callee := .builtin .append, args := #[x, y], argTypes := #[53, 53] }) (gl cl : Nat) (xs : List Value) (hx : a.eval x = .slice none 0 0) (hy : a.eval y = .slice (some ⟨gl, 0, none⟩) 6 cl)
    (hown : w.ownsRow 0 32 1 (.slice (some ⟨gl, 0, none⟩) 6 cl) 6 xs) (h1 : ∀ u ∈ xs, u.oneCell' = true)
    (h : ∀ g cap w', w'.ownsRow 0 32 1 (.slice (some ⟨g, 0, none⟩) 6 cap) 6 xs → w.grownBy w' none → g = w.heap.size → wpList Tryd.prog ops Q rest (a.put o.dst (.slice (some ⟨g, 0, none⟩) 6 cap)) w') : wpList Tryd.prog ops Q (o :: rest) a w := by
  obtain ⟨i32, hi32, hz0, hz1, hz2⟩ := info_parts info32
  refine wpList_push w hgd x y 53 ho 0 32 i32 _ 1 24 Tryd.underlying53 hi32 hz0 hz1 hz2 rfl (by omega) _ 0 [] hx (World.ownsRow_nil w 0 32 1) ⟨gl, 0, none⟩ 6 cl xs hy (by simpa using hown.1)
    (own_addr hown) h1 (by omega) (by unfold maxLen; omega) (by omega) (Nat.zero_le _) ?_
  intro g cap w' k1 _ k2 k3
  refine h g cap w' (by simpa using k1) k2 (by rcases k3 with k3 | k3; cases k3; exact k3)

theorem wpList_add32 {ops : Array Oper} {rest : List Oper} {o : Oper} {a : Act} {w : World} {Q : Exit → Act → World → Prop} (hgd : o.guard = none) (x y : Operand)
    (ho : o.op = .call { callee := .builtin .append, args := #[x, y], argTypes := #[32, 32] }) (bl : List UInt8) (m : Nat) (hm : bl.length = m) (t : Nat × Nat) (c : UInt8) (b : Nat) (hx : a.eval x = .slice (some ⟨t.1, 0, none⟩) m t.2) (hy : a.eval y = .slice (some ⟨b, 0, none⟩) 1 1)
    (hown : w.ownsRow 0 5 1 (.slice (some ⟨t.1, 0, none⟩) m t.2) m (bcells bl)) (hb : w.heap[b]? = some (.cells #[.int .u8 (c.toNat : Int)] 5 (0, 0))) (hs : m ≤ 10000000)
    (h : ∀ g cap w', w'.ownsRow 0 5 1 (.slice (some ⟨g, 0, none⟩) (m + 1) cap) (m + 1) (bcells (bl ++ [c])) → w.grownBy w' (some t.1) → (some t.1 = some g ∨ g = w.heap.size) → wpList Tryd.prog ops Q rest (a.put o.dst (.slice (some ⟨g, 0, none⟩) (m + 1) cap)) w') : wpList Tryd.prog ops Q (o :: rest) a w := by
  obtain ⟨i5, hi5, hz0, hz1, hz2⟩ := info_parts infoB
  refine wpList_push w hgd x y 32 ho 0 5 i5 _ 1 1 Tryd.underlying32 hi5 hz0 hz1 hz2 rfl (by omega) _ m (bcells bl) hx hown ⟨b, 0, none⟩ 1 1 [.int .u8 (c.toNat : Int)] hy rfl
    (World.news_of_block hb) (fun v hv => by simp at hv; subst hv; rfl) (by omega) (by unfold maxLen; omega) (by omega) (Nat.zero_le _) ?_
  intro g cap w' k1 _ k2 k3
  rw [bcells_app] at k1
  exact h g cap w' k1 k2 k3
end Go.Proofs.YtfjiikadnlhekaaDoor
