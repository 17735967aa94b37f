/-
  What is proved here: how a slice of bytes, a text's lines and its beginnings lie in memory, and that they stay so while a call only makes memory. Conditions: none beyond each lemma's own.
-/
import Derived.WalkKit
import Derived.Lib.Hide
import Derived.ProofKit
import Derived.WalkSpells
import Derived.WalkLawsBesides
import Derived.Laws.BytesArg
import Derived.Test.YtdmdfcdfmedhcaaDoorMath
namespace Go.Proofs.YtdmdfcdfmedhcaaDoor
open Go.RowKit

/-- The bytes bs lie from an address on (of no bytes nothing is said). -/
def BAt (w : World) (ao : Option Addr) (bs : List UInt8) : Prop :=
  ∀ i c, bs[i]? = some c → ∃ a, ao = some a ∧ w.cell? (a.add i) = some (.int .u8 c.toNat)

theorem BAt.at {w : World} {ao : Option Addr} {bs : List UInt8} (h : BAt w ao bs) (i : Nat) (hi : i < bs.length) : ∃ a, ao = some a ∧ w.cell? (a.add i) = some (.int .u8 bs[i].toNat) :=
  h i _ (List.getElem?_eq_getElem hi)

theorem add_block (a : Addr) (i : Nat) : (a.add i).block = a.block := by unfold Addr.add; split <;> rfl
theorem add_add (a : Addr) (i j : Nat) : (a.add i).add j = a.add (i + j) := by
  unfold Addr.add
  by_cases hi : i = 0
  · subst hi; simp
  · by_cases hj : j = 0
    · subst hj; simp [hi]
    · simp [hi, hj, Nat.add_assoc]

theorem BAt.below {w w' : World} {ao : Option Addr} {bs : List UInt8} (h : BAt w ao bs) (hb : Below w.heap.size w w') : BAt w' ao bs := by
  intro i c hc
  obtain ⟨a, ha, hcell⟩ := h i c hc
  exact ⟨a, ha, (hb.cell (World.block_lt_of_cell? w _ hcell)).trans hcell⟩

theorem BAt.belowAt {w w' : World} {ao : Option Addr} {bs : List UInt8} {B : Nat} (h : BAt w ao bs) (hb : Below B w w') (hB : ∀ a, ao = some a → a.block < B) : BAt w' ao bs := by
  intro i c hc
  obtain ⟨a, ha, hcell⟩ := h i c hc
  exact ⟨a, ha, (hb.cell (by rw [add_block]; exact hB a ha)).trans hcell⟩

/-- A part of a slice. -/
theorem BAt.part {w : World} {ao : Option Addr} {bs : List UInt8} (h : BAt w ao bs) (cap lo hi : Nat) (hcap : bs.length ≤ cap) :
    BAt w (if cap = lo then ao else ao.map (·.add lo)) ((bs.take hi).drop lo) := by
  intro i c hc
  have hi' : lo + i < bs.length := by
    rcases Nat.lt_or_ge (lo + i) bs.length with h1 | h1
    · exact h1
    · rw [List.getElem?_eq_none (by simp; omega)] at hc
      cases hc
  have hc' : bs[lo + i]? = some c := by
    rw [List.getElem?_drop, List.getElem?_take] at hc
    split at hc
    · exact hc
    · cases hc
  obtain ⟨a, ha, hcell⟩ := h _ _ hc'
  rw [if_neg (by omega)]
  exact ⟨a.add lo, by rw [ha]; rfl, by rw [add_add]; exact hcell⟩

theorem BAt.front {w : World} {ao : Option Addr} {bs : List UInt8} (h : BAt w ao bs) (k : Nat) : BAt w ao (bs.take k) := by
  intro i c hc
  rw [List.getElem?_take] at hc
  split at hc
  · exact h i c hc
  · cases hc

/-- A string of a list of bytes. -/
def str (l : List UInt8) : ByteArray := ⟨l.toArray⟩
theorem str_data (l : List UInt8) : (str l).data.toList = l := rfl
theorem str_size (l : List UInt8) : (str l).size = l.length := rfl

/-- The conversion of a slice of bytes to a string. -/
theorem BAt.conv {P : Program} {w : World} {ao : Option Addr} {bs : List UInt8} (h : BAt w ao bs) (n cap : Nat) (hn : n = bs.length) (src dst e : TypeId)
    (hs : P.underlying src = some (.slice e)) (he : P.underlying e = some (.int .u8)) (hd : P.underlying dst = some .string) :
    (convert src dst (.slice ao n cap)).run P w = .ok (.string (str bs)) w := by
  subst hn
  rw [run_convert_bytes_string w src dst e ao _ cap hs he hd]
  cases ao with
  | none =>
    have hz : bs = [] := by
      cases bs with
      | nil => rfl
      | cons c r => obtain ⟨a, ha, _⟩ := h 0 c rfl; cases ha
    subst hz
    simp [Conv.bytesToString, str]
    rfl
  | some a =>
    have hl : (loadCells a bs.length).run P w = .ok ((bs.map fun c => (c.toNat : Int)).map (Value.int .u8)).toArray w := by
      have := run_loadCells_list (P := P) w a ((bs.map fun c => (c.toNat : Int)).map (Value.int .u8)) (fun j v hj => by
        rw [List.getElem?_map, List.getElem?_map] at hj
        rcases hb : bs[j]? with _ | c
        · rw [hb] at hj; cases hj
        · rw [hb] at hj
          obtain ⟨a', ha', hcell⟩ := h j c hb
          cases ha'
          rw [hcell]
          simpa using hj)
      simpa using this
    rw [run_bytesToString w a bs.length cap _ hl, foldl_push_bytes]
    have e1 : ((bs.map fun c => (c.toNat : Int)).map fun n => UInt8.ofNat n.toNat) = bs := by
      rw [List.map_map]
      conv => rhs; rw [← List.map_id bs]
      refine List.map_congr_left fun c _ => ?_
      simp
    rw [e1]
    simp [str, ByteArray.empty, ByteArray.emptyWithCapacity]
    rfl

/-- An owned slice that is not empty: its shape. -/
theorem own_shape {w : World} {base : Nat} {e : TypeId} {v : Value} {n : Nat} {xs : List Value} (h : w.ownsRow base e 1 v n xs) (hn : 0 < n) :
    ∃ g cap, v = .slice (some ⟨g, 0, none⟩) n cap ∧ base ≤ g ∧ g < w.heap.size ∧ n ≤ cap ∧ cap ≤ maxLen := by
  rcases h.2 with ⟨_, h0⟩ | ⟨g, cap, cur, hv, hg, hh, hc, hm, _⟩
  · omega
  · exact ⟨g, cap, hv, hg, (Array.getElem?_eq_some_iff.1 hh).1, hc, hm⟩

/-- The law on 'append(v, u)', v the call's own, elements of one cell: u has just been laid in a block of its own. -/
theorem wpList_append1 {P : Program} {w : World} {ops : Array Oper} {rest : List Oper} {o : Oper} {a : Act} {Q : Exit → Act → World → Prop} (hgd : o.guard = none) (s x : Operand) (t : TypeId)
    (ho : o.op = .call { callee := .builtin .append, args := #[s, x], argTypes := #[t, t] })
    (base : Nat) (e : TypeId) (z : Value) (bytes : Nat) (ht : P.underlying t = some (.slice e)) (hinfo : (P.info? e).map (fun i => (i.zero, i.size, i.bytes)) = some (some z, 1, bytes)) (hzs : z.cells.size = 1)
    (v : Value) (n : Nat) (xs : List Value) (hs : a.eval s = v) (hown : w.ownsRow base e 1 v n xs)
    (N : Nat) (hN : N = w.heap.size) (u : Value) (hx : a.eval x = .slice (some ⟨N, 0, none⟩) 1 1) (h1 : u.oneCell' = true)
    (h63 : n + 1 ≤ maxLen) (hbytes : (n + 1) * bytes ≤ 140737488355328) (hbase : base ≤ w.heap.size)
    (h : ∀ g cap w', w'.ownsRow base e 1 (.slice (some ⟨g, 0, none⟩) (n + 1) cap) (n + 1) (xs ++ [u]) → w.grownBy w' v.ownBlock → base ≤ g → wpList P ops Q rest (a.put o.dst (.slice (some ⟨g, 0, none⟩) (n + 1) cap)) w') :
    wpList P ops Q (o :: rest) a (w.alloc (.cells #[u] e)) := by
  subst hN
  obtain ⟨i, hi, hz0, hz1, hz2⟩ := info_parts hinfo
  refine wpList_append_own _ hgd s x t ho base e i z 1 bytes ht hi hz0 hz1 hz2 hzs (by omega) v n xs hs (hown.alloc _) ⟨w.heap.size, 0, none⟩ 1 1 [u] hx rfl (cell_one_new _ _ _) (by intro y hy; simp at hy; subst hy; exact h1) h63 hbytes (by simp; omega) ?_
  intro v' w' hown' hgrow _
  obtain ⟨g, cap, rfl, hg, _⟩ := own_shape hown' (by omega)
  refine h g cap w' hown' ⟨hgrow.os, hgrow.tape, hgrow.output, Nat.le_trans (by simp) hgrow.size, fun k hk hne => ?_⟩ hg
  rw [hgrow.block k (by simp; omega) hne]
  exact Below.heap_alloc w _ k hk

/-- Numbers, strings in a row of cells. -/
def Nums (w : World) (g : Nat) (l : List Nat) : Prop := ∀ (i x : Nat), l[i]? = some x → w.cell? ⟨g, i, none⟩ = some (.int .i64 (x : Int))
def Strs (w : World) (g : Nat) (l : List ByteArray) : Prop := ∀ (i : Nat) (s : ByteArray), l[i]? = some s → w.cell? ⟨g, i, none⟩ = some (.string s)
theorem Nums.below {w w' : World} {g B : Nat} {l : List Nat} (h : Nums w g l) (hb : Below B w w') (hg : g < B) : Nums w' g l :=
  fun i x hx => (hb.cell (p := ⟨g, i, none⟩) hg).trans (h i x hx)
theorem Strs.below {w w' : World} {g B : Nat} {l : List ByteArray} (h : Strs w g l) (hb : Below B w w') (hg : g < B) : Strs w' g l :=
  fun i x hx => (hb.cell (p := ⟨g, i, none⟩) hg).trans (h i x hx)

def ints (l : List Nat) : List Value := l.map fun x : Nat => Value.int .i64 (x : Int)
theorem ints_snoc (l : List Nat) (x : Nat) : ints l ++ [.int .i64 (x : Int)] = ints (l ++ [x]) := by simp [ints]
theorem ints_length (l : List Nat) : (ints l).length = l.length := by simp [ints]
def strs (l : List ByteArray) : List Value := l.map Value.string
theorem strs_snoc (l : List ByteArray) (x : ByteArray) : strs l ++ [.string x] = strs (l ++ [x]) := by simp [strs]
theorem strs_length (l : List ByteArray) : (strs l).length = l.length := by simp [strs]

theorem own_cells {w : World} {base : Nat} {e : TypeId} {g n cap : Nat} {xs : List Value} (h : w.ownsRow base e 1 (.slice (some ⟨g, 0, none⟩) n cap) n xs) (i : Nat) (u : Value) (hu : xs[i]? = some u) : w.cell? ⟨g, i, none⟩ = some u := by
  have := h.cells (g := g) rfl i u hu
  have e : (⟨g, 0, none⟩ : Addr).add i = ⟨g, i, none⟩ := by
    unfold Addr.add
    split
    · rename_i h0; subst h0; rfl
    · simp
  rwa [e] at this
theorem own_nums {w : World} {base : Nat} {e : TypeId} {g n cap : Nat} {l : List Nat} (h : w.ownsRow base e 1 (.slice (some ⟨g, 0, none⟩) n cap) n (ints l)) : Nums w g l :=
  fun i x hx => own_cells h i _ (by unfold ints; rw [List.getElem?_map, hx]; rfl)
theorem own_strs {w : World} {base : Nat} {e : TypeId} {g n cap : Nat} {l : List ByteArray} (h : w.ownsRow base e 1 (.slice (some ⟨g, 0, none⟩) n cap) n (strs l)) : Strs w g l :=
  fun i x hx => own_cells h i _ (by unfold strs; rw [List.getElem?_map, hx]; rfl)

/-- A store into a block that is known whole. -/
theorem setCell_block {w : World} {b : Nat} {cs : Array Value} {t : TypeId} (h : w.heap[b]? = some (.cells cs t (0, 0))) (i : Nat) (u : Value) :
    (w.setCell ⟨b, i, none⟩ u).heap[b]? = some (.cells (cs.setIfInBounds i u) t (0, 0)) := by
  simp only [World.setCell, Array.getElem?_modify, if_true, h]
  rfl
theorem setCell_other {w : World} {b k : Nat} (i : Nat) (u : Value) (h : k ≠ b) : (w.setCell ⟨b, i, none⟩ u).heap[k]? = w.heap[k]? :=
  Below.heap_setCell _ _ _ _ h
theorem block_cell {w : World} {b : Nat} {cs : Array Value} {t : TypeId} (h : w.heap[b]? = some (.cells cs t (0, 0))) (i : Nat) : w.cell? ⟨b, i, none⟩ = cs[i]? := by
  simp [World.cell?, h]
theorem block_free {w : World} {b : Nat} {cs : Array Value} {t : TypeId} (h : w.heap[b]? = some (.cells cs t (0, 0))) (i : Nat) : w.frozen? ⟨b, i, none⟩ = false := by
  simp [World.frozen?, h]

end Go.Proofs.YtdmdfcdfmedhcaaDoor
