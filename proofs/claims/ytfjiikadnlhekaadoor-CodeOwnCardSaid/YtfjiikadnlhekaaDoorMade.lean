/-
  What is proved here: what CodeOwn has made after some rounds: programs and byte rows, each in blocks of a colour of its own. Conditions: none.
-/
import Derived.Test.YtfjiikadnlhekaaDoorCol
import Derived.Test.YtfjiikadnlhekaaDoorLawOther
namespace Go.Proofs.YtfjiikadnlhekaaDoor
open Go.RowKit

theorem info27 : (Tryd.prog.info? 27).map (fun i => (i.zero, i.size, i.bytes)) = some (some (.agg #[.slice none 0 0, .slice none 0 0, .slice none 0 0, .slice none 0 0, .int .i64 0, .slice none 0 0]), 6, 128) := by kernel_rfl
theorem info32 : (Tryd.prog.info? 32).map (fun i => (i.zero, i.size, i.bytes)) = some (some (.slice none 0 0), 1, 24) := by kernel_rfl
theorem pcl_one (P : Prg) (s : Spots) : ∀ u ∈ pcells s P, u.oneCell' = true := by
  intro u hu
  simp [pcells] at hu
  rcases hu with rfl | rfl | rfl | rfl | rfl | rfl <;> rfl

def pcl (P : Prg) (s : Spots) : List Value := (pcells s P).toList
theorem pcl_length (P : Prg) (s : Spots) : (pcl P s).length = 6 := rfl
/-- The value of a byte row. -/
def bval (n : Nat) (t : Nat × Nat) : Value := .slice (some ⟨t.1, 0, none⟩) n t.2

/-- What stays through the whole of the walk. -/
structure Stay (w0 : World) (ao : Option Addr) (bs : List UInt8) (P : Prg) (r : Spots) (b5 : Nat) (w : World) (col : Nat → Nat) : Prop where
  base : Base w0 w col
  arg : RLies w col 0 ao (bcells bs)
  was : RPrg w col 5 r P
  box : RBox w col 4 b5 (.cells (pcells r P) 27 (0, 0))
theorem Stay.tr {w0 : World} {ao : Option Addr} {bs : List UInt8} {P : Prg} {r : Spots} {b5 c : Nat} {w w' : World} {col col' : Nat → Nat} (h : Stay w0 ao bs P r b5 w col) (t : Tr c w col w' col') (h0 : 0 ≠ c) (h4 : 4 ≠ c) (h5 : 5 ≠ c) : Stay w0 ao bs P r b5 w' col' :=
  ⟨h.base.tr t h0, h.arg.tr t h0, h.was.tr t h5, h.box.tr t h4⟩

/-- The programs that have been made. -/
def Progs (P : Nat → Prg) (S : List Spots) (w : World) (col : Nat → Nat) : Prop := ∀ i (h : i < S.length), ∃ B E, RProg w col (10 + i) B E S[i] (P i)
theorem Progs.tr {P : Nat → Prg} {S : List Spots} {c : Nat} {w w' : World} {col col' : Nat → Nat} (h : Progs P S w col) (t : Tr c w col w' col') (hc : c < 10 ∨ 16 ≤ c) (hS : S.length ≤ 6) : Progs P S w' col' := by
  intro i hi
  obtain ⟨B, E, hp⟩ := h i hi
  exact ⟨B, E, hp.tr t (by omega)⟩
theorem Progs.more {P : Nat → Prg} {S : List Spots} {w : World} {col : Nat → Nat} (h : Progs P S w col) {s : Spots} {B E : Nat} (hp : RProg w col (10 + S.length) B E s (P S.length)) : Progs P (S ++ [s]) w col := by
  intro i hi
  by_cases hlt : i < S.length
  · rw [List.getElem_append_left hlt]; exact h i hlt
  · obtain rfl : i = S.length := by simp at hi; omega
    rw [List.getElem_append_right (Nat.le_refl _)]
    simp only [Nat.sub_self, List.getElem_cons_zero]
    exact ⟨B, E, hp⟩

/-- The byte rows that have been made. -/
def Bytes (l : Nat → List UInt8) (T : List (Nat × Nat)) (w : World) (col : Nat → Nat) : Prop := ∀ i (h : i < T.length), RRow w col (20 + i) 5 1 (bval (l i).length T[i]) (l i).length (bcells (l i))
theorem Bytes.tr {l : Nat → List UInt8} {T : List (Nat × Nat)} {c : Nat} {w w' : World} {col col' : Nat → Nat} (h : Bytes l T w col) (t : Tr c w col w' col') (hc : c < 20 ∨ 26 ≤ c) (hT : T.length ≤ 6) : Bytes l T w' col' :=
  fun i hi => (h i hi).tr t (by omega)
theorem Bytes.more {l : Nat → List UInt8} {T : List (Nat × Nat)} {w : World} {col : Nat → Nat} (h : Bytes l T w col) {t : Nat × Nat} (hp : RRow w col (20 + T.length) 5 1 (bval (l T.length).length t) (l T.length).length (bcells (l T.length))) : Bytes l (T ++ [t]) w col := by
  intro i hi
  by_cases hlt : i < T.length
  · rw [List.getElem_append_left hlt]; exact h i hlt
  · obtain rfl : i = T.length := by simp at hi; omega
    rw [List.getElem_append_right (Nat.le_refl _)]
    simp only [Nat.sub_self, List.getElem_cons_zero]
    exact hp

/-- What the first loop has made. -/
structure Made (w0 : World) (ao : Option Addr) (bs : List UInt8) (P : Prg) (r : Spots) (b5 k : Nat) (S : List Spots) (T : List (Nat × Nat)) (vv lv : Value) (w : World) (col : Nat → Nat) : Prop where
  stay : Stay w0 ao bs P r b5 w col
  nS : S.length = 2 * k
  nT : T.length = 2 * k
  all : RRow w col 1 27 6 vv S.length (flat (pcl P) S)
  lists : RRow w col 2 32 1 lv T.length (T.map (bval bs.length))
  progs : Progs (fun _ => P) S w col
  rows : Bytes (fun _ => bs) T w col

/-- In the midst of a round: the rows tell S and T, the programs made are Sp, the byte rows made are Tp. -/
structure Have (w0 : World) (ao : Option Addr) (bs : List UInt8) (P : Prg) (r : Spots) (b5 : Nat) (S Sp : List Spots) (T Tp : List (Nat × Nat)) (vv lv : Value) (w : World) (col : Nat → Nat) : Prop where
  stay : Stay w0 ao bs P r b5 w col
  nS : Sp.length ≤ 6
  nT : Tp.length ≤ 6
  all : RRow w col 1 27 6 vv S.length (flat (pcl P) S)
  lists : RRow w col 2 32 1 lv T.length (T.map (bval bs.length))
  progs : Progs (fun _ => P) Sp w col
  rows : Bytes (fun _ => bs) Tp w col
section
variable {w0 : World} {ao : Option Addr} {bs : List UInt8} {P : Prg} {r : Spots} {b5 : Nat} {S Sp : List Spots} {T Tp : List (Nat × Nat)} {vv lv : Value} {w w' : World} {col : Nat → Nat}
theorem Have.tr99 {col' : Nat → Nat} (h : Have w0 ao bs P r b5 S Sp T Tp vv lv w col) (t : Tr 99 w col w' col') : Have w0 ao bs P r b5 S Sp T Tp vv lv w' col' :=
  ⟨h.stay.tr t (by decide) (by decide) (by decide), h.nS, h.nT, h.all.tr t (by decide), h.lists.tr t (by decide), h.progs.tr t (by omega) h.nS, h.rows.tr t (by omega) h.nT⟩
theorem Have.quiet (h : Have w0 ao bs P r b5 S Sp T Tp vv lv w col) (hb : Below w.heap.size w w') (d : Nat) : Have w0 ao bs P r b5 S Sp T Tp vv lv w' (paint col w.heap.size d) := h.tr99 (Tr.below hb 99 d)
theorem Have.prog (h : Have w0 ao bs P r b5 S Sp T Tp vv lv w col) (hb : Below w.heap.size w w') {s : Spots} (hO : POwn w' w.heap.size s P) (hn : Sp.length < 6) : Have w0 ao bs P r b5 S (Sp ++ [s]) T Tp vv lv w' (paint col w.heap.size (10 + Sp.length)) := by
  have h2 := h.tr99 (Tr.below hb 99 (10 + Sp.length))
  exact ⟨h2.stay, by simp; omega, h2.nT, h2.all, h2.lists, h2.progs.more (RProg.new hO _), h2.rows⟩
theorem Have.bytes (h : Have w0 ao bs P r b5 S Sp T Tp vv lv w col) (hb : Below w.heap.size w w') {t : Nat × Nat} (hO : w'.ownsRow w.heap.size 5 1 (bval bs.length t) bs.length (bcells bs)) (hn : Tp.length < 6) : Have w0 ao bs P r b5 S Sp T (Tp ++ [t]) vv lv w' (paint col w.heap.size (20 + Tp.length)) := by
  have h2 := h.tr99 (Tr.below hb 99 (20 + Tp.length))
  exact ⟨h2.stay, h2.nS, by simp; omega, h2.all, h2.lists, h2.progs, h2.rows.more (RRow.new hO _)⟩
theorem Have.push_all (h : Have w0 ao bs P r b5 S Sp T Tp vv lv w col) {S2 : List Spots} {g cap B : Nat} (hg : w.grownBy w' vv.ownBlock) (ho : w'.ownsRow B 27 6 (.slice (some ⟨g, 0, none⟩) S2.length cap) S2.length (flat (pcl P) S2)) (hor : vv.ownBlock = some g ∨ g = w.heap.size) :
    Have w0 ao bs P r b5 S2 Sp T Tp (.slice (some ⟨g, 0, none⟩) S2.length cap) lv w' (paint col w.heap.size 1) := by
  have t := Tr.grown (col := col) (c := 1) hg h.all.col 1
  exact ⟨h.stay.tr t (by decide) (by decide) (by decide), h.nS, h.nT, h.all.grow ho hor, h.lists.tr t (by decide), h.progs.tr t (by omega) h.nS, h.rows.tr t (by omega) h.nT⟩
theorem Have.push_lists (h : Have w0 ao bs P r b5 S Sp T Tp vv lv w col) {T2 : List (Nat × Nat)} {g cap B : Nat} (hg : w.grownBy w' lv.ownBlock) (ho : w'.ownsRow B 32 1 (.slice (some ⟨g, 0, none⟩) T2.length cap) T2.length (T2.map (bval bs.length))) (hor : lv.ownBlock = some g ∨ g = w.heap.size) :
    Have w0 ao bs P r b5 S Sp T2 Tp vv (.slice (some ⟨g, 0, none⟩) T2.length cap) w' (paint col w.heap.size 2) := by
  have t := Tr.grown (col := col) (c := 2) hg h.lists.col 2
  exact ⟨h.stay.tr t (by decide) (by decide) (by decide), h.nS, h.nT, h.all.tr t (by decide), h.lists.grow ho hor, h.progs.tr t (by omega) h.nS, h.rows.tr t (by omega) h.nT⟩
theorem Made.have {k : Nat} (h : Made w0 ao bs P r b5 k S T vv lv w col) (hk : k ≤ 3) : Have w0 ao bs P r b5 S S T T vv lv w col := ⟨h.stay, by have := h.nS; omega, by have := h.nT; omega, h.all, h.lists, h.progs, h.rows⟩
theorem Have.made {k : Nat} (h : Have w0 ao bs P r b5 S S T T vv lv w col) (hS : S.length = 2 * k) (hT : T.length = 2 * k) : Made w0 ao bs P r b5 k S T vv lv w col := ⟨h.stay, hS, hT, h.all, h.lists, h.progs, h.rows⟩
end
end Go.Proofs.YtfjiikadnlhekaaDoor
