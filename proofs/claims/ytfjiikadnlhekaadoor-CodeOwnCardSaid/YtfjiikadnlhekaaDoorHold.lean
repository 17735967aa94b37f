/-
  What is proved here: what CodeOwn holds behind its first loop, and what each of its later steps leaves of it. Conditions: none.
-/
import Derived.Test.YtfjiikadnlhekaaDoorJoin
namespace Go.Proofs.YtfjiikadnlhekaaDoor
open Go.RowKit

section
variable {w0 w w' : World} {ao : Option Addr} {bs : List UInt8} {P : Prg} {r : Spots} {b5 : Nat} {s6 s7 : Spots} {b15 b17 c : Nat} {col col' : Nat → Nat}

/-- Of a row in one block: its cells. -/
theorem RRow.cell {e : TypeId} {sz g n cap : Nat} {xs : List Value} (h : RRow w col c e sz (.slice (some ⟨g, 0, none⟩) n cap) n xs) {i : Nat} {v : Value} (hv : xs[i]? = some v) : w.cell? ⟨g, i, none⟩ = some v := by
  obtain ⟨o, cp, he, hl, _, _⟩ := own_lies h.own
  cases he
  obtain ⟨a, ha, hc⟩ := hl i v hv
  cases ha
  have hadd : (⟨g, 0, none⟩ : Addr).add i = ⟨g, i, none⟩ := by unfold Addr.add; split <;> simp_all
  rwa [hadd] at hc
theorem RRow.free {e : TypeId} {sz g n cap : Nat} {xs : List Value} (h : RRow w col c e sz (.slice (some ⟨g, 0, none⟩) n cap) n xs) (i : Nat) : w.frozen? ⟨g, i, none⟩ = false := by
  rcases h.own.2 with ⟨hn, _⟩ | ⟨g', cap', cur, hv, _, hgg, _⟩
  · cases hn
  · cases hv
    exact free_at hgg i
theorem RRow.form {e : TypeId} {sz n : Nat} {v : Value} {xs : List Value} (h : RRow w col c e sz v n xs) (hn : 0 < n) : ∃ g cap, v = .slice (some ⟨g, 0, none⟩) n cap := by
  rcases h.own.2 with ⟨_, h0⟩ | ⟨g', cap', cur, hv, _⟩
  · omega
  · exact ⟨g', cap', hv⟩

/-- What stays to the end. -/
structure Held (w0 : World) (ao : Option Addr) (bs : List UInt8) (P : Prg) (r : Spots) (b5 : Nat) (s6 : Spots) (b15 : Nat) (s7 : Spots) (b17 : Nat) (w : World) (col : Nat → Nat) : Prop where
  stay : Stay w0 ao bs P r b5 w col
  last : ∃ B E, RProg w col 6 B E s6 P
  ahead : ∃ B E, RProg w col 7 B E s7 P
  box6 : RBox w col 4 b15 (.cells (pcells s6 P) 27 (0, 0))
  box7 : RBox w col 4 b17 (.cells (pcells s7 P) 27 (0, 0))
theorem Held.tr (h : Held w0 ao bs P r b5 s6 b15 s7 b17 w col) (t : Tr c w col w' col') (hc : 0 ≠ c ∧ 4 ≠ c ∧ 5 ≠ c ∧ 6 ≠ c ∧ 7 ≠ c) : Held w0 ao bs P r b5 s6 b15 s7 b17 w' col' := by
  obtain ⟨B, E, h6⟩ := h.last
  obtain ⟨C, D, h7⟩ := h.ahead
  exact ⟨h.stay.tr t hc.1 hc.2.1 hc.2.2.1, ⟨B, E, h6.tr t hc.2.2.2.1⟩, ⟨C, D, h7.tr t hc.2.2.2.2⟩, h.box6.tr t hc.2.1, h.box7.tr t hc.2.1⟩

/-- Behind the first loop: the programs Pk, the byte rows l. -/
structure Full (w0 : World) (ao : Option Addr) (bs : List UInt8) (P : Prg) (r : Spots) (b5 : Nat) (s6 : Spots) (b15 : Nat) (s7 : Spots) (b17 : Nat) (S : List Spots) (T : List (Nat × Nat)) (ga ca gl cl : Nat) (Pk : Nat → Prg) (l : Nat → List UInt8) (w : World) (col : Nat → Nat) : Prop where
  held : Held w0 ao bs P r b5 s6 b15 s7 b17 w col
  nS : S.length = 6
  nT : T.length = 6
  all : RRow w col 1 27 6 (.slice (some ⟨ga, 0, none⟩) 6 ca) 6 (flat (pcl P) S)
  lists : RRow w col 2 32 1 (.slice (some ⟨gl, 0, none⟩) 6 cl) 6 (T.map (bval bs.length))
  progs : Progs Pk S w col
  rows : Bytes l T w col

theorem Full.new {S : List Spots} {T : List (Nat × Nat)} {vv lv : Value} {w1 w2 w3 w4 w5 : World} (M : Made w0 ao bs P r b5 3 S T vv lv w1 col) (hb2 : Below w1.heap.size w1 w2) (hO6 : POwn w2 w1.heap.size s6 P)
    (hb3 : Below w2.heap.size w2 w3) (hx6 : w3.heap[w2.heap.size]? = some (.cells (pcells s6 P) 27 (0, 0)))
    (hb4 : Below w3.heap.size w3 w4) (hO7 : POwn w4 w3.heap.size s7 P)
    (hb5 : Below w4.heap.size w4 w5) (hx7 : w5.heap[w4.heap.size]? = some (.cells (pcells s7 P) 27 (0, 0))) :
    ∃ ga ca gl cl col', vv = .slice (some ⟨ga, 0, none⟩) 6 ca ∧ lv = .slice (some ⟨gl, 0, none⟩) 6 cl ∧ Full w0 ao bs P r b5 s6 w2.heap.size s7 w4.heap.size S T ga ca gl cl (fun _ => P) (fun _ => bs) w5 col' := by
  have nS := M.nS
  have nT := M.nT
  have ha := M.all
  have hl := M.lists
  rw [nS] at ha
  rw [nT] at hl
  obtain ⟨ga, ca, rfl⟩ := ha.form (by decide)
  obtain ⟨gl, cl, rfl⟩ := hl.form (by decide)
  have t1 := Tr.below (col := col) hb2 99 6
  have t2 := Tr.below (col := paint col w1.heap.size 6) hb3 99 4
  have t3 := Tr.below (col := paint (paint col w1.heap.size 6) w2.heap.size 4) hb4 99 7
  have t4 := Tr.below (col := paint (paint (paint col w1.heap.size 6) w2.heap.size 4) w3.heap.size 7) hb5 99 4
  have t := t1.trans (t2.trans (t3.trans t4))
  refine ⟨ga, ca, gl, cl, _, rfl, rfl, ⟨M.stay.tr t (by decide) (by decide) (by decide), ⟨_, _, (RProg.new hO6 6).tr (t2.trans (t3.trans t4)) (by decide)⟩, ⟨_, _, (RProg.new hO7 7).tr t4 (by decide)⟩, ?_, ⟨hx7, paint_new (Nat.le_refl _)⟩⟩, nS, nT, ha.tr t (by decide), hl.tr t (by decide), M.progs.tr t (by omega) (by omega), M.rows.tr t (by omega) (by omega)⟩
  have hx : RBox w3 (paint (paint col w1.heap.size 6) w2.heap.size 4) 4 w2.heap.size (.cells (pcells s6 P) 27 (0, 0)) := ⟨hx6, paint_new (Nat.le_refl _)⟩
  exact hx.tr (t3.trans t4) (by decide)

variable {S : List Spots} {T : List (Nat × Nat)} {ga ca gl cl : Nat} {Pk : Nat → Prg} {l : Nat → List UInt8}
theorem Full.tr99 (h : Full w0 ao bs P r b5 s6 b15 s7 b17 S T ga ca gl cl Pk l w col) (t : Tr 99 w col w' col') : Full w0 ao bs P r b5 s6 b15 s7 b17 S T ga ca gl cl Pk l w' col' :=
  ⟨h.held.tr t (by decide), h.nS, h.nT, h.all.tr t (by decide), h.lists.tr t (by decide), h.progs.tr t (by omega) (by rw [h.nS]; decide), h.rows.tr t (by omega) (by rw [h.nT]; decide)⟩
theorem Full.quiet (h : Full w0 ao bs P r b5 s6 b15 s7 b17 S T ga ca gl cl Pk l w col) (hb : Below w.heap.size w w') : Full w0 ao bs P r b5 s6 b15 s7 b17 S T ga ca gl cl Pk l w' (paint col w.heap.size 99) := h.tr99 (Tr.below hb 99 99)

/-- The cells of one program's value. -/
theorem Full.six (h : Full w0 ao bs P r b5 s6 b15 s7 b17 S T ga ca gl cl Pk l w col) {k : Nat} (hk : k < S.length) {s : Spots} (hs : S[k] = s) : w.cell? ⟨ga, k * 6, none⟩ = some (.slice s.a0 P.ghost.length s.c0) ∧ w.cell? ⟨ga, k * 6 + 1, none⟩ = some (.slice s.a1 P.vars.length s.c1) ∧ w.cell? ⟨ga, k * 6 + 2, none⟩ = some (.slice s.a2 P.tags.length s.c2) ∧ w.cell? ⟨ga, k * 6 + 3, none⟩ = some (.slice s.a3 P.on.length s.c3) ∧ w.cell? ⟨ga, k * 6 + 4, none⟩ = some (.int .i64 P.miss) ∧ w.cell? ⟨ga, k * 6 + 5, none⟩ = some (.slice s.a4 P.code.length s.c4) := by
  have hcc : ∀ j v, (pcl P s)[j]? = some v → w.cell? ⟨ga, k * 6 + j, none⟩ = some v := fun j v hv => h.all.cell (flat_get (pcl P) 6 (pcl_length P) S k hk j v (by rw [hs]; exact hv))
  exact ⟨hcc 0 _ rfl, hcc 1 _ rfl, hcc 2 _ rfl, hcc 3 _ rfl, hcc 4 _ rfl, hcc 5 _ rfl⟩

/-- A program is written over. -/
theorem Full.spoil (h : Full w0 ao bs P r b5 s6 b15 s7 b17 S T ga ca gl cl Pk l w col) {k B E : Nat} (hk : k < S.length) (hp : RProg w col (10 + k) B E S[k] (Pk k)) {Q : Prg} (hI : PIn w' B E S[k] Q) (hF : Fr B E w w') {Pk' : Nat → Prg} (h1 : Pk' k = Q) (h2 : ∀ i, i ≠ k → Pk' i = Pk i) :
    Full w0 ao bs P r b5 s6 b15 s7 b17 S T ga ca gl cl Pk' l w' (paint col w.heap.size 99) := by
  have t := Tr.fr hF hp.col 99
  have n6 := h.nS
  have n7 := h.nT
  refine ⟨h.held.tr t (by omega), h.nS, h.nT, h.all.tr t (by omega), h.lists.tr t (by omega), fun i hi => ?_, h.rows.tr t (by omega) (by omega)⟩
  by_cases he : i = k
  · subst he
    exact ⟨B, E, ⟨by rw [h1]; exact hI, Nat.le_trans hp.le t.size, fun j hj1 hj2 => (t.same j (by have := hp.le; omega)).trans (hp.col j hj1 hj2)⟩⟩
  · obtain ⟨B', E', hp'⟩ := h.progs i hi
    refine ⟨B', E', ?_⟩
    rw [h2 i he]
    exact hp'.tr t (by omega)

/-- A byte of a row. -/
theorem own_byte {g cap k : Nat} {bl : List UInt8} (h : w.ownsRow 0 5 1 (.slice (some ⟨g, 0, none⟩) bl.length cap) bl.length (bcells bl)) (hk : k < bl.length) (x : UInt8) :
    (w.setCell ⟨g, k, none⟩ (.int .u8 (x.toNat : Int))).ownsRow 0 5 1 (.slice (some ⟨g, 0, none⟩) bl.length cap) bl.length (bcells (bl.set k x)) := by
  have e : ∀ m : List UInt8, bcells m = flat (fun c : UInt8 => [.int .u8 (c.toNat : Int)]) m := by
    intro m
    induction m with
    | nil => rfl
    | cons c m ih => simp only [bcells, flat, List.map_cons, List.flatMap_cons, List.singleton_append] at ih ⊢; rw [ih]
  rw [e] at h ⊢
  have := own_elem (enc := fun c : UInt8 => [.int .u8 (c.toNat : Int)]) (fun _ => rfl) (fun c v hv => by simp at hv; subst hv; rfl) h k hk x
  rw [Nat.mul_one] at this
  exact this

theorem Full.byte (h : Full w0 ao bs P r b5 s6 b15 s7 b17 S T ga ca gl cl Pk l w col) {k j : Nat} (hk : k < T.length) (hj : j < (l k).length) (x : UInt8) {l' : Nat → List UInt8} (h1 : l' k = (l k).set j x) (h2 : ∀ i, i ≠ k → l' i = l i) :
    Full w0 ao bs P r b5 s6 b15 s7 b17 S T ga ca gl cl Pk l' (w.setCell ⟨T[k].1, j, none⟩ (.int .u8 (x.toNat : Int))) col := by
  have n6 := h.nS
  have n7 := h.nT
  have hr := h.rows k hk
  have t : Tr (20 + k) w col (w.setCell ⟨T[k].1, j, none⟩ (.int .u8 (x.toNat : Int))) col := Tr.cell (hr.col _ rfl) j _
  refine ⟨h.held.tr t (by omega), h.nS, h.nT, h.all.tr t (by omega), h.lists.tr t (by omega), h.progs.tr t (by omega) (by omega), fun i hi => ?_⟩
  by_cases he : i = k
  · subst he
    have e1 : (l' i).length = (l i).length := by rw [h1]; simp
    refine ⟨?_, fun j hj => hr.col j (by rw [e1] at hj; exact hj)⟩
    rw [e1, h1]
    exact own_byte hr.own hj x
  · rw [h2 i he]
    exact (h.rows i hi).tr t (by omega)
theorem marked_lens (P : Prg) (m : Nat) : (marked P m).code.length = P.code.length ∧ (marked P m).on.length = P.on.length ∧ (marked P m).tags.length = P.tags.length ∧ (marked P m).vars.length = P.vars.length :=
  ⟨front_length _ _ _ (Nat.le_refl _), front_length _ _ _ (Nat.le_refl _), front_length _ _ _ (Nat.le_refl _), front_length _ _ _ (Nat.le_refl _)⟩

/-- The byte rows while the first k of them, and j bytes of the next, are written over. -/
def lk (bs : List UInt8) (k j : Nat) : Nat → List UInt8 := fun i => if i < k then List.replicate bs.length (UInt8.ofNat (200 + i)) else if i = k then List.replicate j (UInt8.ofNat (200 + k)) ++ bs.drop j else bs
theorem lk_start (bs : List UInt8) : lk bs 0 0 = fun _ => bs := by
  funext i
  unfold lk
  by_cases h : i = 0 <;> simp [h]
theorem lk_next (bs : List UInt8) (k : Nat) : lk bs k bs.length = lk bs (k + 1) 0 := by
  funext i
  unfold lk
  by_cases h : i < k
  · simp [h, Nat.lt_succ_of_lt h]
  · by_cases h2 : i = k
    · subst h2; simp
    · simp [h, h2, show ¬ i < k + 1 by omega]
theorem lk_len (bs : List UInt8) (k j i : Nat) (hj : j ≤ bs.length) : (lk bs k j i).length = bs.length := by
  unfold lk
  split
  · simp
  · split
    · simp; omega
    · rfl
theorem lk_set (bs : List UInt8) (k j : Nat) (hj : j < bs.length) : lk bs k (j + 1) k = (lk bs k j k).set j (UInt8.ofNat (200 + k)) := by
  simp only [lk, Nat.lt_irrefl, if_false, if_true]
  rw [List.set_append]
  simp only [List.length_replicate, Nat.sub_self, Nat.lt_irrefl, if_false]
  rw [List.drop_eq_getElem_cons hj, List.set_cons_zero, List.replicate_succ']
  simp
theorem lk_other (bs : List UInt8) (k j i : Nat) (h : i ≠ k) : lk bs k (j + 1) i = lk bs k j i := by
  simp [lk, h]

/-- A row's own value, and one of its bytes. -/
theorem Full.list_at (h : Full w0 ao bs P r b5 s6 b15 s7 b17 S T ga ca gl cl Pk l w col) {k : Nat} (hk : k < T.length) {t : Nat × Nat} (ht : T[k] = t) : w.cell? ⟨gl, k, none⟩ = some (.slice (some ⟨t.1, 0, none⟩) bs.length t.2) :=
  h.lists.cell (by rw [List.getElem?_map, List.getElem?_eq_getElem hk, ht]; rfl)
theorem Full.byte_at (h : Full w0 ao bs P r b5 s6 b15 s7 b17 S T ga ca gl cl Pk l w col) {k j : Nat} (hk : k < T.length) {t : Nat × Nat} (ht : T[k] = t) (hj : j < (l k).length) : (∃ u, w.cell? ⟨t.1, j, none⟩ = some u) ∧ w.frozen? ⟨t.1, j, none⟩ = false := by
  subst ht
  have hr := h.rows k hk
  exact ⟨⟨_, hr.cell (show (bcells (l k))[j]? = some _ from by rw [List.getElem?_eq_getElem (by rw [bcells_length]; exact hj)])⟩, hr.free j⟩
theorem u8_small (k : Nat) (h : k < 256) : ((UInt8.ofNat k).toNat : Int) = (k : Int) := by
  simp [UInt8.toNat_ofNat']
  omega
end
end Go.Proofs.YtfjiikadnlhekaaDoor
