/-
  What is proved here: the frame of List's walk: what its map of heads holds; a program's instructions as text. Conditions: none beyond each lemma's own.
-/
import Derived.Test.YtfjiikadnlhekaaDoorList1
import Derived.Test.YtfjiikadnlhekaaDoorMid
import Derived.Maps.GroupsBeside
import Derived.Deep.RegionHeld3
import Derived.Deep.AppendLies
import Derived.Deep.DeepCutAuto
namespace Go.Proofs.YtfjiikadnlhekaaDoor
open Go.RowKit Go.Maps Go.ChangeShapes

/-- Which of the first k events begin at a place. -/
def idx (l : List Int) (k : Nat) (a : Int) : List Int := ((List.range k).filter fun q => l.getD q 0 == a).map fun q : Nat => (q : Int)
theorem idx_zero (l : List Int) (a : Int) : idx l 0 a = [] := rfl
theorem idx_hit (l : List Int) (k : Nat) (a : Int) (h : l.getD k 0 = a) : idx l (k + 1) a = idx l k a ++ [(k : Int)] := by
  unfold idx
  have hf : List.filter (fun q => l.getD q 0 == a) [k] = [k] := by rw [List.filter_cons_of_pos (by rw [h]; simp)]; rfl
  rw [List.range_succ, List.filter_append, hf, List.map_append]
  rfl
theorem idx_miss (l : List Int) (k : Nat) (a : Int) (h : l.getD k 0 ≠ a) : idx l (k + 1) a = idx l k a := by
  unfold idx
  have hf : List.filter (fun q => l.getD q 0 == a) [k] = [] := by rw [List.filter_cons_of_neg (by rw [beq_iff_eq]; exact h)]; rfl
  rw [List.range_succ, List.filter_append, hf, List.append_nil]
/-- A list's datum. -/
def datumOf (zs : List Int) : DataW Unit := if zs = [] then .nil else .slice (lits .i64 zs) []
theorem lits_inj : ∀ (a b : List Int), (lits (H := Unit) .i64 a) = lits .i64 b → a = b := by
  intro a b h
  unfold lits at h
  exact (List.map_inj_right (fun x y hxy => by cases hxy; rfl)).1 h
theorem datum_eq {w : World} {base : Nat} {e : TypeId} {v : Value} {zs ys : List Int} (h : w.ownsInts base e .i64 v zs) (hd : datumOf ys = rowDatum .i64 v zs) : zs = ys := by
  unfold datumOf at hd
  by_cases hy : ys = []
  · rw [if_pos hy] at hd
    rcases h.datum (H := Unit) with ⟨_, h0⟩ | h1
    · rw [h0, hy]
    · rw [h1] at hd; cases hd
  · rw [if_neg hy] at hd
    rcases h.datum (H := Unit) with ⟨h1, h0⟩ | h1
    · rw [h1] at hd; cases hd
    · rw [h1] at hd
      injection hd with h2
      exact (lits_inj _ _ h2).symm
theorem datum_app {w : World} {base : Nat} {e : TypeId} {v : Value} {zs : List Int} {x : Int} (h : w.ownsInts base e .i64 v (zs ++ [x])) : rowDatum (H := Unit) .i64 v (zs ++ [x]) = datumOf (zs ++ [x]) := by
  unfold datumOf
  rw [h.datum_pos (by simp), if_neg (by simp)]
/-- A map holds these lists. -/
def HeadsAre (D : DataW Unit) (f : Int → List Int) : Prop := IsMap D ∧ ∀ a, D.atKey (.int .i64 a) .nil = datumOf (f a)
theorem heads_none : HeadsAre (.map []) fun _ => [] := ⟨⟨[], rfl⟩, fun _ => rfl⟩
theorem heads_put {D : DataW Unit} {f g : Int → List Int} {a : Int} {d : DataW Unit} (h : HeadsAre D f) (hd : d = datumOf (g a)) (ho : ∀ b, b ≠ a → g b = f b) : HeadsAre (D.put (.int .i64 a) d) g := by
  obtain ⟨⟨es, rfl⟩, h2⟩ := h
  refine ⟨⟨_, rfl⟩, fun b => ?_⟩
  by_cases hb : b = a
  · subst hb
    rw [atKey_put_same ⟨es, rfl⟩ (by trivial), hd]
  · rw [atKey_put_other (by intro e; cases e; exact hb rfl), h2, ho b hb]
theorem heads_miss {D : DataW Unit} {P : Prg} {w w2 : World} {base base2 : Nat} {v v' : Value} {zs : List Int} (hD : HeadsAre D (idx P.on P.on.length)) (hoi : w.ownsInts base 3 .i64 v zs) (hat : D.atKey (.int .i64 P.miss) .nil = rowDatum .i64 v zs)
    (hap : w2.ownsInts base2 3 .i64 v' (zs ++ [(P.on.length : Int)])) (headsAt : Int → List Int) (h1 : headsAt P.miss = idx P.on P.on.length P.miss ++ [(P.on.length : Int)]) (h2 : ∀ b, b ≠ P.miss → headsAt b = idx P.on P.on.length b) :
    HeadsAre (D.put (.int .i64 P.miss) (rowDatum .i64 v' (zs ++ [(P.on.length : Int)]))) headsAt := by
  refine heads_put hD ?_ h2
  rw [datum_app hap, h1, datum_eq hoi ((hD.2 P.miss).symm.trans hat)]
theorem law3 : Keyed Tryd.prog 3 := int_keyed Tryd.underlying3
theorem zero24 (w : World) : (zeroValue 24).run Tryd.prog w = .ok (.slice none 0 0) w := by kernel_rfl
theorem key3 {a : Int} (h : -9223372036854775808 ≤ a ∧ a ≤ 9223372036854775807) : keyOf Tryd.prog 3 (.int .i64 a) = some (.int .i64 a) := keyOf_int_mk Tryd.underlying3 (WalkArith.wf_i64 h)

/-- What begins at a place: the events, the miss as the number behind the queues'. -/
def headsAt (P : Prg) (a : Int) : List Int := idx P.on P.on.length a ++ if P.miss = a then [(P.on.length : Int)] else []
theorem headsAt_miss (P : Prg) : headsAt P P.miss = idx P.on P.on.length P.miss ++ [(P.on.length : Int)] := by unfold headsAt; rw [if_pos rfl]
theorem headsAt_other (P : Prg) (b : Int) (h : b ≠ P.miss) : headsAt P b = idx P.on P.on.length b := by unfold headsAt; rw [if_neg (fun e => h e.symm), List.append_nil]
def headLine (P : Prg) (q : Int) : List UInt8 := if q < P.on.length then [111, 110, 32, 113] ++ Lib.itoa q ++ [58, 10] else [109, 105, 115, 115, 58, 10]
def opsText (x : Ins5) : List UInt8 := ((kindsOf x.1).zip (opnds x)).flatMap fun p => [32] ++ opText p.1.toNat p.2
def nameOf (op : Int) : List UInt8 := (shapes.getD op.toNat ([], [])).1
def insText (k : Nat) (x : Ins5) : List UInt8 := (Lib.itoa (k : Int) ++ [58, 32] ++ nameOf x.1) ++ (opsText x ++ [10])
def codeText (P : Prg) : Nat → List Ins5 → List UInt8
  | _, [] => []
  | k, x :: l => (headsAt P (k : Int)).flatMap (headLine P) ++ (insText k x ++ codeText P (k + 1) l)
/-- A program as text. -/
def listText (P : Prg) : List UInt8 := codeText P 0 P.code
theorem codeText_at (P : Prg) (k : Nat) (hk : k < P.code.length) : codeText P k (P.code.drop k) = (headsAt P (k : Int)).flatMap (headLine P) ++ (insText k P.code[k] ++ codeText P (k + 1) (P.code.drop (k + 1))) := by
  rw [List.drop_eq_getElem_cons hk]; rfl

theorem heads_bound (P : Prg) (a : Int) : ∀ q ∈ headsAt P a, 0 ≤ q ∧ q ≤ (P.on.length : Int) := by
  intro q hq
  unfold headsAt at hq
  rcases List.mem_append.1 hq with h | h
  · unfold idx at h
    obtain ⟨n, hn, rfl⟩ := List.mem_map.1 h
    have := List.mem_range.1 (List.mem_filter.1 hn).1
    omega
  · split at h
    · rw [List.mem_singleton] at h; omega
    · cases h
theorem headLine_short (P : Prg) (q : Int) (h : 0 ≤ q ∧ q ≤ 9223372036854775807) : (headLine P q).length ≤ 27 := by
  unfold headLine
  split
  · have := itoa_short q (by omega)
    simp; omega
  · simp
theorem idx_short (l : List Int) (k : Nat) (a : Int) : (idx l k a).length ≤ k := by
  unfold idx
  rw [List.length_map]
  exact Nat.le_trans (List.length_filter_le _ _) (by rw [List.length_range]; exact Nat.le_refl _)
theorem heads_short (P : Prg) (a : Int) : (headsAt P a).length ≤ P.on.length + 1 := by
  unfold headsAt
  have := idx_short P.on P.on.length a
  rw [List.length_append]
  split <;> simp <;> omega
theorem bld_below {w w' : World} {B b : Nat} {bs : List Value} (h : Lib.IsBuilder 79 5 B b bs w) (hb : Below w.heap.size w w') : Lib.IsBuilder 79 5 B b bs w' := by
  have go : ∀ p, Lib.BuilderAt 79 5 B b p bs w → Lib.BuilderAt 79 5 B b p bs w' := fun p ⟨hB, v, hbk, hown, hne⟩ =>
    ⟨hB, v, (hb.block b (Array.getElem?_eq_some_iff.1 hbk).1).trans hbk, own_keep hown (fun j hj => hb.block j (hown.lt j hj).2), hne⟩
  exact h.imp (go _) (go _)
theorem others_below {w w' : World} {e : TypeId} {b : Option Nat} (hb : Below w.heap.size w w') : Lib.OthersKept e b w w' := fun k _ hk _ _ => (hb.block k (Array.getElem?_eq_some_iff.1 hk).1).trans hk
theorem byteCells_app (a b : List UInt8) : Lib.byteCells a ++ Lib.byteCells b = Lib.byteCells (a ++ b) := by simp [Lib.byteCells]
theorem byteCells_len (a : List UInt8) : (Lib.byteCells a).length = a.length := by simp [Lib.byteCells]
/-- A row's cell, later on. -/
theorem row_later {X w : World} {base n c B : Nat} {o : Option Addr} {xs : List Value} {fz : Nat × Nat} {cs : Array Value} (h : X.ownsRow base 3 1 (.slice o n c) n xs) (hk : Lib.OthersKept 5 (some B) X w) (hB : X.heap[B]? = some (.cells cs 79 fz)) (i : Nat) (v : Value) (hv : xs[i]? = some v) : ∃ a, o = some a ∧ w.cell? (a.add i) = some v := by
  obtain ⟨a, ha, hc⟩ := (own_at h).1 i v hv
  refine ⟨a, ha, ?_⟩
  rcases h.2 with ⟨h1, _⟩ | ⟨g, cap, cur, h1, _, hg, _⟩
  · cases h1; cases ha
  · simp only [Value.slice.injEq] at h1
    rw [ha] at h1
    obtain rfl := Option.some.inj h1.1
    have hkg := hk g _ hg (fun e => by have := Option.some.inj e; subst this; rw [hB] at hg; cases hg) (fun c fz e => by cases e)
    rw [← hc]
    refine World.cell?_of_block ?_
    rw [add_block]
    exact hkg.trans hg.symm
theorem bld_block {w : World} {B : Nat} {bs : List Value} (h : Lib.IsBuilder 79 5 B B bs w) : ∃ cs, w.heap[B]? = some (.cells cs 79 (0, 0)) := by
  rcases h with ⟨_, v, h, _⟩ | ⟨_, v, h, _⟩ <;> exact ⟨_, h⟩
theorem opText_short (c : Nat) (n : Int) (h : -9223372036854775808 ≤ n ∧ n ≤ 9223372036854775807) : (opText c n).length ≤ 22 := by
  have := itoa_short n h
  unfold opText
  repeat' split
  all_goals (simp; try omega)
theorem lines_more {L : List Int} {f : Int → List UInt8} {i : Nat} (hi : i < L.length) {l r E : List UInt8} (h : Hid (l ++ ((L.drop i).flatMap f ++ r) = E)) : Hid ((l ++ f L[i]) ++ ((L.drop (i + 1)).flatMap f ++ r) = E) := lay_more hi h

/-- A string goes in behind what the builder holds. -/
theorem put_any (B : Nat) (acc l : List UInt8) (w : World) (h : Lib.IsBuilder 79 5 B B (Lib.byteCells acc) w) (hl : acc.length + l.length ≤ 140737488355328) (hB : B ≤ w.heap.size) :
    Calls Tryd.prog 36 #[.pointer (some ⟨B, 0, none⟩), .string (str l)] w fun e w' => e = .returned (.tuple #[.int .i64 l.length, .nilIface]) ∧ Lib.IsBuilder 79 5 B B (Lib.byteCells (acc ++ l)) w' ∧ Below B w w' ∧ Lib.OthersKept 5 (some B) w w' := by
  refine (wstr_any B B (Lib.byteCells acc) (str l) w h (by rw [byteCells_len]; exact hl) hB).mono ?_
  rintro e w' ⟨rfl, h1, h2, h3⟩
  refine ⟨rfl, ?_, h2, h3⟩
  have e : Lib.byteCells acc ++ Lib.strCells (str l) = Lib.byteCells (acc ++ l) := byteCells_app acc l
  rw [e] at h1
  exact Or.inr h1

set_option maxHeartbeats 8000000 in
set_option maxRecDepth 100000 in
theorem list_ok (s : Spots) (P : Prg) (w : World) (hP : PAt w s P) (hok : checkErr P = 0) (hT : Tab w) : Calls Tryd.prog 14 #[pval s P] w fun e w' => e = .returned (.tuple #[.string (str (listText P)), .int .i64 0]) ∧ Below w.heap.size w w' := by
  obtain ⟨fA, hbA⟩ := one_block w s P 27
  unfold pcells at fA hbA
  have x0 := fA.f0
  have x1 := fA.f1
  have x2 := fA.f2
  have x3 := fA.f3
  have x4 := fA.f4
  have x5 := fA.f5
  generalize hA : w.alloc (.cells #[.slice s.a0 P.ghost.length s.c0, .slice s.a1 P.vars.length s.c1, .slice s.a2 P.tags.length s.c2, .slice s.a3 P.on.length s.c3, .int .i64 P.miss, .slice s.a4 P.code.length s.c4] 27) = wA at *
  have hck := check_any s P wA (hP.below hbA)
  rw [hok] at hck
  have HOK := Lib.hid (ok_of P hok)
  have hL := (ok_of P hok).lens
  unfold lensOk at hL
  obtain ⟨g0, g1, g2, g3, g4⟩ := hL
  have g3' : P.on.length ≤ 16 := by omega
  unfold pval at hck ⊢
  have FA := Lib.hid fA
  have HP := Lib.hid (hP.below hbA)
  have HBA := Lib.hid hbA
  have HA := Lib.hid hA
  have HT := Lib.hid (hT.below hbA)
  have hmm := @run_makeMap Tryd.prog
  clear hP fA hbA hok g3 hA hT
  go_enter Tryd.func14, Tryd.ntmps14
  go_wp2_with fail
  rw [HA.out]
  refine hck.mono ?_
  rintro e w1 ⟨rfl, hb1⟩
  have HB1 := Lib.hid hb1
  have hz1 : wA.heap.size ≤ w1.heap.size := hb1.size
  have hbm : Below w1.heap.size w1 (w1.alloc (.map #[] 0)) := (Below.refl _ w1).alloc (Nat.le_refl _) _
  have y3 := (FA.out.below (hb1.trans (hbm.mono hz1))).f3
  have HM0 := Lib.hid (World.ownsGroups_made (H := Unit) w1 Tryd.prog 3 3 .i64)
  have HBM := Lib.hid hbm
  clear x0 x1 x2 x3 x4 x5 hck hb1 hbm
  go_wp2
  clear y3
  obtain ⟨i3, hi3, hz30, hz31, hz32⟩ := info_parts info3
  have HI3 := Lib.hid (And.intro hi3 (And.intro hz30 (And.intro hz31 hz32)))
  clear hi3 hz30 hz31 hz32
  go_loopw [26] (fun ii wr => ∃ (k : Nat) (D : DataW Unit), k ≤ P.on.length ∧ ii = .int .i64 (k : Int) ∧ Hid (wr.ownsGroups Tryd.prog 3 (w1.heap.size + 1) 3 .i64 w1.heap.size k D) ∧ Hid (HeadsAre D (idx P.on k)) ∧ Hid (Below w1.heap.size w1 wr) ∧ w1.heap.size + 1 ≤ wr.heap.size) (fun ii _ => P.on.length + 1 - (intOf ii).toNat)
  case atStart => exact ⟨0, .map [], Nat.zero_le _, rfl, HM0, Lib.hid heads_none, HBM, by simp⟩
  case round =>
    clear HM0 HBM
    obtain ⟨k, D, hk, rfl, hown, hD, hB, hws⟩ := hrel
    by_cases hlt : k < P.on.length
    · obtain ⟨a, ha, hca⟩ := (HP.out.below (HB1.out.trans (hB.out.mono hz1))).on.at k (by rw [nums_length]; exact hlt)
      simp only [nums, List.getElem_map] at hca
      have hot := HOK.out.on _ (List.getElem_mem hlt)
      have hgd : Hid (P.on.getD k 0 = P.on[k]) := Lib.hid (by simp [List.getD, List.getElem?_eq_getElem hlt])
      generalize P.on[k] = p at *
      rw [ha] at *
      have hkey := key3 (a := p) (by omega)
      obtain ⟨hi3, hz30, hz31, hz32⟩ := HI3.out
      have ho := hown.out
      have hkI : (k : Int) ≤ 16 := by omega
      clear ha
      go_wp2_with (first
        | (at_lookup; go_loud (refine wpList_lookup_groups _ rfl _ _ 76 rfl 3 24 3 .i64 law3 Tryd.underlying76 (zero24 _) (w1.heap.size + 1) w1.heap.size k D rfl ho (by unfold maxLen; omega) _ _ rfl hkey ?_); intro v zs hat hoi hzl hback)
        | (at_builtin; go_loud (refine wpList_append_own_at _ rfl _ _ 24 rfl (w1.heap.size + 1) 3 i3 (.int .i64 0) 1 8 Tryd.underlying24 hi3 hz30 hz31 hz32 rfl (by decide) _ _ _ rfl (hoi.1.alloc _) ⟨wr.heap.size, 0, none⟩ 1 1 [.int .i64 (k : Int)] rfl rfl (cell_one_new _ _ _) (nums_one [(k : Int)]) (by unfold maxLen; omega) (by omega) (by simp; omega) ?_); intro v' w2 hown' hgrow hnil hloc)
        | (at_mapUpdate; go_loud (refine wpList_mapUpdate_back _ rfl _ _ _ 76 rfl hback rfl rfl rfl ((World.grownBy_alloc _ _ _).trans hgrow) (hoi.appended hown' (WalkArith.wf_i64 (by omega))) (by simp; omega) (hloc.imp id (fun h => ⟨_, h, by simp⟩)) ?_); intro w3 hown3 hgrow3))
      have hall := (World.grownBy_alloc wr (.cells #[.int .i64 (k : Int)] 3) v.ownBlock).trans hgrow
      have hzs := datum_eq hoi ((hD.out.2 p).symm.trans hat)
      have hap := hoi.appended hown' (WalkArith.wf_i64 (show -9223372036854775808 ≤ (k : Int) ∧ (k : Int) ≤ 9223372036854775807 by omega))
      have HO3 := Lib.hid hown3
      have HD3 : Hid (HeadsAre (D.put (.int .i64 p) (rowDatum .i64 v' (zs ++ [(k : Int)]))) (idx P.on (k + 1))) := Lib.hid (by
        refine heads_put hD.out ?_ (fun b hb => idx_miss _ _ _ (fun e => hb (by rw [← e]; exact hgd.out)))
        rw [datum_app hap, idx_hit _ _ _ hgd.out, hzs])
      have HB3 := Lib.hid (hB.out.groups hoi hall hgrow3 (by omega) (Nat.le_succ _) (Nat.le_refl _))
      have hz3 : w1.heap.size + 1 ≤ w3.heap.size := Nat.le_trans hws (Nat.le_trans hall.size hgrow3.size)
      clear hown' hgrow hnil hloc hown3 hgrow3 hall hzs hap hat hoi hback ho hi3 hz30 hz31 hz32
      go_wp2
      go_roundw
      case rel => exact ⟨k + 1, _, by omega, by go_num, HO3, HD3, HB3, hz3⟩
      case measure => simp [intOf]; omega
    · obtain rfl : k = P.on.length := by omega
      have hmi := HOK.out.miss
      have hkey := key3 (a := P.miss) (by omega)
      have hbx : Below wA.heap.size wA wr := HB1.out.trans (hB.out.mono hz1)
      have hgs : ∀ w' : World, Below wA.heap.size wA w' → (fun w' : World => w'.cell? ⟨w.heap.size, 4, none⟩ = some (.int .i64 P.miss) ∧ w'.cell? ⟨w.heap.size, 3, none⟩ = some (.slice s.a3 P.on.length s.c3)) w' := fun w' hb => by
        have f := FA.out.below hb
        exact ⟨f.f4, f.f3⟩
      have hod : wr.drew.ownsGroups Tryd.prog 3 (w1.heap.size + 1) 3 .i64 w1.heap.size P.on.length D := hown.out.kept (row := none) ⟨rfl, rfl, rfl, Nat.le_refl _, fun _ _ _ => rfl⟩ (by simp) (fun _ _ _ x _ => by cases x.val.ownBlock <;> simp)
      obtain ⟨v, zs, hrunL, hat, hoi, hzl, hback⟩ := hod.at law3 Tryd.underlying76 (zero24 _) (by unfold maxLen; omega) hkey
      have hod2 : (wr.alloc (.cells #[.int .i64 (P.on.length : Int)] 3)).drew.ownsGroups Tryd.prog 3 (w1.heap.size + 1) 3 .i64 w1.heap.size P.on.length D := hown.out.kept (row := none) ⟨rfl, rfl, rfl, (World.grownBy_alloc wr _ none).size, (World.grownBy_alloc wr _ none).block⟩ (by simp) (fun _ _ _ x _ => by cases x.val.ownBlock <;> simp)
      obtain ⟨v2, zs2, hrunL2, hat2, hoi2, hzl2, hback2⟩ := hod2.at law3 Tryd.underlying76 (zero24 _) (by unfold maxLen; omega) hkey
      have HBK2 := Lib.hid hback2
      have HOI2 := Lib.hid hoi2
      have HAT2 := Lib.hid hat2
      have hmv2 : zs2.length + 1 ≤ maxLen := by unfold maxLen; omega
      have hmb2 : (zs2.length + 1) * 8 ≤ 140737488355328 := by omega
      obtain ⟨hi3, hz30, hz31, hz32⟩ := HI3.out
      have hwsz : w1.heap.size + 1 ≤ wr.heap.size := hws
      have HX := Lib.hid hbx
      have HBK := Lib.hid hback
      have HOI := Lib.hid hoi
      have HAT := Lib.hid hat
      have hmv : zs.length + 1 ≤ maxLen := by unfold maxLen; omega
      have hmb : (zs.length + 1) * 8 ≤ 140737488355328 := by omega
      have ho1 : ∀ y ∈ nums [(P.on.length : Int)], y.oneCell' = true := nums_one [(P.on.length : Int)]
      have HWF : Hid ((Lit.int IntKind.i64 (P.on.length : Int)).wf = true) := Lib.hid (WalkArith.wf_i64 (by omega))
      have HXA := Lib.hid ((hbx.alloc (Nat.le_trans hz1 (Nat.le_trans (Nat.le_succ _) hws)) (.cells #[.int .i64 (P.on.length : Int)] 3)).drew)
      clear hback hoi hat hod hbx hkey hback2 hoi2 hat2 hod2
      go_upto_region 10 with fail
      go_cut [46] (fun s46 wx => ∃ D2 : DataW Unit, Hid (wx.ownsGroups Tryd.prog 3 (w1.heap.size + 1) 3 .i64 w1.heap.size (P.on.length + 1) D2) ∧ Hid (HeadsAre D2 (headsAt P)) ∧ Hid (Below w1.heap.size w1 wx) ∧ w1.heap.size + 1 ≤ wx.heap.size)
      case first =>
       go_region_held3 (fun w' : World => w'.cell? ⟨w.heap.size, 4, none⟩ = some (.int .i64 P.miss) ∧ w'.cell? ⟨w.heap.size, 3, none⟩ = some (.slice s.a3 P.on.length s.c3)) (with_reducible first | exact hgs _ HX3.out | exact hgs _ HX2.out | exact hgs _ HXA.out | exact hgs _ HX.out.drew | exact hgs _ HX.out)
        (first | (refine step_append_lies _ (by rfl) _ _ _ (by rfl) (w1.heap.size + 1) 3 i3 _ 1 8 Tryd.underlying24 hi3 hz30 hz31 hz32 rfl (by omega) v zs.length (nums zs) (by rfl) ((HOI.out.1.alloc _)) ⟨wr.heap.size, 0, none⟩ 1 1 (nums [(P.on.length : Int)]) (by rfl) (by rfl) (cell_one_new _ _ _) ho1 (by omega) hmv hmb (by simp; omega) (wr.heap.size + 1) (by simp) ?_; intro g cap w2 hown2 hgr2 hloc2 _; have hgd2 := (World.grownBy_alloc wr.drew (.cells #[.int .i64 (P.on.length : Int)] 3) v.ownBlock).trans hgr2; have HAP := Lib.hid (HOI.out.appended hown2 HWF.out); have hl3 : (Value.slice (some ⟨g, 0, none⟩) (zs.length + 1) cap).ownBlock = v.ownBlock ∨ ∃ g', (Value.slice (some ⟨g, 0, none⟩) (zs.length + 1) cap).ownBlock = some g' ∧ wr.drew.heap.size ≤ g' := hloc2.elim (fun h => Or.inl (by rw [h]; rfl)) (fun h => Or.inr ⟨g, rfl, (by rw [h]; exact Nat.le_succ _)⟩); obtain ⟨w3, hrunU, hown3, hgr3⟩ := HBK.out w2 _ (zs ++ [(P.on.length : Int)]) hgd2 HAP.out (by simp; omega) hl3; have HW2 : Hid (Below w1.heap.size w1 w2) := Lib.hid (hB.out.drew.grown hgd2 (by show w1.heap.size ≤ wr.heap.size; omega) (fun j hj => by have := (HOI.out.1.lt j hj).1; omega)); have hsz2 : w1.heap.size + 1 ≤ w2.heap.size := Nat.le_trans (by show w1.heap.size + 1 ≤ wr.heap.size; omega) hgd2.size; have HW3 : Hid (Below w1.heap.size w1 w3) := Lib.hid (HW2.out.grown hgr3 (by omega) (fun j hj => by have := Option.some.inj hj; omega)); have hsz3 : w1.heap.size + 1 ≤ w3.heap.size := Nat.le_trans hsz2 hgr3.size; have HX2 := Lib.hid (HB1.out.trans (HW2.out.mono hz1)); have HX3 := Lib.hid (HB1.out.trans (HW3.out.mono hz1)); have HO3 := Lib.hid hown3; have HD3 := Lib.hid (heads_miss hD.out HOI.out HAT.out HAP.out (headsAt P) (headsAt_miss P) (headsAt_other P)); clear hgr2 hown2 hgd2 hl3 hloc2 hown3 hgr3) | (refine step_append_lies _ (by rfl) _ _ _ (by rfl) (w1.heap.size + 1) 3 i3 _ 1 8 Tryd.underlying24 hi3 hz30 hz31 hz32 rfl (by omega) v2 zs2.length (nums zs2) (by rfl) (HOI2.out.1) ⟨wr.heap.size, 0, none⟩ 1 1 (nums [(P.on.length : Int)]) (by rfl) (by rfl) (cell_one_new _ _ _) ho1 (by omega) hmv2 hmb2 (by simp; omega) (wr.heap.size + 1) (by simp) ?_; intro g cap w2 hown2 hgr2 hloc2 _; have hgd2 := hgr2; have HAP := Lib.hid (HOI2.out.appended hown2 HWF.out); have hl3 : (Value.slice (some ⟨g, 0, none⟩) (zs2.length + 1) cap).ownBlock = v2.ownBlock ∨ ∃ g', (Value.slice (some ⟨g, 0, none⟩) (zs2.length + 1) cap).ownBlock = some g' ∧ (wr.alloc (.cells #[.int .i64 (P.on.length : Int)] 3)).drew.heap.size ≤ g' := hloc2.elim (fun h => Or.inl (by rw [h]; rfl)) (fun h => Or.inr ⟨g, rfl, (by rw [h]; show (wr.alloc _).heap.size ≤ _; simp)⟩); obtain ⟨w3, hrunU, hown3, hgr3⟩ := HBK2.out w2 _ (zs2 ++ [(P.on.length : Int)]) hgd2 HAP.out (by simp; omega) hl3; have HW2 : Hid (Below w1.heap.size w1 w2) := Lib.hid ((hB.out.alloc (by omega) (.cells #[.int .i64 (P.on.length : Int)] 3)).drew.grown hgd2 (by show w1.heap.size ≤ (wr.alloc _).heap.size; simp; omega) (fun j hj => by have := (HOI2.out.1.lt j hj).1; omega)); have hsz2 : w1.heap.size + 1 ≤ w2.heap.size := Nat.le_trans (by show w1.heap.size + 1 ≤ (wr.alloc _).heap.size; simp; omega) hgd2.size; have HW3 : Hid (Below w1.heap.size w1 w3) := Lib.hid (HW2.out.grown hgr3 (by omega) (fun j hj => by have := Option.some.inj hj; omega)); have hsz3 : w1.heap.size + 1 ≤ w3.heap.size := Nat.le_trans hsz2 hgr3.size; have HX2 := Lib.hid (HB1.out.trans (HW2.out.mono hz1)); have HX3 := Lib.hid (HB1.out.trans (HW3.out.mono hz1)); have HO3 := Lib.hid hown3; have HD3 := Lib.hid (heads_miss hD.out HOI2.out HAT2.out HAP.out (headsAt P) (headsAt_miss P) (headsAt_other P)); clear hgr2 hown2 hgd2 hl3 hloc2 hown3 hgr3))
       all_goals (go_wp2_with fail; go_meet; exact ⟨_, HO3, HD3, HW3, hsz3⟩)
      case rest =>
        clear hrunL hrunL2 hgs HX HXA HBK HOI HAT HBK2 HOI2 HAT2 hmv hmb hmv2 hmb2 ho1 HWF hown hD hB hws hwsz hzl hzl2 hi3 hz30 hz31 hz32
        clear D zs zs2 v v2
        obtain ⟨D, hown, hD, hB, hws⟩ := hcut
        have hbc : Below wc.heap.size wc (wc.alloc (.cells #[.pointer none, .slice none 0 0] 79)) := (Below.refl _ wc).alloc (Nat.le_refl _) _
        have hz1c : w1.heap.size ≤ wc.heap.size := by omega
        have hBc := hB.out.trans (hbc.mono hz1c)
        have y5 := (FA.out.below (HB1.out.trans (hBc.mono hz1))).f5
        have HU0 := Lib.hid (Lib.fresh_isBuilder 79 5 wc)
        have HBC := Lib.hid hbc
        have HAC := Lib.hid (HB1.out.trans (hB.out.mono hz1))
        clear hbc hBc
        go_wp2
        clear y5
        go_loopw [55] (fun ii wr => ∃ (k : Nat) (acc : List UInt8), k ≤ P.code.length ∧ ii = .int .i64 (k : Int) ∧ acc.length ≤ 700 * k ∧ Hid (acc ++ codeText P k (P.code.drop k) = listText P) ∧ Hid (Lib.IsBuilder 79 5 wc.heap.size wc.heap.size (Lib.byteCells acc) wr) ∧ Hid (Below wc.heap.size wc wr)) (fun ii _ => P.code.length + 1 - (intOf ii).toNat)
        case atStart => exact ⟨0, [], Nat.zero_le _, rfl, by simp, Lib.hid rfl, HU0, HBC⟩
        case round =>
          clear HU0 HBC
          obtain ⟨k, acc, hk, rfl, hal, hlay, hU, hBW⟩ := hrel
          have hAW := HAC.out.trans (hBW.out.mono (by omega))
          have hzr : wc.heap.size < wr.heap.size := by
            rcases hU.out with h | h
            · exact h.lt
            · exact h.lt
          by_cases hlt : k < P.code.length
          · obtain ⟨a, ha, hca⟩ := (HP.out.below hAW).code.row 5 (fun _ => rfl) (by decide) k hlt
            have hmore := hlay.out
            rw [codeText_at P k hlt] at hmore
            have hoi := HOK.out.code _ (List.getElem_mem hlt)
            generalize P.code[k] = v at *
            obtain ⟨p0, p1, p2, p3, p4⟩ := v
            have a0 : wr.cell? (a.add (k * 5)) = some (.int .i64 p0) := by have h := hca 0 _ rfl; rwa [add_zero'] at h
            have a1 : wr.cell? ⟨(a.add (k * 5)).block, (a.add (k * 5)).off + 1, none⟩ = some (.int .i64 p1) := by have h := hca 1 _ rfl; rwa [add_pos' _ _ (by decide)] at h
            have a2 : wr.cell? ⟨(a.add (k * 5)).block, (a.add (k * 5)).off + 2, none⟩ = some (.int .i64 p2) := by have h := hca 2 _ rfl; rwa [add_pos' _ _ (by decide)] at h
            have a3 : wr.cell? ⟨(a.add (k * 5)).block, (a.add (k * 5)).off + 3, none⟩ = some (.int .i64 p3) := by have h := hca 3 _ rfl; rwa [add_pos' _ _ (by decide)] at h
            have a4 : wr.cell? ⟨(a.add (k * 5)).block, (a.add (k * 5)).off + 4, none⟩ = some (.int .i64 p4) := by have h := hca 4 _ rfl; rwa [add_pos' _ _ (by decide)] at h
            rw [ha] at *
            have hbx : Below wr.heap.size wr (wr.alloc (.cells #[.int .i64 p0, .int .i64 p1, .int .i64 p2, .int .i64 p3, .int .i64 p4] 57)) := (Below.refl _ wr).alloc (Nat.le_refl _) _
            have hxb := (MapKept.heap_alloc wr (.cells #[.int .i64 p0, .int .i64 p1, .int .i64 p2, .int .i64 p3, .int .i64 p4] 57)).1
            have hbcx := hBW.out.trans (hbx.mono (by omega))
            have hox : (wr.alloc (.cells #[.int .i64 p0, .int .i64 p1, .int .i64 p2, .int .i64 p3, .int .i64 p4] 57)).ownsGroups Tryd.prog 3 (w1.heap.size + 1) 3 .i64 w1.heap.size (P.on.length + 1) D := hown.out.kept (row := none) ⟨hbcx.os, hbcx.tape, hbcx.output, hbcx.size, fun j hj _ => hbcx.block j hj⟩ (by simp) (fun _ _ _ x _ => by cases x.val.ownBlock <;> simp)
            have hkey := key3 (a := (k : Int)) (by omega)
            obtain ⟨v, zs, hrunL, hat, hoz, hzl, _⟩ := hox.at law3 Tryd.underlying76 (zero24 _) (by unfold maxLen; omega) hkey
            obtain ⟨oz, cz, rfl⟩ := own_form hoz.1
            have hzs := datum_eq hoz ((hD.out.2 (k : Int)).symm.trans hat)
            have HOZ := Lib.hid hoz
            have HX0 := Lib.hid hxb
            have HUX := Lib.hid (bld_below hU.out hbx)
            have HBX := Lib.hid hbcx
            have HZS := Lib.hid hzs
            have hzs17 : zs.length ≤ 17 := by omega
            have HMO := Lib.hid hmore
            have HOI := Lib.hid hoi
            have HZX : Hid ((wr.alloc (.cells #[.int .i64 p0, .int .i64 p1, .int .i64 p2, .int .i64 p3, .int .i64 p4] 57)).heap.size = wr.heap.size + 1) := Lib.hid (by simp)
            clear hbx hxb hbcx hox hkey hat hoz hzs hmore hoi ha hca hlay hU hBW hAW
            go_wp2
            clear hrunL a0 a1 a2 a3 a4
            generalize wr.alloc (.cells #[.int .i64 p0, .int .i64 p1, .int .i64 p2, .int .i64 p3, .int .i64 p4] 57) = X at *
            have hzx := HZX.out
            clear HZX
            generalize hxbn : wr.heap.size = xb at *
            clear hxbn
            obtain ⟨cB, hcB⟩ := bld_block HUX.out
            have HCB := Lib.hid hcB
            have hbd : Hid (∀ q ∈ zs, 0 ≤ q ∧ q ≤ (P.on.length : Int)) := Lib.hid (by rw [HZS.out]; exact heads_bound P (k : Int))
            have HM1 : Hid (acc ++ ((zs.drop 0).flatMap (headLine P) ++ (insText k (p0, p1, p2, p3, p4) ++ codeText P (k + 1) (P.code.drop (k + 1)))) = listText P) := Lib.hid (by rw [List.drop_zero, HZS.out]; exact HMO.out)
            clear hcB HMO HZS
            go_loopw [64] (fun ii wq => ∃ (i : Nat) (acc : List UInt8), i ≤ zs.length ∧ ii = .int .i64 (i : Int) ∧ acc.length ≤ 700 * k + 27 * i ∧ Hid (acc ++ ((zs.drop i).flatMap (headLine P) ++ (insText k (p0, p1, p2, p3, p4) ++ codeText P (k + 1) (P.code.drop (k + 1)))) = listText P) ∧ Hid (Lib.IsBuilder 79 5 wc.heap.size wc.heap.size (Lib.byteCells acc) wq) ∧ Hid (Below wc.heap.size wc wq) ∧ Hid (Lib.OthersKept 5 (some wc.heap.size) X wq)) (fun ii _ => zs.length + 1 - (intOf ii).toNat)
            case atStart => exact ⟨0, acc, Nat.zero_le _, rfl, by omega, HM1, HUX, HBX, Lib.hid (Lib.OthersKept.refl _ _ _)⟩
            case round =>
              clear HM1 HUX HBX hal
              clear acc
              obtain ⟨i, acc, hi, rfl, hal, hM, hU, hBW, hK⟩ := hrel
              have hzr : wc.heap.size < wr.heap.size := by
                rcases hU.out with h | h
                · exact h.lt
                · exact h.lt
              have HAW := Lib.hid (HAC.out.trans (hBW.out.mono (by omega)))
              by_cases hil : i < zs.length
              · obtain ⟨az, haz, hcz⟩ := row_later HOZ.out.1 hK.out HCB.out i (.int .i64 zs[i]) (by rw [List.getElem?_map, List.getElem?_eq_getElem hil]; rfl)
                have hq := hbd.out _ (List.getElem_mem hil)
                have hmore := lines_more hil hM
                generalize zs[i] = q at *
                rw [haz] at *
                have y3 := (FA.out.below HAW.out).f3
                have hshort := headLine_short P q (by omega)
                have HMR := Lib.hid hmore.out
                clear hM haz hmore
                by_cases hql : q < (P.on.length : Int)
                · have hit := itoa_any q (by omega) wr (HT.out.below HAW.out)
                  have hE : Hid ((⟨#[111, 110, 32, 113]⟩ : ByteArray) ++ str (Lib.itoa q) ++ (⟨#[58, 10]⟩ : ByteArray) = str (headLine P q)) := Lib.hid (by
                    unfold headLine
                    rw [if_pos hql, ← str_app, ← str_app]; rfl)
                  have hsz : (str (Lib.itoa q)).size ≤ 21 := itoa_short q (by omega)
                  have hs1 : (⟨#[111, 110, 32, 113]⟩ : ByteArray).size = 4 := rfl
                  have hs2 : (⟨#[58, 10]⟩ : ByteArray).size = 2 := rfl
                  have hs3 : ((⟨#[111, 110, 32, 113]⟩ : ByteArray) ++ str (Lib.itoa q)).size ≤ 25 := by rw [ByteArray.size_append, hs1]; omega
                  go_wp2_with fail
                  refine hit.mono ?_
                  rintro e w5 ⟨rfl, hb5⟩
                  go_wp2_with fail
                  rw [hE.out]
                  refine (put_any wc.heap.size acc (headLine P q) w5 (bld_below hU.out hb5) (by omega) (by have := hb5.size; omega)).mono ?_
                  rintro e w6 ⟨rfl, hU6, hb6, hk6⟩
                  have HU6 := Lib.hid hU6
                  have HB6 := Lib.hid ((hBW.out.trans (hb5.mono (by omega))).trans hb6)
                  have HK6 := Lib.hid ((hK.out.trans (others_below hb5)).trans hk6)
                  clear hU6 hb5 hb6 hk6 hit hs1 hs2 hs3 y3
                  go_wp2
                  go_roundw
                  case rel => exact ⟨i + 1, acc ++ headLine P q, by omega, by go_num, by simp; omega, HMR, HU6, HB6, HK6⟩
                  case measure => simp [intOf]; omega
                · have hE : Hid ((⟨#[109, 105, 115, 115, 58, 10]⟩ : ByteArray) = str (headLine P q)) := Lib.hid (by
                    unfold headLine
                    rw [if_neg hql]; rfl)
                  go_wp2_with fail
                  rw [hE.out]
                  refine (put_any wc.heap.size acc (headLine P q) _ hU.out (by omega) (by omega)).mono ?_
                  rintro e w6 ⟨rfl, hU6, hb6, hk6⟩
                  have HU6 := Lib.hid hU6
                  have HB6 := Lib.hid (hBW.out.trans hb6)
                  have HK6 := Lib.hid (hK.out.trans hk6)
                  clear hU6 hb6 hk6 y3
                  go_wp2
                  go_roundw
                  case rel => exact ⟨i + 1, acc ++ headLine P q, by omega, by go_num, by simp; omega, HMR, HU6, HB6, HK6⟩
                  case measure => simp [intOf]; omega
              · obtain rfl : i = zs.length := by omega
                have hM2 := lay_done hM
                have hop := HOI.out.op
                obtain ⟨kop, rfl⟩ : ∃ kop : Nat, p0 = (kop : Int) := ⟨p0.toNat, by simp only at hop; omega⟩
                have hkop : kop < 42 := by simp only at hop; omega
                have hks : kindsOf (kop : Int) = (shapes.getD kop ([], [])).2 := by unfold kindsOf; simp
                have hk4 := kinds_short (kop : Int)
                have hhas := HOI.out.has
                simp only at hhas
                have hxr := hK.out xb _ HX0.out (by simp; omega) (fun c fz e => by cases e)
                have d0 := cell_at hxr 0
                have HXR := Lib.hid hxr
                have hsh := shape_in kop hkop wr
                rw [← hks] at hsh
                have hnm : (shapes.getD kop ([], [])).1 = nameOf (kop : Int) := by unfold nameOf; simp
                rw [hnm] at hsh
                have hns : Hid ((nameOf (kop : Int)).length ≤ 8) := Lib.hid (by
                  rw [← hnm]
                  have h : ∀ x ∈ shapes, x.1.length ≤ 8 := by decide
                  have hl : kop < shapes.length := by rw [shapes_len]; exact hkop
                  rw [List.getD_eq_getElem?_getD, List.getElem?_eq_getElem hl]
                  exact h _ (List.getElem_mem hl))
                have hins : Hid (insText k ((kop : Int), p1, p2, p3, p4) = (Lib.itoa (k : Int) ++ [58, 32] ++ nameOf (kop : Int)) ++ (((kindsOf (kop : Int)).zip (opnds ((kop : Int), p1, p2, p3, p4))).flatMap (fun p => [32] ++ opText p.1.toNat p.2) ++ [10])) := Lib.hid rfl
                generalize kindsOf (kop : Int) = ks at *
                generalize nameOf (kop : Int) = nm at *
                have HHAS := Lib.hid hhas
                clear hks hnm hhas hop hxr hM HOI HX0 hK
                go_wp2_with fail
                refine hsh.mono ?_
                rintro e w5 ⟨rfl, hb5⟩
                have hz5 := hb5.size
                have hxr5 := (hb5.block _ (Array.getElem?_eq_some_iff.1 HXR.out).1).trans HXR.out
                have hxr6 := (Below.heap_alloc w5 (.cells #[.string (str nm), .string (str ks)] 59) _ (Array.getElem?_eq_some_iff.1 hxr5).1).trans hxr5
                have hs6 : (w5.alloc (.cells #[.string (str nm), .string (str ks)] 59)).heap[w5.heap.size]? = some (.cells #[.string (str nm), .string (str ks)] 59 (0, 0)) := (MapKept.heap_alloc w5 _).1
                have hb6 : Below wr.heap.size wr (w5.alloc (.cells #[.string (str nm), .string (str ks)] 59)) := hb5.alloc hz5 _
                have HU6 := Lib.hid (bld_below hU.out hb6)
                have HB6 := Lib.hid (hBW.out.trans (hb6.mono (by omega)))
                have HT6 := Lib.hid (HT.out.below (HAW.out.trans (hb6.mono (by have := HAW.out.size; omega))))
                have HXR6 := Lib.hid hxr6
                have HS6 := Lib.hid hs6
                have hz6 : (w5.alloc (.cells #[.string (str nm), .string (str ks)] 59)).heap.size = w5.heap.size + 1 := by simp
                clear hxr5 hxr6 hs6 hb6 hb5 hsh HAW HXR hU hBW d0
                go_wp2_with fail
                generalize w5.alloc (.cells #[.string (str nm), .string (str ks)] 59) = W6 at *
                generalize hsbn : w5.heap.size = sb at *
                clear hsbn
                have hsv : ∀ w' : World, Lib.OthersKept 5 (some wc.heap.size) W6 w' → (fun w' : World => w'.cell? ⟨sb, 0, none⟩ = some (.string (str nm))) w' := fun w' hk => cell_at (hk sb _ HS6.out (by simp; omega) (fun c fz e => by cases e)) 0
                have hit := fun (wz : World) (h : Tab wz) => itoa_any (k : Int) (by omega) wz h
                have HIT := Lib.hid hit
                have HTD : Hid (Tab W6.drew) := HT6
                have HUD : Hid (Lib.IsBuilder 79 5 wc.heap.size wc.heap.size (Lib.byteCells acc) W6.drew) := HU6
                have hsz : (str (Lib.itoa (k : Int))).size ≤ 21 := itoa_short (k : Int) (by omega)
                have hs1 : (⟨#[58, 32]⟩ : ByteArray).size = 2 := rfl
                have hs2 : (str nm).size ≤ 8 := hns.out
                have hs3 : (str (Lib.itoa (k : Int)) ++ (⟨#[58, 32]⟩ : ByteArray)).size ≤ 23 := by rw [ByteArray.size_append, hs1]; omega
                have hadd1 : ∀ w : World, (Op.stringOp .add (str (Lib.itoa (k : Int))) ⟨#[58, 32]⟩).run Tryd.prog w = .ok (.string (str (Lib.itoa (k : Int)) ++ ⟨#[58, 32]⟩)) w := fun w => run_string_add_sum w _ _ (by rw [hs1]; omega)
                have hadd2 : ∀ w : World, (Op.stringOp .add (str (Lib.itoa (k : Int)) ++ ⟨#[58, 32]⟩) (str nm)).run Tryd.prog w = .ok (.string (str (Lib.itoa (k : Int)) ++ ⟨#[58, 32]⟩ ++ str nm)) w := fun w => run_string_add_sum w _ _ (by omega)
                have hE : Hid (str (Lib.itoa (k : Int)) ++ (⟨#[58, 32]⟩ : ByteArray) ++ str nm = str (Lib.itoa (k : Int) ++ [58, 32] ++ nm)) := Lib.hid (by rw [← str_app, ← str_app]; rfl)
                have hln : (Lib.itoa (k : Int) ++ [58, 32] ++ nm).length ≤ 31 := by have := itoa_short (k : Int) (by omega); have := hns.out; simp; omega
                have HM3 : Hid ((acc ++ (Lib.itoa (k : Int) ++ [58, 32] ++ nm)) ++ ((ks.zip (opnds ((kop : Int), p1, p2, p3, p4))).flatMap (fun p => [32] ++ opText p.1.toNat p.2) ++ ([10] ++ codeText P (k + 1) (P.code.drop (k + 1)))) = listText P) := Lib.hid (by
                  have h := hM2.out
                  rw [hins.out] at h
                  simpa using h)
                have hzW : wc.heap.size < W6.heap.size := by omega
                generalize hl1 : Lib.itoa (k : Int) ++ [58, 32] ++ nm = l1 at *
                clear hit hM2 hins hl1
                go_region_held3 (fun w' : World => w'.cell? ⟨sb, 0, none⟩ = some (.string (str nm))) (with_reducible first | exact hsv _ HK8.out | exact hsv _ HK7.out | exact hsv _ (Lib.OthersKept.refl _ _ _).drew | exact hsv _ (Lib.OthersKept.refl _ _ _)) (first | (go_at_call 37; refine (HIT.out _ HTD.out).mono ?_; rintro e w7 ⟨rfl, hb7⟩; have HB7 := Lib.hid hb7; have HK7 : Hid (Lib.OthersKept 5 (some wc.heap.size) W6 w7) := Lib.hid ((Lib.OthersKept.refl 5 (some wc.heap.size) W6).drew.trans (others_below hb7)); have HU7 := Lib.hid (bld_below HUD.out hb7); have hz7 : wc.heap.size < w7.heap.size := Nat.lt_of_lt_of_le hzW hb7.size; clear hb7) | (go_at_call 36; rw [hE.out]; refine (put_any wc.heap.size acc l1 w7 HU7.out (by omega) (by omega)).mono ?_; rintro e w8 ⟨rfl, hU8, hb8, hk8⟩; have HU8 := Lib.hid hU8; have HB8 := Lib.hid ((HB6.out.drew.trans (HB7.out.mono (by show wc.heap.size ≤ W6.heap.size; omega))).trans hb8); have HK8 : Hid (Lib.OthersKept 5 (some wc.heap.size) W6 w8) := Lib.hid (HK7.out.trans hk8); clear hU8 hb8 hk8))
                have hz8 := HB8.out.size
                have hzz8 : wc.heap.size < w8.heap.size := by
                  rcases HU8.out with h | h
                  · exact h.lt
                  · exact h.lt
                have hx8 := HK8.out xb _ HXR6.out (by simp; omega) (fun c fz e => by cases e)
                have hs8 := HK8.out sb _ HS6.out (by simp; omega) (fun c fz e => by cases e)
                have d1 := cell_at hx8 1
                have d2 := cell_at hx8 2
                have d3 := cell_at hx8 3
                have d4 := cell_at hx8 4
                have hs9 := (Below.heap_alloc w8 (.cells #[.int .i64 p1, .int .i64 p2, .int .i64 p3, .int .i64 p4] 3) _ ((Array.getElem?_eq_some_iff.1 hs8).1)).trans hs8
                have hL9 := (MapKept.heap_alloc w8 (.cells #[.int .i64 p1, .int .i64 p2, .int .i64 p3, .int .i64 p4] 3)).1
                have c9 := cell_at hs9 1
                have hss : (str ks).size = ks.length := rfl
                have hss' : (str ks).size ≤ 4 := by rw [hss]; exact hk4
                have HS9 := Lib.hid hs9
                have HL9 := Lib.hid hL9
                have hb9 : Below w8.heap.size w8 (w8.alloc (.cells #[.int .i64 p1, .int .i64 p2, .int .i64 p3, .int .i64 p4] 3)) := (Below.refl _ w8).alloc (Nat.le_refl _) _
                have HU9 := Lib.hid (bld_below HU8.out hb9)
                have HB9 := Lib.hid (HB8.out.trans (hb9.mono hz8))
                clear hs8 hs9 hL9 hx8 hb9 hsv HIT HTD HUD hsz hs1 hs2 hs3 hE hadd1 hadd2 HB7 HU7 HK7
                go_wp2
                clear d1 d2 d3 d4 c9
                have hzip : (ks.zip (opnds ((kop : Int), p1, p2, p3, p4))).length = ks.length := by rw [List.length_zip]; exact Nat.min_eq_left (by exact hk4)
                have HZIP := Lib.hid hzip
                have hl31 : (acc ++ l1).length ≤ 700 * k + 490 := by simp; omega
                have HM4 : Hid ((acc ++ l1) ++ (((ks.zip (opnds ((kop : Int), p1, p2, p3, p4))).drop 0).flatMap (fun p => [32] ++ opText p.1.toNat p.2) ++ ([10] ++ codeText P (k + 1) (P.code.drop (k + 1)))) = listText P) := lay_start HM3
                generalize w8.alloc (.cells #[.int .i64 p1, .int .i64 p2, .int .i64 p3, .int .i64 p4] 3) = W9 at *
                generalize hibn : w8.heap.size = ib at *
                generalize hl0 : acc ++ l1 = acc0 at *
                have hib : wc.heap.size < ib := by omega
                have hTA := Lib.hid (HAC.out.trans (HB9.out.mono (by omega)))
                have HAC2 := HAC
                clear hzip hibn HM3 hl0 hln
                go_loopw [107] (fun ii wq => ∃ (i : Nat) (acc : List UInt8), i ≤ ks.length ∧ ii = .int .i64 (i : Int) ∧ acc.length ≤ 700 * k + 490 + 23 * i ∧ Hid (acc ++ (((ks.zip (opnds ((kop : Int), p1, p2, p3, p4))).drop i).flatMap (fun p => [32] ++ opText p.1.toNat p.2) ++ ([10] ++ codeText P (k + 1) (P.code.drop (k + 1)))) = listText P) ∧ Hid (Lib.IsBuilder 79 5 wc.heap.size wc.heap.size (Lib.byteCells acc) wq) ∧ Hid (Below wc.heap.size wc wq) ∧ Hid (Lib.OthersKept 5 (some wc.heap.size) W9 wq)) (fun ii _ => ks.length + 1 - (intOf ii).toNat)
                case atStart => exact ⟨0, acc0, Nat.zero_le _, rfl, by omega, HM4, HU9, HB9, Lib.hid (Lib.OthersKept.refl _ _ _)⟩
                case round =>
                  clear HM4 HU9 HB9 hl31 hTA hal
                  obtain ⟨i, acc, hi, rfl, hal, hM, hU, hBW, hK⟩ := hrel
                  have hzr : wc.heap.size < wr.heap.size := by
                    rcases hU.out with h | h
                    · exact h.lt
                    · exact h.lt
                  by_cases hik : i < ks.length
                  · have hzl : i < (ks.zip (opnds ((kop : Int), p1, p2, p3, p4))).length := by rw [HZIP.out]; exact hik
                    have hmore := lay_more hzl hM
                    rw [List.getElem_zip] at hmore
                    have hok2 := HHAS.out i hik
                    have hi4 : i < (opnds ((kop : Int), p1, p2, p3, p4)).length := by show i < 4; omega
                    have hgd : (opnds ((kop : Int), p1, p2, p3, p4)).getD i 0 = (opnds ((kop : Int), p1, p2, p3, p4))[i] := by simp [List.getD, List.getElem?_eq_getElem hi4]
                    rw [hgd] at hok2
                    have hLr := hK.out ib _ HL9.out (by simp; omega) (fun c fz e => by cases e)
                    have hSr := hK.out sb _ HS9.out (by simp; omega) (fun c fz e => by cases e)
                    have hcn : wr.cell? ⟨ib, i, none⟩ = some (.int .i64 (opnds ((kop : Int), p1, p2, p3, p4))[i]) := by
                      rw [cell_at hLr i]
                      rcases (show i = 0 ∨ i = 1 ∨ i = 2 ∨ i = 3 by omega) with rfl | rfl | rfl | rfl <;> rfl
                    have hcs : wr.cell? ⟨sb, 1, none⟩ = some (.string (str ks)) := cell_at hSr 1
                    have hget : (str ks)[i]'(by rw [hss]; exact hik) = ks[i] := rfl
                    generalize (opnds ((kop : Int), p1, p2, p3, p4))[i] = n at *
                    generalize ks[i] = c at *
                    have hnb : -9223372036854775808 ≤ n ∧ n ≤ 9223372036854775807 := by
                      unfold okOp nearI at hok2
                      simp only at hok2
                      split at hok2 <;> omega
                    have hop := operand_any c.toNat n hnb wr (HT.out.below (HAC2.out.trans (hBW.out.mono (by omega))))
                    have hos := opText_short c.toNat n hnb
                    have hsz : (str (opText c.toNat n)).size ≤ 22 := hos
                    have hs1 : (⟨#[32]⟩ : ByteArray).size = 1 := rfl
                    have hE : Hid ((⟨#[32]⟩ : ByteArray) ++ str (opText c.toNat n) = str ([32] ++ opText c.toNat n)) := Lib.hid (by rw [← str_app]; rfl)
                    have HMR := Lib.hid hmore.out
                    simp only at HMR
                    generalize opText c.toNat n = ot at *
                    have hl32 : ([32] ++ ot).length ≤ 23 := by simp; omega
                    clear hM hmore hok2 hgd hLr hSr hnb hzl hi4
                    go_wp2_with fail
                    refine hop.mono ?_
                    rintro e w5 ⟨rfl, hb5⟩
                    go_wp2_with fail
                    rw [hE.out]
                    refine (put_any wc.heap.size acc ([32] ++ ot) w5 (bld_below hU.out hb5) (by omega) (by have := hb5.size; omega)).mono ?_
                    rintro e w6 ⟨rfl, hU6, hb6, hk6⟩
                    have HU6 := Lib.hid hU6
                    have HB6 := Lib.hid ((hBW.out.trans (hb5.mono (by omega))).trans hb6)
                    have HK6 := Lib.hid ((hK.out.trans (others_below hb5)).trans hk6)
                    clear hU6 hb5 hb6 hk6 hop hs1 hsz hcs hcn
                    go_wp2
                    go_roundw
                    case rel => exact ⟨i + 1, acc ++ ([32] ++ ot), by omega, by go_num, by rw [List.length_append]; omega, HMR, HU6, HB6, HK6⟩
                    case measure => simp [intOf]; omega
                  · have hil : i = (ks.zip (opnds ((kop : Int), p1, p2, p3, p4))).length := by rw [HZIP.out]; omega
                    rw [hil] at hM
                    have hM2 := lay_done hM
                    have hM3 := lay_app hM2
                    have hi5 : i ≤ 4 := by omega
                    clear hM hil hM2
                    go_wp2_with fail
                    refine (wbyte_any wc.heap.size wc.heap.size (Lib.byteCells acc) 10 _ hU.out (by rw [byteCells_len]; omega) (by omega)).mono ?_
                    rintro e w6 ⟨rfl, hU6, hb6, _⟩
                    have HU6 : Hid (Lib.IsBuilder 79 5 wc.heap.size wc.heap.size (Lib.byteCells (acc ++ [10])) w6) := Lib.hid (Or.inr (by rw [← byteCells_app]; exact hU6))
                    have HB6 := Lib.hid (hBW.out.trans hb6)
                    clear hU6 hb6
                    go_wp2
                    go_roundw
                    case rel => exact ⟨k + 1, acc ++ [10], by omega, by go_num, by simp; omega, hM3, HU6, HB6⟩
                    case measure => simp [intOf]; omega
          · obtain rfl : k = P.code.length := by omega
            have hE : Hid (acc = listText P) := Lib.hid (by
              have h := hlay.out
              rw [List.drop_length] at h
              simpa [codeText] using h)
            have hst := Tryd.Builder_String_any wc.heap.size wc.heap.size acc wr hU.out (by omega)
            have HBL := Lib.hid (HBA.out.trans (hAW.mono HBA.out.size))
            clear hlay
            go_wp2_with fail
            refine hst.mono ?_
            rintro e w6 ⟨rfl, hb6⟩
            have HBF := Lib.hid (HBL.out.trans (hb6.mono (by have := HBA.out.size; omega)))
            clear hst hb6
            go_wp2
            go_ret2
            exact ⟨by rw [← hE.out]; rfl, HBF.out⟩

set_option maxHeartbeats 1000000 in
set_option maxRecDepth 100000 in
theorem list_no (s : Spots) (P : Prg) (w : World) (hP : PAt w s P) (hno : checkErr P ≠ 0) :
    Calls Tryd.prog 14 #[pval s P] w fun e w' => e = .returned (.tuple #[.string ⟨#[]⟩, .int .i64 (checkErr P)]) ∧ Below w.heap.size w w' := by
  obtain ⟨fA, hbA⟩ := one_block w s P 27
  unfold pcells at fA hbA
  have x0 := fA.f0
  have x1 := fA.f1
  have x2 := fA.f2
  have x3 := fA.f3
  have x4 := fA.f4
  have x5 := fA.f5
  generalize hA : w.alloc (.cells #[.slice s.a0 P.ghost.length s.c0, .slice s.a1 P.vars.length s.c1, .slice s.a2 P.tags.length s.c2, .slice s.a3 P.on.length s.c3, .int .i64 P.miss, .slice s.a4 P.code.length s.c4] 27) = wA at *
  have hck := check_any s P wA (hP.below hbA)
  generalize checkErr P = er at *
  have hne : (er == 0) = false := by rw [beq_eq_false_iff_ne]; exact hno
  unfold pval at hck ⊢
  have HA := Lib.hid hA
  clear hP fA hA
  go_enter Tryd.func14, Tryd.ntmps14
  go_wp2_with fail
  rw [HA.out]
  refine hck.mono ?_
  rintro e w1 ⟨rfl, hb1⟩
  go_wp2
  go_ret2
  exact ⟨rfl, hbA.trans (hb1.mono hbA.size)⟩
end Go.Proofs.YtfjiikadnlhekaaDoor
