/-
  What is proved here: span.New makes a text of its bytes: its lines, their beginnings and its length lie in memory ('TextAt'). Conditions: the bytes lie in memory; fewer than 2^31 of them; the library's variable internal/bytealg.MaxLen holds a number.
-/
import Derived.Test.YtdmdfcdfmedhcaaDoorPieces
import Derived.Test.YtdmdfcdfmedhcaaDoorMath2
import Derived.Test.YtdmdfcdfmedhcaaDoorShelf
namespace Go.Proofs.YtdmdfcdfmedhcaaDoor
open Go.RowKit

theorem info9 : (Tryd.prog.info? 9).map (fun i => (i.zero, i.size, i.bytes)) = some (some (.string ByteArray.empty), 1, 16) := by kernel_rfl

/-- A text's lines as strings. -/
def linesOf (bs : List UInt8) : List ByteArray := (lns bs).map str
theorem linesOf_length (bs : List UInt8) : (linesOf bs).length = (lns bs).length := by simp [linesOf]

/-- A text in memory: its struct in block p. -/
def TextAt (w : World) (p : Nat) (bs : List UInt8) : Prop :=
  ∃ g1 c1 g2 c2, w.heap[p]? = some (.cells #[.slice (some ⟨g1, 0, none⟩) (lns bs).length c1, .slice (some ⟨g2, 0, none⟩) (lns bs).length c2, .int .i64 (bs.length : Int)] 71 (0, 0)) ∧
    g1 < w.heap.size ∧ g2 < w.heap.size ∧ (lns bs).length ≤ c1 ∧ (lns bs).length ≤ c2 ∧ Strs w g1 (linesOf bs) ∧ Nums w g2 (begs 0 (lns bs))

/-- The same, all its memory from block B on. -/
def TextIn (w : World) (B p : Nat) (bs : List UInt8) : Prop :=
  ∃ g1 c1 g2 c2, w.heap[p]? = some (.cells #[.slice (some ⟨g1, 0, none⟩) (lns bs).length c1, .slice (some ⟨g2, 0, none⟩) (lns bs).length c2, .int .i64 (bs.length : Int)] 71 (0, 0)) ∧
    g1 < w.heap.size ∧ g2 < w.heap.size ∧ (lns bs).length ≤ c1 ∧ (lns bs).length ≤ c2 ∧ Strs w g1 (linesOf bs) ∧ Nums w g2 (begs 0 (lns bs)) ∧ B ≤ p ∧ B ≤ g1 ∧ B ≤ g2

theorem TextIn.grown {w w' : World} {B p g : Nat} {bs : List UInt8} (h : TextIn w B p bs) (hg : w.grownBy w' (some g)) (hgB : g < B) : TextAt w' p bs := by
  obtain ⟨g1, c1, g2, c2, h1, h2, h3, h4, h5, h6, h7, hp, hg1, hg2⟩ := h
  have hp1 : p < w.heap.size := (Array.getElem?_eq_some_iff.1 h1).1
  have hs := hg.size
  have ne : ∀ k, B ≤ k → some k ≠ some g := fun k hk e => by have := Option.some.inj e; omega
  refine ⟨g1, c1, g2, c2, (hg.block p hp1 (ne p hp)).trans h1, by omega, by omega, h4, h5, fun i s hx => ?_, fun i x hx => ?_⟩
  · exact (World.cell?_of_block (hg.block g1 h2 (ne g1 hg1))).trans (h6 i s hx)
  · exact (World.cell?_of_block (hg.block g2 h3 (ne g2 hg2))).trans (h7 i x hx)

theorem TextIn.at {w : World} {B p : Nat} {bs : List UInt8} (h : TextIn w B p bs) : TextAt w p bs := by
  obtain ⟨g1, c1, g2, c2, h1, h2, h3, h4, h5, h6, h7, _⟩ := h
  exact ⟨g1, c1, g2, c2, h1, h2, h3, h4, h5, h6, h7⟩

theorem TextAt.below {w w' : World} {p : Nat} {bs : List UInt8} (h : TextAt w p bs) (hb : Below w.heap.size w w') : TextAt w' p bs := by
  obtain ⟨g1, c1, g2, c2, h1, h2, h3, h4, h5, h6, h7⟩ := h
  have hp : p < w.heap.size := (Array.getElem?_eq_some_iff.1 h1).1
  have := hb.size
  exact ⟨g1, c1, g2, c2, (hb.block p hp).trans h1, by omega, by omega, h4, h5, h6.below hb h2, h7.below hb h3⟩

theorem split_lines (bs : List UInt8) : Lib.splitB (str [10]) 0 (Lib.countB (str bs) (str [10])) (str bs) = linesOf bs := by
  have hc : Lib.countB (str bs) (str [10]) = bs.count 10 := count_ten bs
  have hd := Lib.splitB_data (str [10]) 0 (Lib.countB (str bs) (str [10])) (str bs)
  rw [str_data, str_data, hc, splitK_lns _ bs rfl] at hd
  rw [hc]
  unfold linesOf
  rw [← hd, List.map_map]
  conv => lhs; rw [← List.map_id (Lib.splitB (str [10]) 0 (bs.count 10) (str bs))]
  refine List.map_congr_left fun x _ => ?_
  rfl

theorem own_apart {w : World} {base : Nat} {e1 e2 : TypeId} {v1 v2 : Value} {n1 n2 : Nat} {x1 x2 : List Value} (h1 : w.ownsRow base e1 1 v1 n1 x1) (h2 : w.ownsRow base e2 1 v2 n2 x2) (hne : e1 ≠ e2) :
    v2.ownBlock = none ∨ v2.ownBlock ≠ v1.ownBlock := by
  rcases h1.2 with ⟨rfl, _⟩ | ⟨g1, c1, cur1, rfl, _, hh1, _⟩
  · rcases h2.2 with ⟨rfl, _⟩ | ⟨g2, c2, cur2, rfl, _, hh2, _⟩
    · left; rfl
    · right; simp [Value.ownBlock]
  · rcases h2.2 with ⟨rfl, _⟩ | ⟨g2, c2, cur2, rfl, _, hh2, _⟩
    · left; rfl
    · right
      simp only [Value.ownBlock, ne_eq, Option.some.injEq]
      intro e
      subst e
      rw [hh1] at hh2
      simp only [Option.some.injEq, Obj.cells.injEq] at hh2
      exact hne hh2.2.1

theorem take_succ_strs (bs : List UInt8) (k : Nat) (h : k < (lns bs).length) : (linesOf bs).take (k + 1) = (linesOf bs).take k ++ [str ((lns bs)[k])] := by
  have hl : k < (linesOf bs).length := by rw [linesOf_length]; exact h
  rw [List.take_succ_eq_append_getElem hl]
  simp [linesOf]

set_option maxHeartbeats 2000000 in
set_option maxRecDepth 100000 in
theorem new_any (ao : Option Addr) (cap : Nat) (bs : List UInt8) (m : Int) (w : World) (hB : BAt w ao bs) (hn : bs.length ≤ 2147483647) (hm : w.cell? ⟨1, 0, none⟩ = some (.int .i64 m)) :
    Calls Tryd.prog 29 #[.slice ao bs.length cap] w fun e w' => ∃ p, e = .returned (.pointer (some ⟨p, 0, none⟩)) ∧ TextIn w' w.heap.size p bs ∧ Below w.heap.size w w' := by
  have hcv := fun o dst hd => (hB.below (((Below.refl _ w).alloc (Nat.le_refl _) o))).conv (P := Tryd.prog) bs.length cap rfl 22 dst 5 Tryd.underlying22 Tryd.underlying5 hd
  have hsp := fun o => Tryd.strings_Split (str bs) (str [10]) m (w.alloc o) (by rw [str_size]; omega) ((((Below.refl _ w).alloc (Nat.le_refl _) o).cell (World.block_lt_of_cell? w _ hm)).trans hm) (by rw [str_size]; simp)
  rw [split_lines, show Lib.countB (str bs) (str [10]) + 1 = (lns bs).length from by rw [lns_length]; exact congrArg (· + 1) (count_ten bs)] at hsp
  go_enter Tryd.func29, Tryd.ntmps29
  go_wp2_with (go_at_call 41; refine (hsp _).mono ?_; rintro e w' ⟨rfl, rfl⟩)
  have hNl : (lns bs).length ≤ bs.length + 1 := by rw [lns_length]; have : bs.count 10 ≤ bs.length := List.count_le_length; omega
  go_loopw [4, 15] (fun at0 j wr => ∃ (k : Nat) (v1 v2 : Value), k ≤ (lns bs).length ∧ j = .int .i64 k ∧ at0 = .int .i64 (off (lns bs) k : Nat) ∧ wr.heap[w.heap.size]? = some (.cells #[v1, v2, .int .i64 (bs.length : Int)] 71 (0, 0)) ∧
      wr.ownsRow (w.heap.size + 2) 9 1 v1 k (strs ((linesOf bs).take k)) ∧ wr.ownsRow (w.heap.size + 2) 3 1 v2 k (ints ((begs 0 (lns bs)).take k)) ∧ Strs wr (w.heap.size + 1) (linesOf bs) ∧ w.heap.size + 2 ≤ wr.heap.size ∧ Below w.heap.size w wr) (fun _ j _ => (lns bs).length - (intOf j).toNat)
  case atStart =>
    refine ⟨0, .slice none 0 0, .slice none 0 0, Nat.zero_le _, rfl, by rw [off_zero]; rfl, ?_, World.ownsRow_nil _ _ _ _, World.ownsRow_nil _ _ _ _, ?_, by simp, ((Below.refl _ w).alloc (Nat.le_refl _) _).alloc (by simp) _⟩
    · rw [Below.heap_alloc _ _ _ (by simp)]
      exact MapKept.heap_alloc w _ |>.1
    · intro i s hs
      have h1 : ((w.alloc (.cells #[.slice none 0 0, .slice none 0 0, .int .i64 (bs.length : Int)] 71)).alloc (.cells ((linesOf bs).map Value.string).toArray 9)).heap[w.heap.size + 1]? = some (.cells ((linesOf bs).map Value.string).toArray 9 (0, 0)) := by
        have := (MapKept.heap_alloc (w.alloc (.cells #[.slice none 0 0, .slice none 0 0, .int .i64 (bs.length : Int)] 71)) (.cells ((linesOf bs).map Value.string).toArray 9)).1
        simpa using this
      rw [block_cell h1]
      simp [hs]
  case round =>
    obtain ⟨k, v1, v2, hk, rfl, rfl, hT, hown1, hown2, hS, hsz, hbw⟩ := hrel
    have hof := off_le bs k hk
    by_cases hlt : k < (lns bs).length
    · have hol := off_line bs k hlt
      have hos := off_succ (lns bs) k hlt
      have hcell : wr.cell? ⟨w.heap.size + 1, k, none⟩ = some (.string (str ((lns bs)[k]))) := hS k _ (by simp [linesOf, hlt])
      have hss : (str ((lns bs)[k])).size = ((lns bs)[k]).length := str_size _
      have hts := take_succ_strs bs k hlt
      have htb := begs_take_succ bs k hlt
      have hap := own_apart hown1 hown2 (by decide)
      generalize str ((lns bs)[k]) = s at *
      generalize ((lns bs)[k]).length = sl at *
      have hs1 : s.size ≤ 2147483647 := by omega
      have HOS : Hid (off (lns bs) (k + 1) = off (lns bs) k + s.size + 1) := Lib.hid (by omega)
      have HTS := Lib.hid hts
      have HTB := Lib.hid htb
      have HT := Lib.hid hT
      have c0 : wr.cell? ⟨w.heap.size, 0, none⟩ = some v1 := block_cell hT 0
      have HS := Lib.hid hS
      clear hos hts htb hss hT hS
      go_wp2_with (at_builtin; refine wpList_append1 rfl (.tmp 23) (.tmp 25) 69 rfl (w.heap.size + 2) 9 (.string ByteArray.empty) 16 Tryd.underlying69 info9 rfl v1 k _ rfl hown1 wr.heap.size rfl (.string s) rfl rfl ?c1 ?c2 ?c3 ?_)
      case c1 => unfold maxLen; omega
      case c2 => omega
      case c3 => omega
      intro g cp w3 hown3 hgr hg
      rw [strs_snoc] at hown3
      have hT3 := (hgr.block w.heap.size (by omega) (fun h => by have := (hown1.lt _ h.symm).1; omega)).trans HT.out
      have d0 : w3.cell? ⟨w.heap.size, 0, none⟩ = some v1 := block_cell hT3 0
      have d1 : w3.cell? ⟨w.heap.size, 1, none⟩ = some v2 := block_cell hT3 1
      have f0 : w3.frozen? ⟨w.heap.size, 0, none⟩ = false := block_free hT3 0
      have hsz3 := hgr.size
      have hbw3 : Below w.heap.size w w3 := hbw.grown hgr (by omega) (fun k hk => by have := (hown1.lt k hk).1; omega)
      have hown23 := hown2.kept hgr hap
      have hT4 := setCell_block hT3 0 (.slice (some ⟨g, 0, none⟩) (k + 1) cp)
      have hown24 := ownsRow_setCell_below hown23 (a := ⟨w.heap.size, 0, none⟩) (by simp) (.slice (some ⟨g, 0, none⟩) (k + 1) cp)
      have hown14 := ownsRow_setCell_below hown3 (a := ⟨w.heap.size, 0, none⟩) (by simp) (.slice (some ⟨g, 0, none⟩) (k + 1) cp)
      have hbw4 : Below w.heap.size w (w3.setCell ⟨w.heap.size, 0, none⟩ (.slice (some ⟨g, 0, none⟩) (k + 1) cp)) := hbw3.setCell (Nat.le_refl _) _
      have HT4 := Lib.hid hT4
      have HT3 := Lib.hid hT3
      have HB3 := Lib.hid (hgr.block (w.heap.size + 1) (by omega) (fun h => by have := (hown1.lt _ h.symm).1; omega))
      clear hT3 hT4 hown23 hown3 hown1 hown2 hgr c0
      go_wp2_with (at_builtin; refine wpList_append1 rfl (.tmp 33) (.tmp 35) 23 rfl (w.heap.size + 2) 3 (.int .i64 0) 8 Tryd.underlying23 info3 rfl v2 k _ rfl hown24 w3.heap.size (by simp) (.int .i64 (off (lns bs) k : Nat)) rfl rfl ?e1 ?e2 ?e3 ?_)
      case e1 => unfold maxLen; omega
      case e2 => omega
      case e3 => simp; omega
      intro g' cp' w5 hown5 hgr5 hg5
      rw [ints_snoc] at hown5
      have hsz4 : (w3.setCell ⟨w.heap.size, 0, none⟩ (.slice (some ⟨g, 0, none⟩) (k + 1) cp)).heap.size = w3.heap.size := by simp
      have hT5 := (hgr5.block w.heap.size (by rw [hsz4]; omega) (fun h => by have := (hown24.lt _ h.symm).1; omega)).trans HT4.out
      have hap5 := own_apart hown24 hown14 (by decide)
      have hown15 := hown14.kept hgr5 hap5
      have e1 : w5.cell? ⟨w.heap.size, 1, none⟩ = some v2 := block_cell hT5 1
      have f1 : w5.frozen? ⟨w.heap.size, 1, none⟩ = false := block_free hT5 1
      have hsz5 := hgr5.size
      rw [hsz4] at hsz5
      have hbw5 : Below w.heap.size w w5 := hbw4.grown hgr5 (by rw [hsz4]; omega) (fun k hk => by have := (hown24.lt k hk).1; omega)
      have HT6 := Lib.hid (setCell_block hT5 1 (.slice (some ⟨g', 0, none⟩) (k + 1) cp'))
      have hown16 := ownsRow_setCell_below hown15 (a := ⟨w.heap.size, 1, none⟩) (by simp) (.slice (some ⟨g', 0, none⟩) (k + 1) cp')
      have hown26 := ownsRow_setCell_below hown5 (a := ⟨w.heap.size, 1, none⟩) (by simp) (.slice (some ⟨g', 0, none⟩) (k + 1) cp')
      have hbw6 : Below w.heap.size w (w5.setCell ⟨w.heap.size, 1, none⟩ (.slice (some ⟨g', 0, none⟩) (k + 1) cp')) := hbw5.setCell (Nat.le_refl _) _
      have HB5 := Lib.hid (hgr5.block (w.heap.size + 1) (by rw [hsz4]; omega) (fun h => by have := (hown24.lt _ h.symm).1; omega))
      have HS6 : Hid (Strs (w5.setCell ⟨w.heap.size, 1, none⟩ (.slice (some ⟨g', 0, none⟩) (k + 1) cp')) (w.heap.size + 1) (linesOf bs)) := Lib.hid (fun i s hs =>
        (World.cell?_of_block (((setCell_other 1 _ (by simp)).trans HB5.out).trans ((setCell_other 0 _ (by simp)).trans HB3.out))).trans (HS.out i s hs))
      clear hT5 hown15 hown5 hgr5 d0 d1 f0 hown14 hown24
      go_wp2
      go_roundw
      case rel =>
        refine ⟨k + 1, _, _, by omega, by go_num, by rw [HOS.out]; go_num, HT6.out, ?_, ?_, HS6.out, by simp; omega, hbw6⟩
        · rw [HTS.out]; exact hown16
        · rw [HTB.out]; exact hown26
      case measure => simp [intOf]; omega
    · have hkn : k = (lns bs).length := by omega
      have hk0 : 0 < (lns bs).length := by rw [lns_length]; omega
      have HK := Lib.hid hkn
      have HT := Lib.hid hT
      have HS := Lib.hid hS
      clear hkn hT hS
      go_wp2
      go_ret
      refine ⟨w.heap.size, rfl, ?_, hbw⟩
      have hkn := HK.out
      subst hkn
      obtain ⟨g1, c1, rfl, hg1, hl1, hc1, _⟩ := own_shape hown1 hk0
      obtain ⟨g2, c2, rfl, hg2, hl2, hc2, _⟩ := own_shape hown2 hk0
      refine ⟨g1, c1, g2, c2, HT.out, hl1, hl2, hc1, hc2, ?_, ?_, Nat.le_refl _, by omega, by omega⟩
      · have := own_strs hown1
        rwa [List.take_of_length_le (by rw [linesOf_length]; exact Nat.le_refl _)] at this
      · have := own_nums hown2
        rwa [List.take_of_length_le (by rw [begs_length]; exact Nat.le_refl _)] at this
end Go.Proofs.YtdmdfcdfmedhcaaDoor
