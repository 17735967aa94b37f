/-
  What is proved here: code.Encode lays a program's bytes ('encB'), or tells what is amiss. Conditions: the program lies in memory.
-/
import Derived.Test.YtfjiikadnlhekaaDoorNum2
namespace Go.Proofs.YtfjiikadnlhekaaDoor
open Go.RowKit

def eCode (P : Prg) : List UInt8 := P.code.flatMap encIns ++ []
def eOn (P : Prg) : List UInt8 := P.on.flatMap (fun a => num (a + 1).toNat) ++ (num (P.miss + 1).toNat ++ (num P.code.length ++ eCode P))
def eTags (P : Prg) : List UInt8 := P.tags.flatMap (fun t => num t.toNat) ++ eOn P
def eVars (P : Prg) : List UInt8 := P.vars.flatMap encVar ++ (num P.tags.length ++ eTags P)
def eGhost (P : Prg) : List UInt8 := P.ghost.flatMap (fun b => [flagB b]) ++ (num P.vars.length ++ eVars P)
theorem encB_eq (P : Prg) : [87] ++ (num P.ghost.length ++ eGhost P) = encB P := by
  unfold encB eGhost eVars eTags eOn eCode
  rw [flags_flat, List.append_nil]

theorem lay_app {l x r E : List UInt8} (h : Hid (l ++ (x ++ r) = E)) : Hid ((l ++ x) ++ r = E) := Lib.hid (by rw [List.append_assoc]; exact h.out)
theorem lay_start {α : Type} {enc : α → List UInt8} {L : List α} {l r E : List UInt8} (h : Hid (l ++ (L.flatMap enc ++ r) = E)) : Hid (l ++ ((L.drop 0).flatMap enc ++ r) = E) := by rw [List.drop_zero]; exact h
theorem lay_more {α : Type} {enc : α → List UInt8} {L : List α} {j : Nat} (hj : j < L.length) {l r E : List UInt8} (h : Hid (l ++ ((L.drop j).flatMap enc ++ r) = E)) : Hid ((l ++ enc L[j]) ++ ((L.drop (j + 1)).flatMap enc ++ r) = E) := by
  have h := h.out
  rw [List.drop_eq_getElem_cons hj, List.flatMap_cons, List.append_assoc] at h
  exact Lib.hid (by rw [List.append_assoc]; exact h)
theorem lay_done {α : Type} {enc : α → List UInt8} {L : List α} {l r E : List UInt8} (h : Hid (l ++ ((L.drop L.length).flatMap enc ++ r) = E)) : Hid (l ++ r = E) := by
  rw [List.drop_length, List.flatMap_nil, List.nil_append] at h; exact h
theorem numF_short : ∀ f u, (numF f u).length ≤ f + 1
  | 0, u => by simp [numF]
  | f + 1, u => by
    unfold numF
    split
    · simp
    · have := numF_short f (u / 128)
      simp; omega
theorem num_short (u : Nat) : (num u).length ≤ 11 := numF_short 10 u

/-- The writer at its beginning. -/
theorem writer_new (w : World) : WG ((w.alloc (.cells #[.int .u8 87] 5)).alloc (.cells #[.slice (some ⟨w.heap.size, 0, none⟩) 1 1] 67)) w.heap.size (w.heap.size + 1) w.heap.size [87] := by
  have hz : (w.alloc (.cells #[.int .u8 87] 5)).heap.size = w.heap.size + 1 := by simp
  have h2 := (MapKept.heap_alloc (w.alloc (.cells #[.int .u8 87] 5)) (.cells #[.slice (some ⟨w.heap.size, 0, none⟩) 1 1] 67)).1
  rw [hz] at h2
  have h1 := World.ownsRow_lit (base := w.heap.size) (size := 1) (e := 5) w #[.int .u8 87] 1 (Nat.le_refl _) (by decide) rfl
  exact ⟨by omega, Nat.le_refl _, by omega, 1, h2, h1.alloc _⟩

theorem WMoved.keep {w w' : World} {b g g' k : Nat} {o : Obj} (h : WMoved w w' b g g') (hk : w.heap[k]? = some o) (hb : k ≠ b) (hg : k ≠ g) : w'.heap[k]? = some o ∧ k ≠ g' := by
  have hlt := (Array.getElem?_eq_some_iff.1 hk).1
  have hr := h.row
  exact ⟨(h.block k hlt hb hg).trans hk, by omega⟩
theorem lay_ins {L : List Ins5} {k : Nat} (hk : k < L.length) {l r E : List UInt8} (h : Hid (l ++ ((L.drop k).flatMap encIns ++ r) = E)) :
    Hid (l ++ (num (L[k]).1.toNat ++ (((kindsOf (L[k]).1).zip (opnds L[k])).flatMap encOpnd ++ ((L.drop (k + 1)).flatMap encIns ++ r))) = E) := by
  have h := h.out
  rw [List.drop_eq_getElem_cons hk, List.flatMap_cons, List.append_assoc] at h
  have e : encIns L[k] = num (L[k]).1.toNat ++ ((kindsOf (L[k]).1).zip (opnds L[k])).flatMap encOpnd := rfl
  rw [e, List.append_assoc] at h
  exact Lib.hid h
theorem own_cells {w : World} {base : Nat} {e : TypeId} {g n cap : Nat} {xs : List Value} (h : w.ownsRow base e 1 (.slice (some ⟨g, 0, none⟩) n cap) n xs) : Lies w (some ⟨g, 0, none⟩) xs := by
  obtain ⟨o, c, h1, h2, _⟩ := own_lies h
  cases h1
  exact h2
theorem bcells_one (l : List UInt8) : ∀ u ∈ bcells l, u.oneCell' = true := by intro u hu; simp [bcells] at hu; obtain ⟨_, _, rfl⟩ := hu; rfl
theorem opnd_short (x : UInt8 × Int) : (encOpnd x).length ≤ 11 := by unfold encOpnd; split <;> exact num_short _

theorem field0 (f g : Nat) (w : World) : (Instr.field 74 (.agg #[.func (Fn.func f) #[] #[], .func (Fn.func g) #[] #[]]) 0).run Tryd.prog w = .ok (.func (Fn.func f) #[] #[]) w := by kernel_rfl
theorem field1 (f g : Nat) (w : World) : (Instr.field 74 (.agg #[.func (Fn.func f) #[] #[], .func (Fn.func g) #[] #[]]) 1).run Tryd.prog w = .ok (.func (Fn.func g) #[] #[]) w := by kernel_rfl

/-- What Encode tells. -/
def EncPost (P : Prg) (w : World) (e : Ending) (w' : World) : Prop :=
  ∃ g cap, e = .returned (.tuple #[.slice (some ⟨g, 0, none⟩) (encB P).length cap, .int .i64 0]) ∧ w'.ownsRow w.heap.size 5 1 (.slice (some ⟨g, 0, none⟩) (encB P).length cap) (encB P).length (bcells (encB P)) ∧ Below w.heap.size w w'

set_option maxHeartbeats 8000000 in
set_option maxRecDepth 100000 in
theorem encode_ok (s : Spots) (P : Prg) (w : World) (hP : PAt w s P) (hok : checkErr P = 0) : Calls Tryd.prog 13 #[pval s P] w (EncPost P w) := by
  obtain ⟨fA, hbA⟩ := one_block w s P 27
  unfold pcells at fA hbA
  have x0 := fA.f0
  have x1 := fA.f1
  have x2 := fA.f2
  have x3 := fA.f3
  have x4 := fA.f4
  have x5 := fA.f5
  generalize hA : w.alloc (.cells #[.slice s.a0 P.ghost.length s.c0, .slice s.a1 P.vars.length s.c1, .slice s.a2 P.tags.length s.c2, .slice s.a3 P.on.length s.c3, .int .i64 P.miss, .slice s.a4 P.code.length s.c4] 27) = wA at *
  have hck := check_any s P wA (hP.below hbA)
  rw [hok] at hck
  have HOK := Lib.hid (ok_of P hok)
  have hL := (ok_of P hok).lens
  unfold lensOk at hL
  obtain ⟨g0, g1, g2, g3, g4⟩ := hL
  have g3' : P.on.length ≤ 16 := by omega
  unfold pval at hck ⊢
  have FA := Lib.hid fA
  have HP := Lib.hid (hP.below hbA)
  have HBA := Lib.hid hbA
  have HA := Lib.hid hA
  clear hP fA hbA hok g3 hA
  go_enter Tryd.func13, Tryd.ntmps13
  go_wp2_with fail
  rw [HA.out]
  refine hck.mono ?_
  rintro e w1 ⟨rfl, hb1⟩
  have HB1 := Lib.hid hb1
  have hz1 : wA.heap.size ≤ w1.heap.size := hb1.size
  have hWG := Lib.hid (writer_new w1)
  have hbW : Below w1.heap.size w1 ((w1.alloc (.cells #[.int .u8 87] 5)).alloc (.cells #[.slice (some ⟨w1.heap.size, 0, none⟩) 1 1] 67)) := ((Below.refl _ w1).alloc (Nat.le_refl _) _).alloc (by simp) _
  have y0 := (FA.out.below (hb1.trans (hbW.mono hz1))).f0
  have HW2 := Lib.hid hbW
  clear x0 x1 x2 x3 x4 x5 hck hb1 hbW
  go_wp2_with fail
  refine (number_any w1.heap.size (w1.heap.size + 1) w1.heap.size [87] P.ghost.length _ hWG.out (by omega) (by decide)).mono ?_
  rintro e w2 ⟨rfl, gA, hW2, hM2⟩
  have hlay := lay_start (lay_app (l := [87]) (x := num P.ghost.length) (r := eGhost P) (Lib.hid (encB_eq P)))
  have HB2 := Lib.hid (HW2.out.trans (hM2.below (by omega) (Nat.le_refl _) (by simp; omega)))
  have HG2 := Lib.hid hW2
  clear y0 hM2 hW2
  have y0 := (FA.out.below (HB1.out.trans (HB2.out.mono hz1))).f0
  go_wp2
  clear y0
  have hns := num_short P.ghost.length
  go_loopw [36] (fun i wr => ∃ (j : Nat) (l : List UInt8) (g : Nat), j ≤ P.ghost.length ∧ i = .int .i64 (j : Int) ∧ l.length ≤ 12 + j ∧ Hid (l ++ ((P.ghost.drop j).flatMap (fun b => [flagB b]) ++ (num P.vars.length ++ eVars P)) = encB P) ∧ Hid (WG wr w1.heap.size (w1.heap.size + 1) g l) ∧ Hid (Below w1.heap.size w1 wr)) (fun i _ => P.ghost.length + 1 - (intOf i).toNat)
  case atStart => exact ⟨0, _, gA, Nat.zero_le _, rfl, by simp; omega, hlay, HG2, HB2⟩
  case round =>
    clear hlay HG2 HB2 hns HW2 hWG
    obtain ⟨j, l, g, hj, rfl, hll, hlay, hW, hB⟩ := hrel
    by_cases hlt : j < P.ghost.length
    · obtain ⟨a, ha, hca⟩ := (HP.out.below (HB1.out.trans (hB.out.mono hz1))).ghost.at j (by rw [bools_length]; exact hlt)
      simp only [bools, List.getElem_map] at hca
      have hmore := lay_more hlt hlay
      generalize P.ghost[j] = gb at *
      rw [ha] at *
      obtain ⟨hBb, hBg, hgb, cap, hv, hown⟩ := hW.out
      have hc := cell_at hv 0
      have hbl : w1.heap.size + 1 < wr.heap.size := (Array.getElem?_eq_some_iff.1 hv).1
      have hBr : w1.heap.size ≤ wr.heap.size := by omega
      have HV := Lib.hid hv
      have HGB := Lib.hid hgb
      clear hlay hv ha hgb
      cases gb
      · go_wp2_with (at_builtin; go_loud (refine wpList_append1 rfl _ _ 32 rfl w1.heap.size 5 (.int .u8 0) 1 Tryd.underlying32 infoB rfl _ _ _ rfl hown wr.heap.size rfl _ rfl rfl ?e1 ?e2 ?e3 ?_))
        case e1 => unfold maxLen; omega
        case e2 => omega
        case e3 => exact hBr
        intro g3 cp w3 hown3 hgr hBg3 hloc
        have e1 : bcells l ++ [.int .u8 0] = bcells (l ++ [flagB false]) := bcells_app l (flagB false)
        rw [e1] at hown3
        have hv3 : w3.heap[w1.heap.size + 1]? = some (.cells #[.slice (some ⟨g, 0, none⟩) l.length cap] 67 (0, 0)) := (hgr.block _ hbl (by simp [Value.ownBlock]; have := HGB.out; omega)).trans HV.out
        have hl3 : g3 = g ∨ wr.heap.size ≤ g3 := by
          rcases hloc with h | h
          · left; simpa [Value.ownBlock] using h.symm
          · exact Or.inr h
        have c0 := cell_at hv3 0
        have q0 := free_at hv3 0
        have HW3 : Hid (WG (w3.setCell ⟨w1.heap.size + 1, 0, none⟩ (.slice (some ⟨g3, 0, none⟩) (l.length + 1) cp)) w1.heap.size (w1.heap.size + 1) g3 (l ++ [flagB false])) := Lib.hid (by
          have e : (l ++ [flagB false]).length = l.length + 1 := by simp
          rw [← e]
          exact WG.set hBb hBg3 hv3 (by rw [e]; exact hown3))
        have hM3 := (WMoved.refl wr (w1.heap.size + 1) g).step (w3 := w3) (g3 := g3) hgr hl3 (.slice (some ⟨g3, 0, none⟩) (l.length + 1) cp)
        have HBs := Lib.hid (hB.out.trans (hM3.below hBb hBg hBr))
        clear hown hown3 hgr hv3 hl3 hloc hc e1 hM3
        go_wp2
        go_roundw
        case rel => exact ⟨j + 1, l ++ [flagB false], g3, by omega, by go_num, by simp; omega, hmore, HW3, HBs⟩
        case measure => simp [intOf]; omega
      · go_wp2_with (at_builtin; go_loud (refine wpList_append1 rfl _ _ 32 rfl w1.heap.size 5 (.int .u8 0) 1 Tryd.underlying32 infoB rfl _ _ _ rfl hown wr.heap.size rfl _ rfl rfl ?f1 ?f2 ?f3 ?_))
        case f1 => unfold maxLen; omega
        case f2 => omega
        case f3 => exact hBr
        intro g3 cp w3 hown3 hgr hBg3 hloc
        have e1 : bcells l ++ [.int .u8 1] = bcells (l ++ [flagB true]) := bcells_app l (flagB true)
        rw [e1] at hown3
        have hv3 : w3.heap[w1.heap.size + 1]? = some (.cells #[.slice (some ⟨g, 0, none⟩) l.length cap] 67 (0, 0)) := (hgr.block _ hbl (by simp [Value.ownBlock]; have := HGB.out; omega)).trans HV.out
        have hl3 : g3 = g ∨ wr.heap.size ≤ g3 := by
          rcases hloc with h | h
          · left; simpa [Value.ownBlock] using h.symm
          · exact Or.inr h
        have c0 := cell_at hv3 0
        have q0 := free_at hv3 0
        have HW3 : Hid (WG (w3.setCell ⟨w1.heap.size + 1, 0, none⟩ (.slice (some ⟨g3, 0, none⟩) (l.length + 1) cp)) w1.heap.size (w1.heap.size + 1) g3 (l ++ [flagB true])) := Lib.hid (by
          have e : (l ++ [flagB true]).length = l.length + 1 := by simp
          rw [← e]
          exact WG.set hBb hBg3 hv3 (by rw [e]; exact hown3))
        have hM3 := (WMoved.refl wr (w1.heap.size + 1) g).step (w3 := w3) (g3 := g3) hgr hl3 (.slice (some ⟨g3, 0, none⟩) (l.length + 1) cp)
        have HBs := Lib.hid (hB.out.trans (hM3.below hBb hBg hBr))
        clear hown hown3 hgr hv3 hl3 hloc hc e1 hM3
        go_wp2
        go_roundw
        case rel => exact ⟨j + 1, l ++ [flagB true], g3, by omega, by go_num, by simp; omega, hmore, HW3, HBs⟩
        case measure => simp [intOf]; omega
    · obtain rfl : j = P.ghost.length := by omega
      have hl2 := lay_done hlay
      have hW2 := hW.out
      have y1 := (FA.out.below (HB1.out.trans (hB.out.mono hz1))).f1
      clear hlay hlt
      go_wp2_with fail
      refine (number_any w1.heap.size (w1.heap.size + 1) g l P.vars.length _ hW2 (by omega) (by omega)).mono ?_
      rintro e w3 ⟨rfl, gB, hW3, hM3⟩
      have hlay := lay_start (lay_app hl2)
      have hlt2 := hW2.lt
      have HB3 := Lib.hid (hB.out.trans (hM3.below hW2.1 hW2.2.1 (by omega)))
      have HW3 := Lib.hid hW3
      clear y1 hM3 hW2 hW3 hl2 hW hB
      have y1 := (FA.out.below (HB1.out.trans (HB3.out.mono hz1))).f1
      have hns := num_short P.vars.length
      go_wp2
      clear y1
      go_loopw [68] (fun i wr => ∃ (j : Nat) (l : List UInt8) (g : Nat), j ≤ P.vars.length ∧ i = .int .i64 (j : Int) ∧ l.length ≤ 39 + 33 * j ∧ Hid (l ++ ((P.vars.drop j).flatMap encVar ++ (num P.tags.length ++ eTags P)) = encB P) ∧ Hid (WG wr w1.heap.size (w1.heap.size + 1) g l) ∧ Hid (Below w1.heap.size w1 wr)) (fun i _ => P.vars.length + 1 - (intOf i).toNat)
      case atStart => exact ⟨0, _, gB, Nat.zero_le _, rfl, by simp; omega, hlay, HW3, HB3⟩
      case round =>
        clear hlay HW3 HB3 hns hlt2
        obtain ⟨j, l, g, hj, rfl, hll, hlay, hW, hB⟩ := hrel
        by_cases hlt : j < P.vars.length
        · obtain ⟨a, ha, hca⟩ := (HP.out.below (HB1.out.trans (hB.out.mono hz1))).vars.row 3 (fun _ => rfl) (by decide) j hlt
          have hmore := lay_more hlt hlay
          have hov := HOK.out.vars _ (List.getElem_mem hlt)
          generalize P.vars[j] = v at *
          obtain ⟨u0, u1, u2⟩ := v
          unfold nearI at hov
          obtain ⟨ho0, ho1, ho2⟩ := hov
          have a0 : wr.cell? (a.add (j * 3)) = some (.int .i64 u0) := by have h := hca 0 _ rfl; rwa [add_zero'] at h
          have a1 : wr.cell? ⟨(a.add (j * 3)).block, (a.add (j * 3)).off + 1, none⟩ = some (.int .i64 u1) := by have h := hca 1 _ rfl; rwa [add_pos' _ _ (by decide)] at h
          have a2 : wr.cell? ⟨(a.add (j * 3)).block, (a.add (j * 3)).off + 2, none⟩ = some (.int .i64 u2) := by have h := hca 2 _ rfl; rwa [add_pos' _ _ (by decide)] at h
          rw [ha] at *
          have hlts := hW.out.lt
          have hx0 : (wr.alloc (.cells #[.int .i64 u0, .int .i64 u1, .int .i64 u2] 70)).heap[wr.heap.size]? = some (.cells #[.int .i64 u0, .int .i64 u1, .int .i64 u2] 70 (0, 0)) := (MapKept.heap_alloc wr _).1
          have HX0 := Lib.hid hx0
          have hbx : Below w1.heap.size w1 (wr.alloc (.cells #[.int .i64 u0, .int .i64 u1, .int .i64 u2] 70)) := hB.out.alloc (by omega) _
          have HBX := Lib.hid hbx
          have hWx := Lib.hid (hW.out.below ((Below.refl _ wr).alloc (Nat.le_refl _) (.cells #[.int .i64 u0, .int .i64 u1, .int .i64 u2] 70)))
          have hBb := hW.out.1
          have hBg := hW.out.2.1
          have n0 := num_short (sgn u0)
          have n1 := num_short (sgn u1)
          have n2 := num_short (sgn u2)
          clear hlay ha hca hx0 hbx hW hB
          go_wp2_with fail
          refine (wint_any w1.heap.size (w1.heap.size + 1) g l u0 _ hWx.out ho0 (by omega)).mono ?_
          rintro e w4 ⟨rfl, g4, hW4, hM4⟩
          obtain ⟨hx4, hg4⟩ := hM4.keep HX0.out (by omega) (by omega)
          have HX4 := Lib.hid hx4
          have HG4 := Lib.hid hg4
          have HW4 := Lib.hid hW4
          have HM4 := Lib.hid hM4
          have d1 := cell_at hx4 1
          clear hx4 hg4 hW4 hM4
          go_wp2_with fail
          refine (wint_any w1.heap.size (w1.heap.size + 1) g4 (l ++ num (sgn u0)) u1 _ HW4.out ho1 (by simp; omega)).mono ?_
          rintro e w5 ⟨rfl, g5, hW5, hM5⟩
          obtain ⟨hx5, hg5⟩ := hM5.keep HX4.out (by omega) HG4.out
          have HX5 := Lib.hid hx5
          have HW5 := Lib.hid hW5
          have HM5 := Lib.hid (HM4.out.trans hM5)
          have d2 := cell_at hx5 2
          clear hx5 hg5 hW5 hM5 d1
          go_wp2_with fail
          refine (wint_any w1.heap.size (w1.heap.size + 1) g5 ((l ++ num (sgn u0)) ++ num (sgn u1)) u2 _ HW5.out ho2 (by simp; omega)).mono ?_
          rintro e w6 ⟨rfl, g6, hW6, hM6⟩
          have HW6 : Hid (WG w6 w1.heap.size (w1.heap.size + 1) g6 (l ++ encVar (u0, u1, u2))) := Lib.hid (by
            unfold encVar
            rw [← List.append_assoc, ← List.append_assoc]
            exact hW6)
          have HM6 := HM5.out.trans hM6
          have HB6 := Lib.hid (HBX.out.trans (HM6.below hBb hBg (by simp; omega)))
          have hev : (encVar (u0, u1, u2)).length ≤ 33 := by
            unfold encVar
            simp
            omega
          clear hM6 hW6 HM6 d2
          go_wp2
          go_roundw
          case rel => exact ⟨j + 1, l ++ encVar (u0, u1, u2), g6, by omega, by go_num, by simp; omega, hmore, HW6, HB6⟩
          case measure => simp [intOf]; omega
        · obtain rfl : j = P.vars.length := by omega
          have hl2 := lay_done hlay
          have hW2 := hW.out
          have y2 := (FA.out.below (HB1.out.trans (hB.out.mono hz1))).f2
          clear hlay hlt
          go_wp2_with fail
          refine (number_any w1.heap.size (w1.heap.size + 1) g l P.tags.length _ hW2 (by omega) (by omega)).mono ?_
          rintro e w3 ⟨rfl, gC, hW3, hM3⟩
          have hlay := lay_start (lay_app hl2)
          have hlt2 := hW2.lt
          have HB3 := Lib.hid (hB.out.trans (hM3.below hW2.1 hW2.2.1 (by omega)))
          have HW3 := Lib.hid hW3
          clear y2 hM3 hW2 hW3 hl2 hW hB
          have y2 := (FA.out.below (HB1.out.trans (HB3.out.mono hz1))).f2
          have hns := num_short P.tags.length
          go_wp2
          clear y2
          go_loopw [93] (fun i wr => ∃ (j : Nat) (l : List UInt8) (g : Nat), j ≤ P.tags.length ∧ i = .int .i64 (j : Int) ∧ l.length ≤ 578 + 11 * j ∧ Hid (l ++ ((P.tags.drop j).flatMap (fun t => num t.toNat) ++ eOn P) = encB P) ∧ Hid (WG wr w1.heap.size (w1.heap.size + 1) g l) ∧ Hid (Below w1.heap.size w1 wr)) (fun i _ => P.tags.length + 1 - (intOf i).toNat)
          case atStart => exact ⟨0, _, gC, Nat.zero_le _, rfl, by simp; omega, hlay, HW3, HB3⟩
          case round =>
            clear hlay HW3 HB3 hns hlt2
            obtain ⟨j, l, g, hj, rfl, hll, hlay, hW, hB⟩ := hrel
            by_cases hlt : j < P.tags.length
            · obtain ⟨a, ha, hca⟩ := (HP.out.below (HB1.out.trans (hB.out.mono hz1))).tags.at j (by rw [nums_length]; exact hlt)
              simp only [nums, List.getElem_map] at hca
              have hmore := lay_more hlt hlay
              have hot := HOK.out.tags _ (List.getElem_mem hlt)
              generalize P.tags[j] = v at *
              rw [ha] at *
              have hW2 := hW.out
              have hlt2 := hW2.lt
              have hnum := number_any w1.heap.size (w1.heap.size + 1) g l v.toNat wr hW2 (by omega) (by omega)
              rw [show ((v.toNat : Nat) : Int) = v by omega] at hnum
              have hns := num_short v.toNat
              have HMO := hmore
              clear hlay ha hmore
              go_wp2_with fail
              refine hnum.mono ?_
              rintro e w3 ⟨rfl, g3, hW3, hM3⟩
              have HB3 := Lib.hid (hB.out.trans (hM3.below hW2.1 hW2.2.1 (by omega)))
              have HW3 := Lib.hid hW3
              clear hM3 hW2 hW3 hnum
              go_wp2
              go_roundw
              case rel => exact ⟨j + 1, l ++ num v.toNat, g3, by omega, by go_num, by simp; omega, HMO, HW3, HB3⟩
              case measure => simp [intOf]; omega
            · obtain rfl : j = P.tags.length := by omega
              have hlay2 := lay_start (L := P.on) (enc := fun a => num (a + 1).toNat) (lay_done hlay)
              have y3 := (FA.out.below (HB1.out.trans (hB.out.mono hz1))).f3
              clear hlay hlt
              go_wp2
              clear y3
              go_loopw [104] (fun i wr => ∃ (j : Nat) (l : List UInt8) (g : Nat), j ≤ P.on.length ∧ i = .int .i64 (j : Int) ∧ l.length ≤ 622 + 11 * j ∧ Hid (l ++ ((P.on.drop j).flatMap (fun a => num (a + 1).toNat) ++ (num (P.miss + 1).toNat ++ (num P.code.length ++ eCode P))) = encB P) ∧ Hid (WG wr w1.heap.size (w1.heap.size + 1) g l) ∧ Hid (Below w1.heap.size w1 wr)) (fun i _ => P.on.length + 1 - (intOf i).toNat)
              case atStart => exact ⟨0, l, g, Nat.zero_le _, rfl, by omega, hlay2, hW, hB⟩
              case round =>
                clear hlay2 hW hB hll
                clear g l
                obtain ⟨j, l, g, hj, rfl, hll, hlay, hW, hB⟩ := hrel
                by_cases hlt : j < P.on.length
                · obtain ⟨a, ha, hca⟩ := (HP.out.below (HB1.out.trans (hB.out.mono hz1))).on.at j (by rw [nums_length]; exact hlt)
                  simp only [nums, List.getElem_map] at hca
                  have hmore := lay_more hlt hlay
                  have hot := HOK.out.on _ (List.getElem_mem hlt)
                  generalize P.on[j] = v at *
                  rw [ha] at *
                  have hW2 := hW.out
                  have hlt2 := hW2.lt
                  have hnum := number_any w1.heap.size (w1.heap.size + 1) g l (v + 1).toNat wr hW2 (by omega) (by omega)
                  rw [show (((v + 1).toNat : Nat) : Int) = v + 1 by omega] at hnum
                  have hns := num_short (v + 1).toNat
                  have HMO := hmore
                  clear hlay ha hmore
                  go_wp2_with fail
                  refine hnum.mono ?_
                  rintro e w3 ⟨rfl, g3, hW3, hM3⟩
                  have HB3 := Lib.hid (hB.out.trans (hM3.below hW2.1 hW2.2.1 (by omega)))
                  have HW3 := Lib.hid hW3
                  clear hM3 hW2 hW3 hnum
                  go_wp2
                  go_roundw
                  case rel => exact ⟨j + 1, l ++ num (v + 1).toNat, g3, by omega, by go_num, by simp; omega, HMO, HW3, HB3⟩
                  case measure => simp [intOf]; omega
                · obtain rfl : j = P.on.length := by omega
                  have hl2 := lay_done hlay
                  have hW2 := hW.out
                  have y4 := (FA.out.below (HB1.out.trans (hB.out.mono hz1))).f4
                  have hmi := HOK.out.miss
                  have hlt2 := hW2.lt
                  have hnum := number_any w1.heap.size (w1.heap.size + 1) g l (P.miss + 1).toNat wr hW2 (by omega) (by omega)
                  rw [show (((P.miss + 1).toNat : Nat) : Int) = P.miss + 1 by omega] at hnum
                  clear hlay hlt
                  go_wp2_with fail
                  refine hnum.mono ?_
                  rintro e w3 ⟨rfl, g3, hW3, hM3⟩
                  have hl3 := lay_app hl2
                  have HB3 := Lib.hid (hB.out.trans (hM3.below hW2.1 hW2.2.1 (by omega)))
                  have hns := num_short (P.miss + 1).toNat
                  clear y4 hM3 hW2 hl2 hW hB hnum hlt2
                  have y5 := (FA.out.below (HB1.out.trans (HB3.out.mono hz1))).f5
                  go_wp2_with fail
                  refine (number_any w1.heap.size (w1.heap.size + 1) g3 (l ++ num (P.miss + 1).toNat) P.code.length _ hW3 (by omega) (by simp; omega)).mono ?_
                  rintro e w4 ⟨rfl, g4, hW4, hM4⟩
                  have hlay := lay_app hl3
                  have hlay2 : Hid (((l ++ num (P.miss + 1).toNat) ++ num P.code.length) ++ ((P.code.drop 0).flatMap encIns ++ []) = encB P) := lay_start hlay
                  have hlt3 := hW3.lt
                  have HB4 := Lib.hid (HB3.out.trans (hM4.below hW3.1 hW3.2.1 (by omega)))
                  have HW4 := Lib.hid hW4
                  have hns2 := num_short P.code.length
                  have hll2 : ((l ++ num (P.miss + 1).toNat) ++ num P.code.length).length ≤ 820 := by simp; omega
                  clear y5 hM4 hW3 hW4 hl3 hlay HB3 hns hns2
                  have y5 := (FA.out.below (HB1.out.trans (HB4.out.mono hz1))).f5
                  generalize ((l ++ num (P.miss + 1).toNat) ++ num P.code.length) = l2 at *
                  clear hll
                  clear l
                  go_wp2
                  clear y5
                  go_loopw [126] (fun i wr => ∃ (j : Nat) (l : List UInt8) (g : Nat), j ≤ P.code.length ∧ i = .int .i64 (j : Int) ∧ l.length ≤ 820 + 55 * j ∧ Hid (l ++ ((P.code.drop j).flatMap encIns ++ []) = encB P) ∧ Hid (WG wr w1.heap.size (w1.heap.size + 1) g l) ∧ Hid (Below w1.heap.size w1 wr)) (fun i _ => P.code.length + 1 - (intOf i).toNat)
                  case atStart => exact ⟨0, l2, g4, Nat.zero_le _, rfl, by omega, hlay2, HW4, HB4⟩
                  case round =>
                    clear hlay2 HW4 HB4 hll2 hlt3
                    obtain ⟨k, l, g, hk, rfl, hll, hlay, hW, hB⟩ := hrel
                    by_cases hlt : k < P.code.length
                    · obtain ⟨a, ha, hca⟩ := (HP.out.below (HB1.out.trans (hB.out.mono hz1))).code.row 5 (fun _ => rfl) (by decide) k hlt
                      have hmore := lay_ins hlt hlay
                      have hoi := HOK.out.code _ (List.getElem_mem hlt)
                      generalize P.code[k] = v at *
                      obtain ⟨p0, p1, p2, p3, p4⟩ := v
                      have a0 : wr.cell? (a.add (k * 5)) = some (.int .i64 p0) := by have h := hca 0 _ rfl; rwa [add_zero'] at h
                      have a1 : wr.cell? ⟨(a.add (k * 5)).block, (a.add (k * 5)).off + 1, none⟩ = some (.int .i64 p1) := by have h := hca 1 _ rfl; rwa [add_pos' _ _ (by decide)] at h
                      have a2 : wr.cell? ⟨(a.add (k * 5)).block, (a.add (k * 5)).off + 2, none⟩ = some (.int .i64 p2) := by have h := hca 2 _ rfl; rwa [add_pos' _ _ (by decide)] at h
                      have a3 : wr.cell? ⟨(a.add (k * 5)).block, (a.add (k * 5)).off + 3, none⟩ = some (.int .i64 p3) := by have h := hca 3 _ rfl; rwa [add_pos' _ _ (by decide)] at h
                      have a4 : wr.cell? ⟨(a.add (k * 5)).block, (a.add (k * 5)).off + 4, none⟩ = some (.int .i64 p4) := by have h := hca 4 _ rfl; rwa [add_pos' _ _ (by decide)] at h
                      rw [ha] at *
                      have hop := hoi.op
                      obtain ⟨kop, rfl⟩ : ∃ kop : Nat, p0 = (kop : Int) := ⟨p0.toNat, by simp only at hop; omega⟩
                      have hkop : kop < 42 := by simp only at hop; omega
                      have hks : kindsOf (kop : Int) = (shapes.getD kop ([], [])).2 := by unfold kindsOf; simp
                      have hk4 := kinds_short (kop : Int)
                      have hhas := hoi.has
                      simp only at hhas hmore
                      obtain ⟨wx, hwx⟩ : ∃ wx, wx = wr.alloc (.cells #[.int .i64 (kop : Int), .int .i64 p1, .int .i64 p2, .int .i64 p3, .int .i64 p4] 57) := ⟨_, rfl⟩
                      have hxb : wx.heap[wr.heap.size]? = some (.cells #[.int .i64 (kop : Int), .int .i64 p1, .int .i64 p2, .int .i64 p3, .int .i64 p4] 57 (0, 0)) := by rw [hwx]; exact (MapKept.heap_alloc wr _).1
                      have hbx : Below wr.heap.size wr wx := by rw [hwx]; exact (Below.refl _ wr).alloc (Nat.le_refl _) _
                      have hsh := shape_in kop hkop wx
                      rw [← hks] at hsh
                      generalize kindsOf (kop : Int) = ks at *
                      generalize str (shapes.getD kop ([], [])).1 = nm at *
                      have hlts := hW.out.lt
                      have hBb := hW.out.1
                      have hBg := hW.out.2.1
                      have hzx : wr.heap.size + 1 = wx.heap.size := by rw [hwx]; simp
                      have HXB := Lib.hid hxb
                      have HWX := Lib.hid hwx
                      have HBX := Lib.hid hbx
                      have HMO := Lib.hid hmore
                      have HZX := Lib.hid hzx
                      have HHAS := Lib.hid hhas
                      clear hwx hxb hbx hmore hlay ha hca hoi hop hks hzx hhas
                      go_wp2_with fail
                      rw [← HWX.out]
                      refine hsh.mono ?_
                      rintro e w2 ⟨rfl, hb2⟩
                      have hzx := HZX.out
                      have hz2 := hb2.size
                      have hxl : wr.heap.size < wx.heap.size := by omega
                      have hxb2 := (hb2.block _ hxl).trans HXB.out
                      have hxb3 := (Below.heap_alloc w2 (.cells #[.string nm, .string (str ks)] 59) _ (by omega)).trans hxb2
                      have hS3 : (w2.alloc (.cells #[.string nm, .string (str ks)] 59)).heap[w2.heap.size]? = some (.cells #[.string nm, .string (str ks)] 59 (0, 0)) := (MapKept.heap_alloc w2 _).1
                      have hbw : Below wr.heap.size wr (w2.alloc (.cells #[.string nm, .string (str ks)] 59)) := (HBX.out.trans (hb2.mono HBX.out.size)).alloc (by omega) _
                      have d0 := cell_at hxb3 0
                      have HX3 := Lib.hid hxb3
                      have HS3 := Lib.hid hS3
                      have HW3 := Lib.hid (hW.out.below hbw)
                      have HB3 := Lib.hid (hB.out.trans (hbw.mono (by omega)))
                      have hw2s : w2.heap.size > wr.heap.size := by omega
                      clear hxb2 hxb3 hS3 hbw hsh hb2 hxl HXB HWX HBX hW hB a0 a1 a2 a3 a4
                      clear hzx HZX hz2
                      go_wp2_with fail
                      refine (number_any w1.heap.size (w1.heap.size + 1) g l kop _ HW3.out (by omega) (by omega)).mono ?_
                      rintro e w4 ⟨rfl, g4, hW4, hM4⟩
                      have hlay := lay_start (lay_app HMO.out)
                      obtain ⟨hx4, hgx4⟩ := hM4.keep HX3.out (by omega) (by omega)
                      obtain ⟨hs4, hgs4⟩ := hM4.keep HS3.out (by omega) (by omega)
                      have hx5 := fun o => (Below.heap_alloc w4 o _ ((Array.getElem?_eq_some_iff.1 hx4).1)).trans hx4
                      have d1 := cell_at hx4 1
                      have d2 := cell_at hx4 2
                      have d3 := cell_at hx4 3
                      have d4 := cell_at hx4 4
                      have hs5 := (Below.heap_alloc w4 (.cells #[.int .i64 p1, .int .i64 p2, .int .i64 p3, .int .i64 p4] 3) _ ((Array.getElem?_eq_some_iff.1 hs4).1)).trans hs4
                      have hL5 := (MapKept.heap_alloc w4 (.cells #[.int .i64 p1, .int .i64 p2, .int .i64 p3, .int .i64 p4] 3)).1
                      have c5 := cell_at hs5 1
                      have hz4 := hW4.lt
                      have hs4l : w2.heap.size < w4.heap.size := (Array.getElem?_eq_some_iff.1 hs4).1
                      have HB4 := HB3.out.trans (hM4.below hBb hBg (by simp; omega))
                      have HB5 := Lib.hid (HB4.alloc (by omega) (.cells #[.int .i64 p1, .int .i64 p2, .int .i64 p3, .int .i64 p4] 3))
                      have HW5 := Lib.hid (hW4.below ((Below.refl _ w4).alloc (Nat.le_refl _) (.cells #[.int .i64 p1, .int .i64 p2, .int .i64 p3, .int .i64 p4] 3)))
                      have HS5 := Lib.hid hs5
                      have HL5 := Lib.hid hL5
                      have hgs : g4 ≠ w2.heap.size := fun e => hgs4 e.symm
                      have HGS := Lib.hid hgs
                      have hgl : g4 < w4.heap.size := hz4.2
                      have hns := num_short kop
                      have hss : (str ks).size = ks.length := rfl
                      have hss' : (str ks).size ≤ 4 := by rw [hss]; exact hk4
                      have hzip : (ks.zip (opnds ((kop : Int), p1, p2, p3, p4))).length = ks.length := by rw [List.length_zip]; exact Nat.min_eq_left (by exact hk4)
                      have HZIP := Lib.hid hzip
                      have HM4 := Lib.hid hM4
                      clear hx5 hx4 hgx4 hs4 hgs4 hs5 hL5 hM4 hW4 HB4 d0 HX3 HS3 HW3 HB3 hgs hzip HMO
                      go_wp2
                      clear d1 d2 d3 d4 c5
                      generalize w4.alloc (.cells #[.int .i64 p1, .int .i64 p2, .int .i64 p3, .int .i64 p4] 3) = W5 at *
                      have hgl' : g4 ≠ w4.heap.size := by omega
                      have HBN : Hid (w2.heap.size ≠ w1.heap.size + 1 ∧ w4.heap.size ≠ w1.heap.size + 1) := Lib.hid ⟨by omega, by omega⟩
                      have HG5 : Hid (g4 ≠ w2.heap.size ∧ g4 ≠ w4.heap.size) := Lib.hid ⟨HGS.out, hgl'⟩
                      have hl4 : (l ++ num kop).length ≤ 831 + 55 * k := by simp; omega
                      clear hgl'
                      go_loopw [154] (fun ii wq => ∃ (i : Nat) (l : List UInt8) (g : Nat), i ≤ ks.length ∧ ii = .int .i64 (i : Int) ∧ l.length ≤ 831 + 55 * k + 11 * i ∧ Hid (l ++ (((ks.zip (opnds ((kop : Int), p1, p2, p3, p4))).drop i).flatMap encOpnd ++ ((P.code.drop (k + 1)).flatMap encIns ++ [])) = encB P) ∧ Hid (WG wq w1.heap.size (w1.heap.size + 1) g l) ∧ Hid (Below w1.heap.size w1 wq) ∧ Hid (wq.heap[w2.heap.size]? = some (.cells #[.string nm, .string (str ks)] 59 (0, 0))) ∧ Hid (wq.heap[w4.heap.size]? = some (.cells #[.int .i64 p1, .int .i64 p2, .int .i64 p3, .int .i64 p4] 3 (0, 0))) ∧ Hid (g ≠ w2.heap.size ∧ g ≠ w4.heap.size)) (fun ii _ => ks.length + 1 - (intOf ii).toNat)
                      case atStart => exact ⟨0, l ++ num kop, g4, Nat.zero_le _, rfl, by omega, hlay, HW5, HB5, HS5, HL5, HG5⟩
                      case round =>
                        clear hlay HW5 HB5 HS5 HL5 HG5 hl4 HGS HM4 hns hgl hz4 hs4l hw2s
                        clear hll
                        clear l
                        obtain ⟨i, l, g, hi, rfl, hll, hlay, hWr, hBr, HSr, HLr, hGr⟩ := hrel
                        by_cases hik : i < ks.length
                        · have hzl : i < (ks.zip (opnds ((kop : Int), p1, p2, p3, p4))).length := by rw [HZIP.out]; exact hik
                          have hmore := lay_more hzl hlay
                          rw [List.getElem_zip] at hmore
                          have hok2 := HHAS.out i hik
                          have hi4 : i < (opnds ((kop : Int), p1, p2, p3, p4)).length := by show i < 4; omega
                          have hgd : (opnds ((kop : Int), p1, p2, p3, p4)).getD i 0 = (opnds ((kop : Int), p1, p2, p3, p4))[i] := by simp [List.getD, List.getElem?_eq_getElem hi4]
                          rw [hgd] at hok2
                          have hcn : wr.cell? ⟨w4.heap.size, i, none⟩ = some (.int .i64 (opnds ((kop : Int), p1, p2, p3, p4))[i]) := by
                            rw [cell_at HLr.out i]
                            rcases (show i = 0 ∨ i = 1 ∨ i = 2 ∨ i = 3 by omega) with rfl | rfl | rfl | rfl <;> rfl
                          have hcs : wr.cell? ⟨w2.heap.size, 1, none⟩ = some (.string (str ks)) := cell_at HSr.out 1
                          have hget : (str ks)[i]'(by rw [hss]; exact hik) = ks[i] := rfl
                          generalize (opnds ((kop : Int), p1, p2, p3, p4))[i] = n at *
                          generalize ks[i] = c at *
                          have hsh := opnd_short (c, n)
                          have hW6g := hWr.out.2.1
                          have HMO := Lib.hid hmore
                          have hf := form_any c.toNat wr
                          unfold formF formG at hf
                          clear hlay hgd hmore hzl hi4
                          unfold okOp at hok2
                          simp only at hok2
                          by_cases h110 : c.toNat = 110
                          · rw [if_pos h110] at hok2
                            rw [if_pos h110, if_pos h110] at hf
                            have HEN : Hid (encOpnd (c, n) = num (sgn n)) := Lib.hid (by unfold encOpnd; rw [if_pos h110])
                            clear h110 HHAS
                            unfold nearI at hok2
                            have hfd := field0
                            have hnum := fun wz hz => wint_any w1.heap.size (w1.heap.size + 1) g l n wz hz hok2 (by omega)
                            go_wp2_with fail
                            refine hf.mono ?_
                            rintro e w6 ⟨rfl, hb6⟩
                            have HS6 := (hb6.block _ (Array.getElem?_eq_some_iff.1 HSr.out).1).trans HSr.out
                            have HL6 := (hb6.block _ (Array.getElem?_eq_some_iff.1 HLr.out).1).trans HLr.out
                            have HW6 := hWr.out.below hb6
                            have hlt6 := HW6.lt
                            have HB6 := hBr.out.trans (hb6.mono (by have := hWr.out.lt; omega))
                            go_wp2_with fail
                            refine (hnum w6 HW6).mono ?_
                            rintro e w7 ⟨rfl, g7, hW7, hM7⟩
                            have hbn := HBN.out
                            obtain ⟨hs7, hgs7⟩ := hM7.keep HS6 hbn.1 (fun e => hGr.out.1 e.symm)
                            obtain ⟨hl7, hgl7⟩ := hM7.keep HL6 hbn.2 (fun e => hGr.out.2 e.symm)
                            have HB7 := Lib.hid (HB6.trans (hM7.below hBb hW6g (by omega)))
                            have HS7 := Lib.hid hs7
                            have HL7 := Lib.hid hl7
                            have HG7 : Hid (g7 ≠ w2.heap.size ∧ g7 ≠ w4.heap.size) := Lib.hid ⟨fun e => hgs7 e.symm, fun e => hgl7 e.symm⟩
                            have HW7 : Hid (WG w7 w1.heap.size (w1.heap.size + 1) g7 (l ++ encOpnd (c, n))) := Lib.hid (by rw [HEN.out]; exact hW7)
                            clear hb6 HS6 HL6 HW6 HB6 hM7 hW7 hs7 hl7 hgs7 hgl7 hnum hf hlt6 hbn
                            go_wp2
                            go_roundw
                            case rel => exact ⟨i + 1, l ++ encOpnd (c, n), g7, by omega, by go_num, by simp; omega, HMO.out, HW7, HB7, HS7, HL7, HG7⟩
                            case measure => simp [intOf]; omega
                          · rw [if_neg h110] at hok2
                            rw [if_neg h110, if_neg h110] at hf
                            have HEN : Hid (encOpnd (c, n) = num n.toNat) := Lib.hid (by unfold encOpnd; rw [if_neg h110])
                            clear h110 HHAS
                            have hn0 := hok2.1
                            have hfd := field0
                            have hnum := fun wz hz => number_any w1.heap.size (w1.heap.size + 1) g l n.toNat wz hz (by omega) (by omega)
                            rw [show ((n.toNat : Nat) : Int) = n by omega] at hnum
                            go_wp2_with fail
                            refine hf.mono ?_
                            rintro e w6 ⟨rfl, hb6⟩
                            have HS6 := (hb6.block _ (Array.getElem?_eq_some_iff.1 HSr.out).1).trans HSr.out
                            have HL6 := (hb6.block _ (Array.getElem?_eq_some_iff.1 HLr.out).1).trans HLr.out
                            have HW6 := hWr.out.below hb6
                            have hlt6 := HW6.lt
                            have HB6 := hBr.out.trans (hb6.mono (by have := hWr.out.lt; omega))
                            go_wp2_with fail
                            refine (hnum w6 HW6).mono ?_
                            rintro e w7 ⟨rfl, g7, hW7, hM7⟩
                            have hbn := HBN.out
                            obtain ⟨hs7, hgs7⟩ := hM7.keep HS6 hbn.1 (fun e => hGr.out.1 e.symm)
                            obtain ⟨hl7, hgl7⟩ := hM7.keep HL6 hbn.2 (fun e => hGr.out.2 e.symm)
                            have HB7 := Lib.hid (HB6.trans (hM7.below hBb hW6g (by omega)))
                            have HS7 := Lib.hid hs7
                            have HL7 := Lib.hid hl7
                            have HG7 : Hid (g7 ≠ w2.heap.size ∧ g7 ≠ w4.heap.size) := Lib.hid ⟨fun e => hgs7 e.symm, fun e => hgl7 e.symm⟩
                            have HW7 : Hid (WG w7 w1.heap.size (w1.heap.size + 1) g7 (l ++ encOpnd (c, n))) := Lib.hid (by rw [HEN.out]; exact hW7)
                            clear hb6 HS6 HL6 HW6 HB6 hM7 hW7 hs7 hl7 hgs7 hgl7 hnum hf hlt6 hbn
                            go_wp2
                            go_roundw
                            case rel => exact ⟨i + 1, l ++ encOpnd (c, n), g7, by omega, by go_num, by simp; omega, HMO.out, HW7, HB7, HS7, HL7, HG7⟩
                            case measure => simp [intOf]; omega
                        · have hil : i = (ks.zip (opnds ((kop : Int), p1, p2, p3, p4))).length := by rw [HZIP.out]; omega
                          rw [hil] at hlay
                          have hl2 := lay_done hlay
                          have hi5 : i ≤ 4 := by omega
                          clear hlay hil HSr HLr hGr
                          go_wp2
                          go_roundw
                          case rel => exact ⟨k + 1, l, g, by omega, by go_num, by omega, hl2, hWr, hBr⟩
                          case measure => simp [intOf]; omega
                    · obtain rfl : k = P.code.length := by omega
                      have hl2 := lay_done hlay
                      have hE : l = encB P := by have := hl2.out; rwa [List.append_nil] at this
                      subst hE
                      obtain ⟨hBb, hBg, hgb, cap, hv, hown⟩ := hW.out
                      have hlts := hW.out.lt
                      have hc := cell_at hv 0
                      have hcell := (Below.heap_alloc wr (.cells #[] 5) _ hlts.1).trans hv
                      have hc2 := cell_at hcell 0
                      have hli := Lib.hid ((own_cells hown).below ((Below.refl _ wr).alloc (Nat.le_refl _) (.cells #[] 5)))
                      have hwr : w.heap.size ≤ wr.heap.size := by have h1 := HBA.out.size; omega
                      have HBW := Lib.hid (HBA.out.trans ((HB1.out.trans (hB.out.mono hz1)).mono HBA.out.size))
                      clear hlay hl2 hlt hv hown hcell hgb hW hB hBb hBg hc
                      obtain ⟨i0, hi, hz0, hz1', hz2⟩ := info_parts infoB
                      go_wp2_with (at_builtin; go_loud (refine wpList_append_own _ rfl _ _ 32 rfl w.heap.size 5 i0 (.int .u8 0) 1 1 Tryd.underlying32 hi hz0 hz1' hz2 rfl (by decide) _ 0 [] rfl (World.ownsRow_lit wr #[] 0 hwr (by decide) rfl) ⟨g, 0, none⟩ (encB P).length cap (bcells (encB P)) rfl ?z1 ?z2 ?z3 ?z4 ?z5 ?z6 ?_))
                      case z1 => rw [bcells_length]; simp
                      case z2 => exact hli.out.cell_some
                      case z3 => exact bcells_one _
                      case z4 => unfold maxLen; omega
                      case z5 => omega
                      case z6 => simp; omega
                      intro v' w' hown' hgr _
                      have hpos : 0 < (encB P).length := by rw [← encB_eq]; simp
                      obtain ⟨g', cap', hv', hg'⟩ := own_shape hown' (by omega)
                      have hbf := (HBW.out.alloc hwr (.cells #[] 5)).grown hgr (by simp; omega) (fun k hk => by have := Option.some.inj hk; simp only at this; omega)
                      have HF : Hid (EncPost P w (.returned (.tuple #[v', .int .i64 0])) w') := Lib.hid (by
                        rw [hv'] at hown' ⊢
                        exact ⟨g', cap', rfl, by simpa using hown', hbf⟩)
                      clear hown' hgr hv' hg' hbf hi hz0 hz1' hz2 hpos hc2
                      go_wp2
                      go_ret2
                      exact HF.out

set_option maxHeartbeats 1000000 in
set_option maxRecDepth 100000 in
theorem encode_no (s : Spots) (P : Prg) (w : World) (hP : PAt w s P) (hno : checkErr P ≠ 0) :
    Calls Tryd.prog 13 #[pval s P] w fun e w' => e = .returned (.tuple #[.slice none 0 0, .int .i64 (checkErr P)]) ∧ Below w.heap.size w w' := by
  obtain ⟨fA, hbA⟩ := one_block w s P 27
  unfold pcells at fA hbA
  have x0 := fA.f0
  have x1 := fA.f1
  have x2 := fA.f2
  have x3 := fA.f3
  have x4 := fA.f4
  have x5 := fA.f5
  generalize hA : w.alloc (.cells #[.slice s.a0 P.ghost.length s.c0, .slice s.a1 P.vars.length s.c1, .slice s.a2 P.tags.length s.c2, .slice s.a3 P.on.length s.c3, .int .i64 P.miss, .slice s.a4 P.code.length s.c4] 27) = wA at *
  have hck := check_any s P wA (hP.below hbA)
  generalize checkErr P = er at *
  have hne : (er == 0) = false := by rw [beq_eq_false_iff_ne]; exact hno
  unfold pval at hck ⊢
  have HA := Lib.hid hA
  clear hP fA hA
  go_enter Tryd.func13, Tryd.ntmps13
  go_wp2_with fail
  rw [HA.out]
  refine hck.mono ?_
  rintro e w1 ⟨rfl, hb1⟩
  go_wp2
  go_ret2
  exact ⟨rfl, hbA.trans (hb1.mono hbA.size)⟩
end Go.Proofs.YtfjiikadnlhekaaDoor
