/-
  What is proved here: the reference's Encode tells a program's bytes, or the fault. Conditions: the program lies in memory.
-/
import Derived.Test.YtfjiikadnlhekaaDoorPut
import Derived.Test.YtfjiikadnlhekaaDoorRef2
namespace Go.Proofs.YtfjiikadnlhekaaDoor
open Go.RowKit

theorem lay_var {L : List Var3} {k : Nat} (hk : k < L.length) {l r E : List UInt8} (h : Hid (l ++ ((L.drop k).flatMap encVar ++ r) = E)) :
    Hid (l ++ (num (sgn (L[k]).1) ++ (num (sgn (L[k]).2.1) ++ (num (sgn (L[k]).2.2) ++ ((L.drop (k + 1)).flatMap encVar ++ r)))) = E) := by
  have h := h.out
  rw [List.drop_eq_getElem_cons hk, List.flatMap_cons, List.append_assoc] at h
  have e : encVar L[k] = num (sgn (L[k]).1) ++ (num (sgn (L[k]).2.1) ++ num (sgn (L[k]).2.2)) := rfl
  rw [e, List.append_assoc, List.append_assoc] at h
  exact Lib.hid h
theorem lay_elem {α : Type} {enc : α → List UInt8} {L : List α} {j : Nat} (hj : j < L.length) {l r E : List UInt8} (h : Hid (l ++ ((L.drop j).flatMap enc ++ r) = E)) : Hid (l ++ (enc L[j] ++ ((L.drop (j + 1)).flatMap enc ++ r)) = E) := by
  have h := h.out
  rw [List.drop_eq_getElem_cons hj, List.flatMap_cons, List.append_assoc] at h
  exact Lib.hid h
theorem lay_beyond {α : Type} {enc : α → List UInt8} {L : List α} {j : Nat} (hj : L.length ≤ j) {l r E : List UInt8} (h : Hid (l ++ ((L.drop j).flatMap enc ++ r) = E)) : Hid (l ++ ((L.drop (j + 1)).flatMap enc ++ r) = E) := by
  have h := h.out
  rw [List.drop_eq_nil_of_le hj] at h
  exact Lib.hid (by rw [List.drop_eq_nil_of_le (by omega)]; exact h)

set_option maxHeartbeats 8000000 in
set_option maxRecDepth 100000 in
theorem rencode_ok (s : Spots) (P : Prg) (w : World) (hP : PAt w s P) (hok : checkErr P = 0) : Calls Tryd.prog 15 #[pval s P] w (EncPost P w) := by
  obtain ⟨fA, hbA⟩ := one_block w s P 27
  unfold pcells at fA hbA
  have x0 := fA.f0
  have x1 := fA.f1
  have x2 := fA.f2
  have x3 := fA.f3
  have x4 := fA.f4
  have x5 := fA.f5
  generalize hA : w.alloc (.cells #[.slice s.a0 P.ghost.length s.c0, .slice s.a1 P.vars.length s.c1, .slice s.a2 P.tags.length s.c2, .slice s.a3 P.on.length s.c3, .int .i64 P.miss, .slice s.a4 P.code.length s.c4] 27) = wA at *
  have hck := rcheck_any s P wA (hP.below hbA)
  rw [hok] at hck
  have HOK := Lib.hid (ok_of P hok)
  have HE := Lib.hid (enc_short P hok).1
  have hL := (ok_of P hok).lens
  unfold lensOk at hL
  obtain ⟨g0, g1, g2, g3, g4⟩ := hL
  have g3' : P.on.length ≤ 16 := by omega
  unfold pval at hck ⊢
  have FA := Lib.hid fA
  have HP := Lib.hid (hP.below hbA)
  have HBW := Lib.hid hbA
  have HA := Lib.hid hA
  clear hP fA hbA hok g3 hA
  go_enter Tryd.func15, Tryd.ntmps15
  go_wp2_with fail
  rw [HA.out]
  refine hck.mono ?_
  rintro e w1 ⟨rfl, hb1⟩
  have HB1 := Lib.hid hb1
  have hz1 : wA.heap.size ≤ w1.heap.size := hb1.size
  have HO0 : Hid (Out w1.heap.size (w1.alloc (.cells #[.int .u8 87] 5)) w1.heap.size 1 [87]) := Lib.hid (out_one w1 87)
  have HB0 : Hid (Below w1.heap.size w1 (w1.alloc (.cells #[.int .u8 87] 5))) := Lib.hid ((Below.refl _ w1).alloc (Nat.le_refl _) _)
  have y0 := (FA.out.below (HB1.out.trans (HB0.out.mono hz1))).f0
  have HLAY0 : Hid ([87] ++ (num P.ghost.length ++ eGhost P) = encB P) := Lib.hid (encB_eq P)
  clear x0 x1 x2 x3 x4 x5 hck hb1
  go_wp2_with fail
  refine (rnum_any P.ghost.length (by omega) _).mono ?_
  rintro e waA ⟨vaA, rfl, hnA, hbA⟩
  have HOaA := Lib.hid (HO0.out.below hbA)
  have HBaA := Lib.hid (HB0.out.trans (hbA.mono HB0.out.size))
  have hzaA : w1.heap.size ≤ waA.heap.size := HBaA.out.size
  have hllA := lay_le HLAY0 _ HE.out
  have hnsA := num_short (P.ghost.length)
  clear hbA
  go_wp2_with (at_builtin; go_loud (refine wpList_put rfl _ _ rfl w1.heap.size w1.heap.size 1 [87] (num (P.ghost.length)) vaA _ rfl HOaA.out rfl hnA (num_pos _) ?paA hzaA ?_))
  case paA => omega
  intro gA cA wbA hOA hPA
  have HBA := Lib.hid (HBaA.out.trans (hPA.below HOaA.out.at.1 hzaA))
  obtain ⟨lA, hlA⟩ : ∃ lA, lA = 87 :: num P.ghost.length := ⟨_, rfl⟩
  rw [← hlA] at hOA
  rw [show (num P.ghost.length).length + 1 = lA.length by rw [hlA]; simp]
  have HOA := Lib.hid hOA
  have HLYA : Hid ((87 :: num P.ghost.length) ++ eGhost P = encB P) := lay_app HLAY0
  rw [← hlA] at HLYA
  have hzA : w1.heap.size ≤ wbA.heap.size := HBA.out.size
  clear hOA hPA hnA hlA hllA hnsA HOaA HBaA 
  have HLS := lay_start (L := P.ghost) (enc := fun b => [flagB b]) HLYA
  clear y0 HLYA HO0 HB0 HLAY0
  have y0 := (FA.out.below (HB1.out.trans (HBA.out.mono hz1))).f0
  go_wp2
  clear y0
  go_loopw [5, 6] (fun oo ii wr => ∃ (j : Nat) (l : List UInt8) (g cap : Nat), j ≤ P.ghost.length ∧ ii = .int .i64 (j : Int) ∧ oo = .slice (some ⟨g, 0, none⟩) l.length cap ∧ Hid (l ++ ((P.ghost.drop j).flatMap (fun b => [flagB b]) ++ (num P.vars.length ++ eVars P)) = encB P) ∧ Hid (Out w1.heap.size wr g cap l) ∧ Hid (Below w1.heap.size w1 wr)) (fun _ ii _ => P.ghost.length + 1 - (intOf ii).toNat)
  case atStart => exact ⟨0, lA, gA, cA, Nat.zero_le _, rfl, rfl, HLS, HOA, HBA⟩
  case round =>
    clear HLS HOA HBA
    obtain ⟨j, l, g, cap, hj, rfl, rfl, HLAY, HO, HB⟩ := hrel
    have y0 := (FA.out.below (HB1.out.trans (HB.out.mono hz1))).f0
    by_cases hlt : j < P.ghost.length
    case pos =>
      obtain ⟨a, ha, hca⟩ := (HP.out.below (HB1.out.trans (HB.out.mono hz1))).ghost.at j (by rw [bools_length]; exact hlt)
      simp only [bools, List.getElem_map] at hca
      have HEL := lay_elem hlt HLAY
      generalize P.ghost[j] = gb at *
      rw [ha] at y0
      clear HLAY ha
      cases gb
      · have HOaF : Hid (Out w1.heap.size (wr.alloc (.cells #[.int .u8 0] 5)) g cap l) := Lib.hid (HO.out.below ((Below.refl _ wr).alloc (Nat.le_refl _) _))
        have hnF : (wr.alloc (.cells #[.int .u8 0] 5)).ownsRow wr.heap.size 5 1 (.slice (some ⟨wr.heap.size, 0, none⟩) 1 1) ([0] : List UInt8).length (bcells [0]) := out_one wr 0
        have hzwF : w1.heap.size ≤ wr.heap.size := HB.out.size
        have HBaF : Hid (Below w1.heap.size w1 (wr.alloc (.cells #[.int .u8 0] 5))) := Lib.hid (HB.out.alloc hzwF _)
        have hzaF : w1.heap.size ≤ (wr.alloc (.cells #[.int .u8 0] 5)).heap.size := HBaF.out.size
        have hllF := lay_le HEL _ HE.out
        go_wp2_with (at_builtin; go_loud (refine wpList_put rfl _ _ rfl w1.heap.size g cap l [0] (.slice (some ⟨wr.heap.size, 0, none⟩) 1 1) wr.heap.size rfl HOaF.out rfl hnF (by decide) ?paF hzaF ?_))
        case paF => simp; omega
        intro gF cF wbF hOF hPF
        have HBF := Lib.hid (HBaF.out.trans (hPF.below HOaF.out.at.1 hzaF))
        obtain ⟨lF, hlF⟩ : ∃ lF, lF = l ++ [0] := ⟨_, rfl⟩
        rw [← hlF] at hOF
        rw [show l.length + 1 = lF.length by rw [hlF]; simp]
        have HOF := Lib.hid hOF
        have HLYF := lay_app (x := [0]) HEL
        rw [← hlF] at HLYF
        have hzF : w1.heap.size ≤ wbF.heap.size := HBF.out.size
        clear hOF hPF hnF hlF hllF HOaF HBaF hzaF hzwF
        clear HEL
        go_wp2
        go_roundw
        case rel => exact ⟨j + 1, lF, gF, cF, by omega, by go_num, rfl, HLYF, HOF, HBF⟩
        case measure => simp [intOf]; omega
      · have HOaT : Hid (Out w1.heap.size (wr.alloc (.cells #[.int .u8 1] 5)) g cap l) := Lib.hid (HO.out.below ((Below.refl _ wr).alloc (Nat.le_refl _) _))
        have hnT : (wr.alloc (.cells #[.int .u8 1] 5)).ownsRow wr.heap.size 5 1 (.slice (some ⟨wr.heap.size, 0, none⟩) 1 1) ([1] : List UInt8).length (bcells [1]) := out_one wr 1
        have hzwT : w1.heap.size ≤ wr.heap.size := HB.out.size
        have HBaT : Hid (Below w1.heap.size w1 (wr.alloc (.cells #[.int .u8 1] 5))) := Lib.hid (HB.out.alloc hzwT _)
        have hzaT : w1.heap.size ≤ (wr.alloc (.cells #[.int .u8 1] 5)).heap.size := HBaT.out.size
        have hllT := lay_le HEL _ HE.out
        go_wp2_with (at_builtin; go_loud (refine wpList_put rfl _ _ rfl w1.heap.size g cap l [1] (.slice (some ⟨wr.heap.size, 0, none⟩) 1 1) wr.heap.size rfl HOaT.out rfl hnT (by decide) ?paT hzaT ?_))
        case paT => simp; omega
        intro gT cT wbT hOT hPT
        have HBT := Lib.hid (HBaT.out.trans (hPT.below HOaT.out.at.1 hzaT))
        obtain ⟨lT, hlT⟩ : ∃ lT, lT = l ++ [1] := ⟨_, rfl⟩
        rw [← hlT] at hOT
        rw [show l.length + 1 = lT.length by rw [hlT]; simp]
        have HOT := Lib.hid hOT
        have HLYT := lay_app (x := [1]) HEL
        rw [← hlT] at HLYT
        have hzT : w1.heap.size ≤ wbT.heap.size := HBT.out.size
        clear hOT hPT hnT hlT hllT HOaT HBaT hzaT hzwT
        clear HEL
        go_wp2
        go_roundw
        case rel => exact ⟨j + 1, lT, gT, cT, by omega, by go_num, rfl, HLYT, HOT, HBT⟩
        case measure => simp [intOf]; omega
    obtain rfl : j = P.ghost.length := by omega
    have HLD := lay_done HLAY
    have y1 := (FA.out.below (HB1.out.trans (HB.out.mono hz1))).f1
    clear HLAY hlt hj
    go_wp2_with fail
    refine (rnum_any P.vars.length (by omega) _).mono ?_
    rintro e waB ⟨vaB, rfl, hnB, hbB⟩
    have HOaB := Lib.hid (HO.out.below hbB)
    have HBaB := Lib.hid (HB.out.trans (hbB.mono HB.out.size))
    have hzaB : w1.heap.size ≤ waB.heap.size := HBaB.out.size
    have hllB := lay_le HLD _ HE.out
    have hnsB := num_short (P.vars.length)
    clear hbB
    go_wp2_with (at_builtin; go_loud (refine wpList_put rfl _ _ rfl w1.heap.size g cap l (num (P.vars.length)) vaB _ rfl HOaB.out rfl hnB (num_pos _) ?paB hzaB ?_))
    case paB => omega
    intro gB cB wbB hOB hPB
    have HBB := Lib.hid (HBaB.out.trans (hPB.below HOaB.out.at.1 hzaB))
    obtain ⟨lB, hlB⟩ : ∃ lB, lB = l ++ num (P.vars.length) := ⟨_, rfl⟩
    rw [← hlB] at hOB
    rw [show l.length + (num (P.vars.length)).length = lB.length by rw [hlB]; simp]
    have HOB := Lib.hid hOB
    have HLYB := lay_app HLD
    rw [← hlB] at HLYB
    have hzB : w1.heap.size ≤ wbB.heap.size := HBB.out.size
    clear hOB hPB hnB hlB hllB hnsB HOaB HBaB 
    have HLS := lay_start (L := P.vars) (enc := encVar) HLYB
    clear y0 y1 HLYB HO HB HLD
    have y1 := (FA.out.below (HB1.out.trans (HBB.out.mono hz1))).f1
    go_wp2
    clear y1
    go_loopw [5, 7] (fun oo ii wr => ∃ (j : Nat) (l : List UInt8) (g cap : Nat), j ≤ P.vars.length ∧ ii = .int .i64 (j : Int) ∧ oo = .slice (some ⟨g, 0, none⟩) l.length cap ∧ Hid (l ++ ((P.vars.drop j).flatMap encVar ++ (num P.tags.length ++ eTags P)) = encB P) ∧ Hid (Out w1.heap.size wr g cap l) ∧ Hid (Below w1.heap.size w1 wr)) (fun _ ii _ => P.vars.length + 1 - (intOf ii).toNat)
    case atStart => exact ⟨0, lB, gB, cB, Nat.zero_le _, rfl, rfl, HLS, HOB, HBB⟩
    case round =>
      clear HLS HOB HBB
      obtain ⟨j, l, g, cap, hj, rfl, rfl, HLAY, HO, HB⟩ := hrel
      have y1 := (FA.out.below (HB1.out.trans (HB.out.mono hz1))).f1
      by_cases hlt : j < P.vars.length
      case pos =>
        obtain ⟨a, ha, hca⟩ := (HP.out.below (HB1.out.trans (HB.out.mono hz1))).vars.row 3 (fun _ => rfl) (by decide) j hlt
        have HEL := lay_var hlt HLAY
        have hov := HOK.out.vars _ (List.getElem_mem hlt)
        generalize P.vars[j] = v at *
        obtain ⟨u0, u1, u2⟩ := v
        unfold nearI at hov
        obtain ⟨ho0, ho1, ho2⟩ := hov
        have a0 : wr.cell? (a.add (j * 3)) = some (.int .i64 u0) := by have h := hca 0 _ rfl; rwa [add_zero'] at h
        have a1 : wr.cell? ⟨(a.add (j * 3)).block, (a.add (j * 3)).off + 1, none⟩ = some (.int .i64 u1) := by have h := hca 1 _ rfl; rwa [add_pos' _ _ (by decide)] at h
        have a2 : wr.cell? ⟨(a.add (j * 3)).block, (a.add (j * 3)).off + 2, none⟩ = some (.int .i64 u2) := by have h := hca 2 _ rfl; rwa [add_pos' _ _ (by decide)] at h
        rw [ha] at y1
        have hgl : g < wr.heap.size := HO.out.at.2
        have hwz : w1.heap.size ≤ wr.heap.size := HB.out.size
        have KX : Hid (Kp (wr.alloc (.cells #[.int .i64 u0, .int .i64 u1, .int .i64 u2] 70)) g wr.heap.size (.cells #[.int .i64 u0, .int .i64 u1, .int .i64 u2] 70 (0, 0))) := Lib.hid ⟨(MapKept.heap_alloc wr _).1, by omega⟩
        have HOx := Lib.hid (HO.out.below ((Below.refl _ wr).alloc (Nat.le_refl _) (.cells #[.int .i64 u0, .int .i64 u1, .int .i64 u2] 70)))
        have HBx := Lib.hid (HB.out.alloc hwz (.cells #[.int .i64 u0, .int .i64 u1, .int .i64 u2] 70))
        clear HLAY ha hca HO HB hgl
        simp only at HEL
        go_wp2_with fail
        generalize wr.alloc (.cells #[.int .i64 u0, .int .i64 u1, .int .i64 u2] 70) = wx at *
        generalize wr.heap.size = xb at *
        refine (rsigned_any u0 (by omega) _).mono ?_
        rintro e wq ⟨rfl, rfl⟩
        clear a0 a1 a2 y1
        go_wp2_with fail
        refine (rnum_any (sgn u0) (by unfold sgn; split <;> omega) _).mono ?_
        rintro e waG ⟨vaG, rfl, hnG, hbG⟩
        have HOaG := Lib.hid (HOx.out.below hbG)
        have HBaG := Lib.hid (HBx.out.trans (hbG.mono HBx.out.size))
        have KXaG := Lib.hid (KX.out.below hbG)
        have hzaG : w1.heap.size ≤ waG.heap.size := HBaG.out.size
        have hllG := lay_le HEL _ HE.out
        have hnsG := num_short (sgn u0)
        clear hbG
        go_wp2_with (at_builtin; go_loud (refine wpList_put rfl _ _ rfl w1.heap.size g cap l (num (sgn u0)) vaG _ rfl HOaG.out rfl hnG (num_pos _) ?paG hzaG ?_))
        case paG => omega
        intro gG cG wbG hOG hPG
        have HBG := Lib.hid (HBaG.out.trans (hPG.below HOaG.out.at.1 hzaG))
        have KXG := Lib.hid (KXaG.out.put hPG)
        obtain ⟨lG, hlG⟩ : ∃ lG, lG = l ++ num (sgn u0) := ⟨_, rfl⟩
        rw [← hlG] at hOG
        rw [show l.length + (num (sgn u0)).length = lG.length by rw [hlG]; simp]
        have HOG := Lib.hid hOG
        have HLYG := lay_app HEL
        rw [← hlG] at HLYG
        have hzG : w1.heap.size ≤ wbG.heap.size := HBG.out.size
        clear hOG hPG hnG hlG hllG hnsG HOaG HBaG KXaG
        clear HOx HBx KX HEL
        have d1 := cell_at KXG.out.1 1
        go_wp2_with fail
        refine (rsigned_any u1 (by omega) _).mono ?_
        rintro e wq ⟨rfl, rfl⟩
        clear d1
        go_wp2_with fail
        refine (rnum_any (sgn u1) (by unfold sgn; split <;> omega) _).mono ?_
        rintro e waH ⟨vaH, rfl, hnH, hbH⟩
        have HOaH := Lib.hid (HOG.out.below hbH)
        have HBaH := Lib.hid (HBG.out.trans (hbH.mono HBG.out.size))
        have KXaH := Lib.hid (KXG.out.below hbH)
        have hzaH : w1.heap.size ≤ waH.heap.size := HBaH.out.size
        have hllH := lay_le HLYG _ HE.out
        have hnsH := num_short (sgn u1)
        clear hbH
        go_wp2_with (at_builtin; go_loud (refine wpList_put rfl _ _ rfl w1.heap.size gG cG lG (num (sgn u1)) vaH _ rfl HOaH.out rfl hnH (num_pos _) ?paH hzaH ?_))
        case paH => omega
        intro gH cH wbH hOH hPH
        have HBH := Lib.hid (HBaH.out.trans (hPH.below HOaH.out.at.1 hzaH))
        have KXH := Lib.hid (KXaH.out.put hPH)
        obtain ⟨lH, hlH⟩ : ∃ lH, lH = lG ++ num (sgn u1) := ⟨_, rfl⟩
        rw [← hlH] at hOH
        rw [show lG.length + (num (sgn u1)).length = lH.length by rw [hlH]; simp]
        have HOH := Lib.hid hOH
        have HLYH := lay_app HLYG
        rw [← hlH] at HLYH
        have hzH : w1.heap.size ≤ wbH.heap.size := HBH.out.size
        clear hOH hPH hnH hlH hllH hnsH HOaH HBaH KXaH
        clear HOG HBG KXG HLYG
        have d2 := cell_at KXH.out.1 2
        go_wp2_with fail
        refine (rsigned_any u2 (by omega) _).mono ?_
        rintro e wq ⟨rfl, rfl⟩
        clear d2
        go_wp2_with fail
        refine (rnum_any (sgn u2) (by unfold sgn; split <;> omega) _).mono ?_
        rintro e waI ⟨vaI, rfl, hnI, hbI⟩
        have HOaI := Lib.hid (HOH.out.below hbI)
        have HBaI := Lib.hid (HBH.out.trans (hbI.mono HBH.out.size))
        have KXaI := Lib.hid (KXH.out.below hbI)
        have hzaI : w1.heap.size ≤ waI.heap.size := HBaI.out.size
        have hllI := lay_le HLYH _ HE.out
        have hnsI := num_short (sgn u2)
        clear hbI
        go_wp2_with (at_builtin; go_loud (refine wpList_put rfl _ _ rfl w1.heap.size gH cH lH (num (sgn u2)) vaI _ rfl HOaI.out rfl hnI (num_pos _) ?paI hzaI ?_))
        case paI => omega
        intro gI cI wbI hOI hPI
        have HBI := Lib.hid (HBaI.out.trans (hPI.below HOaI.out.at.1 hzaI))
        have KXI := Lib.hid (KXaI.out.put hPI)
        obtain ⟨lI, hlI⟩ : ∃ lI, lI = lH ++ num (sgn u2) := ⟨_, rfl⟩
        rw [← hlI] at hOI
        rw [show lH.length + (num (sgn u2)).length = lI.length by rw [hlI]; simp]
        have HOI := Lib.hid hOI
        have HLYI := lay_app HLYH
        rw [← hlI] at HLYI
        have hzI : w1.heap.size ≤ wbI.heap.size := HBI.out.size
        clear hOI hPI hnI hlI hllI hnsI HOaI HBaI KXaI
        clear HOH HBH KXH HLYH
        go_wp2
        go_roundw
        case rel => exact ⟨j + 1, lI, gI, cI, by omega, by go_num, rfl, HLYI, HOI, HBI⟩
        case measure => simp [intOf]; omega
      obtain rfl : j = P.vars.length := by omega
      have HLD := lay_done HLAY
      have y2 := (FA.out.below (HB1.out.trans (HB.out.mono hz1))).f2
      clear HLAY hlt hj
      go_wp2_with fail
      refine (rnum_any P.tags.length (by omega) _).mono ?_
      rintro e waC ⟨vaC, rfl, hnC, hbC⟩
      have HOaC := Lib.hid (HO.out.below hbC)
      have HBaC := Lib.hid (HB.out.trans (hbC.mono HB.out.size))
      have hzaC : w1.heap.size ≤ waC.heap.size := HBaC.out.size
      have hllC := lay_le HLD _ HE.out
      have hnsC := num_short (P.tags.length)
      clear hbC
      go_wp2_with (at_builtin; go_loud (refine wpList_put rfl _ _ rfl w1.heap.size g cap l (num (P.tags.length)) vaC _ rfl HOaC.out rfl hnC (num_pos _) ?paC hzaC ?_))
      case paC => omega
      intro gC cC wbC hOC hPC
      have HBC := Lib.hid (HBaC.out.trans (hPC.below HOaC.out.at.1 hzaC))
      obtain ⟨lC, hlC⟩ : ∃ lC, lC = l ++ num (P.tags.length) := ⟨_, rfl⟩
      rw [← hlC] at hOC
      rw [show l.length + (num (P.tags.length)).length = lC.length by rw [hlC]; simp]
      have HOC := Lib.hid hOC
      have HLYC := lay_app HLD
      rw [← hlC] at HLYC
      have hzC : w1.heap.size ≤ wbC.heap.size := HBC.out.size
      clear hOC hPC hnC hlC hllC hnsC HOaC HBaC 
      have HLS := lay_start (L := P.tags) (enc := fun t => num t.toNat) HLYC
      clear y1 y2 HLYC HO HB HLD
      have y2 := (FA.out.below (HB1.out.trans (HBC.out.mono hz1))).f2
      go_wp2
      clear y2
      go_loopw [5, 9] (fun oo ii wr => ∃ (j : Nat) (l : List UInt8) (g cap : Nat), j ≤ P.tags.length ∧ ii = .int .i64 (j : Int) ∧ oo = .slice (some ⟨g, 0, none⟩) l.length cap ∧ Hid (l ++ ((P.tags.drop j).flatMap (fun t => num t.toNat) ++ eOn P) = encB P) ∧ Hid (Out w1.heap.size wr g cap l) ∧ Hid (Below w1.heap.size w1 wr)) (fun _ ii _ => P.tags.length + 1 - (intOf ii).toNat)
      case atStart => exact ⟨0, lC, gC, cC, Nat.zero_le _, rfl, rfl, HLS, HOC, HBC⟩
      case round =>
        clear HLS HOC HBC
        obtain ⟨j, l, g, cap, hj, rfl, rfl, HLAY, HO, HB⟩ := hrel
        have y2 := (FA.out.below (HB1.out.trans (HB.out.mono hz1))).f2
        by_cases hlt : j < P.tags.length
        case pos =>
          obtain ⟨a, ha, hca⟩ := (HP.out.below (HB1.out.trans (HB.out.mono hz1))).tags.at j (by rw [nums_length]; exact hlt)
          simp only [nums, List.getElem_map] at hca
          have HEL := lay_elem hlt HLAY
          have hot := HOK.out.tags _ (List.getElem_mem hlt)
          generalize P.tags[j] = v at *
          rw [ha] at y2
          have hnum := fun wz => rnum_any v.toNat (by omega) wz
          rw [show ((v.toNat : Nat) : Int) = v by omega] at hnum
          have ewu : IntKind.u64.wrap v = v := IntWalk.u64_in _ (by omega)
          clear HLAY ha
          go_wp2_with fail
          clear ewu
          refine (hnum _).mono ?_
          rintro e waD ⟨vaD, rfl, hnD, hbD⟩
          have HOaD := Lib.hid (HO.out.below hbD)
          have HBaD := Lib.hid (HB.out.trans (hbD.mono HB.out.size))
          have hzaD : w1.heap.size ≤ waD.heap.size := HBaD.out.size
          have hllD := lay_le HEL _ HE.out
          have hnsD := num_short (v.toNat)
          clear hbD
          go_wp2_with (at_builtin; go_loud (refine wpList_put rfl _ _ rfl w1.heap.size g cap l (num (v.toNat)) vaD _ rfl HOaD.out rfl hnD (num_pos _) ?paD hzaD ?_))
          case paD => omega
          intro gD cD wbD hOD hPD
          have HBD := Lib.hid (HBaD.out.trans (hPD.below HOaD.out.at.1 hzaD))
          obtain ⟨lD, hlD⟩ : ∃ lD, lD = l ++ num (v.toNat) := ⟨_, rfl⟩
          rw [← hlD] at hOD
          rw [show l.length + (num (v.toNat)).length = lD.length by rw [hlD]; simp]
          have HOD := Lib.hid hOD
          have HLYD := lay_app HEL
          rw [← hlD] at HLYD
          have hzD : w1.heap.size ≤ wbD.heap.size := HBD.out.size
          clear hOD hPD hnD hlD hllD hnsD HOaD HBaD 
          clear HO HB HEL y2 hca hnum
          go_wp2
          go_roundw
          case rel => exact ⟨j + 1, lD, gD, cD, by omega, by go_num, rfl, HLYD, HOD, HBD⟩
          case measure => simp [intOf]; omega
        obtain rfl : j = P.tags.length := by omega
        have HLD := lay_start (L := P.on) (enc := fun a => num (a + 1).toNat) (lay_done HLAY)
        have y3 := (FA.out.below (HB1.out.trans (HB.out.mono hz1))).f3
        clear HLAY hlt hj
        go_wp2
        clear y2 y3
        go_loopw [5, 10] (fun oo ii wr => ∃ (j : Nat) (l : List UInt8) (g cap : Nat), j ≤ P.on.length ∧ ii = .int .i64 (j : Int) ∧ oo = .slice (some ⟨g, 0, none⟩) l.length cap ∧ Hid (l ++ ((P.on.drop j).flatMap (fun a => num (a + 1).toNat) ++ (num (P.miss + 1).toNat ++ (num P.code.length ++ eCode P))) = encB P) ∧ Hid (Out w1.heap.size wr g cap l) ∧ Hid (Below w1.heap.size w1 wr)) (fun _ ii _ => P.on.length + 1 - (intOf ii).toNat)
        case atStart => exact ⟨0, l, g, cap, Nat.zero_le _, rfl, rfl, HLD, HO, HB⟩
        case round =>
          clear HLD HO HB
          obtain ⟨j, l, g, cap, hj, rfl, rfl, HLAY, HO, HB⟩ := hrel
          have y3 := (FA.out.below (HB1.out.trans (HB.out.mono hz1))).f3
          by_cases hlt : j < P.on.length
          case pos =>
            obtain ⟨a, ha, hca⟩ := (HP.out.below (HB1.out.trans (HB.out.mono hz1))).on.at j (by rw [nums_length]; exact hlt)
            simp only [nums, List.getElem_map] at hca
            have HEL := lay_elem hlt HLAY
            have hot := HOK.out.on _ (List.getElem_mem hlt)
            generalize P.on[j] = v at *
            rw [ha] at y3
            have hnum := fun wz => rnum_any (v + 1).toNat (by omega) wz
            rw [show (((v + 1).toNat : Nat) : Int) = v + 1 by omega] at hnum
            have ewu : IntKind.u64.wrap (v + 1) = v + 1 := IntWalk.u64_in _ (by omega)
            clear HLAY ha
            go_wp2_with fail
            clear ewu
            refine (hnum _).mono ?_
            rintro e waE ⟨vaE, rfl, hnE, hbE⟩
            have HOaE := Lib.hid (HO.out.below hbE)
            have HBaE := Lib.hid (HB.out.trans (hbE.mono HB.out.size))
            have hzaE : w1.heap.size ≤ waE.heap.size := HBaE.out.size
            have hllE := lay_le HEL _ HE.out
            have hnsE := num_short ((v + 1).toNat)
            clear hbE
            go_wp2_with (at_builtin; go_loud (refine wpList_put rfl _ _ rfl w1.heap.size g cap l (num ((v + 1).toNat)) vaE _ rfl HOaE.out rfl hnE (num_pos _) ?paE hzaE ?_))
            case paE => omega
            intro gE cE wbE hOE hPE
            have HBE := Lib.hid (HBaE.out.trans (hPE.below HOaE.out.at.1 hzaE))
            obtain ⟨lE, hlE⟩ : ∃ lE, lE = l ++ num ((v + 1).toNat) := ⟨_, rfl⟩
            rw [← hlE] at hOE
            rw [show l.length + (num ((v + 1).toNat)).length = lE.length by rw [hlE]; simp]
            have HOE := Lib.hid hOE
            have HLYE := lay_app HEL
            rw [← hlE] at HLYE
            have hzE : w1.heap.size ≤ wbE.heap.size := HBE.out.size
            clear hOE hPE hnE hlE hllE hnsE HOaE HBaE 
            clear HO HB HEL y3 hca hnum
            go_wp2
            go_roundw
            case rel => exact ⟨j + 1, lE, gE, cE, by omega, by go_num, rfl, HLYE, HOE, HBE⟩
            case measure => simp [intOf]; omega
          obtain rfl : j = P.on.length := by omega
          have HLD := lay_done HLAY
          have y4 := (FA.out.below (HB1.out.trans (HB.out.mono hz1))).f4
          have hmi := HOK.out.miss
          have hnum := fun wz => rnum_any (P.miss + 1).toNat (by omega) wz
          rw [show (((P.miss + 1).toNat : Nat) : Int) = P.miss + 1 by omega] at hnum
          have ewu : IntKind.u64.wrap (P.miss + 1) = P.miss + 1 := IntWalk.u64_in _ (by omega)
          clear HLAY hlt hj
          go_wp2_with fail
          clear ewu
          refine (hnum _).mono ?_
          rintro e waJ ⟨vaJ, rfl, hnJ, hbJ⟩
          have HOaJ := Lib.hid (HO.out.below hbJ)
          have HBaJ := Lib.hid (HB.out.trans (hbJ.mono HB.out.size))
          have hzaJ : w1.heap.size ≤ waJ.heap.size := HBaJ.out.size
          have hllJ := lay_le HLD _ HE.out
          have hnsJ := num_short ((P.miss + 1).toNat)
          clear hbJ
          go_wp2_with (at_builtin; go_loud (refine wpList_put rfl _ _ rfl w1.heap.size g cap l (num ((P.miss + 1).toNat)) vaJ _ rfl HOaJ.out rfl hnJ (num_pos _) ?paJ hzaJ ?_))
          case paJ => omega
          intro gJ cJ wbJ hOJ hPJ
          have HBJ := Lib.hid (HBaJ.out.trans (hPJ.below HOaJ.out.at.1 hzaJ))
          obtain ⟨lJ, hlJ⟩ : ∃ lJ, lJ = l ++ num ((P.miss + 1).toNat) := ⟨_, rfl⟩
          rw [← hlJ] at hOJ
          rw [show l.length + (num ((P.miss + 1).toNat)).length = lJ.length by rw [hlJ]; simp]
          have HOJ := Lib.hid hOJ
          have HLYJ := lay_app HLD
          rw [← hlJ] at HLYJ
          have hzJ : w1.heap.size ≤ wbJ.heap.size := HBJ.out.size
          clear hOJ hPJ hnJ hlJ hllJ hnsJ HOaJ HBaJ 
          clear HO HB HLD y3 y4 hnum
          have y5 := (FA.out.below (HB1.out.trans (HBJ.out.mono hz1))).f5
          go_wp2_with fail
          refine (rnum_any P.code.length (by omega) _).mono ?_
          rintro e waK ⟨vaK, rfl, hnK, hbK⟩
          have HOaK := Lib.hid (HOJ.out.below hbK)
          have HBaK := Lib.hid (HBJ.out.trans (hbK.mono HBJ.out.size))
          have hzaK : w1.heap.size ≤ waK.heap.size := HBaK.out.size
          have hllK := lay_le HLYJ _ HE.out
          have hnsK := num_short (P.code.length)
          clear hbK
          go_wp2_with (at_builtin; go_loud (refine wpList_put rfl _ _ rfl w1.heap.size gJ cJ lJ (num (P.code.length)) vaK _ rfl HOaK.out rfl hnK (num_pos _) ?paK hzaK ?_))
          case paK => omega
          intro gK cK wbK hOK hPK
          have HBK := Lib.hid (HBaK.out.trans (hPK.below HOaK.out.at.1 hzaK))
          obtain ⟨lK, hlK⟩ : ∃ lK, lK = lJ ++ num (P.code.length) := ⟨_, rfl⟩
          rw [← hlK] at hOK
          rw [show lJ.length + (num (P.code.length)).length = lK.length by rw [hlK]; simp]
          have HOK2 := Lib.hid hOK
          have HLYK := lay_app HLYJ
          rw [← hlK] at HLYK
          have hzK : w1.heap.size ≤ wbK.heap.size := HBK.out.size
          clear hOK hPK hnK hlK hllK hnsK HOaK HBaK 
          clear HOJ HBJ HLYJ y5
          go_wp2_with fail
          refine (table_any _).mono ?_
          rintro e w2 ⟨gt, rfl, hgt, htab, hb2⟩
          have KT : Hid (Kp w2 gK gt (.cells tableCells 96 (0, 0))) := Lib.hid ⟨htab, by have := HOK2.out.at.2; omega⟩
          have HO2 := Lib.hid (HOK2.out.below hb2)
          have HB2 := Lib.hid (HBK.out.trans (hb2.mono HBK.out.size))
          have HLS : Hid (lK ++ ((P.code.drop 0).flatMap encIns ++ []) = encB P) := lay_start HLYK
          clear HOK2 HBK hb2 htab HLYK
          have y5 := (FA.out.below (HB1.out.trans (HB2.out.mono hz1))).f5
          go_wp2
          clear y5
          go_loopw [5, 12] (fun oo ii wr => ∃ (j : Nat) (l : List UInt8) (g cap : Nat), j ≤ P.code.length ∧ ii = .int .i64 (j : Int) ∧ oo = .slice (some ⟨g, 0, none⟩) l.length cap ∧ Hid (l ++ ((P.code.drop j).flatMap encIns ++ []) = encB P) ∧ Hid (Out w1.heap.size wr g cap l) ∧ Hid (Below w1.heap.size w1 wr) ∧ Hid (Kp wr g gt (.cells tableCells 96 (0, 0)))) (fun _ ii _ => P.code.length + 1 - (intOf ii).toNat)
          case atStart => exact ⟨0, lK, gK, cK, Nat.zero_le _, rfl, rfl, HLS, HO2, HB2, KT⟩
          case round =>
            clear HLS HO2 HB2 KT
            obtain ⟨j, l, g, cap, hj, rfl, rfl, HLAY, HO, HB, KT⟩ := hrel
            have y5 := (FA.out.below (HB1.out.trans (HB.out.mono hz1))).f5
            by_cases hlt : j < P.code.length
            case neg =>
              obtain rfl : j = P.code.length := by omega
              have HLD := lay_done HLAY
              have hE : l = encB P := by have := HLD.out; rwa [List.append_nil] at this
              have HF : Hid (EncPost P w (.returned (.tuple #[.slice (some ⟨g, 0, none⟩) l.length cap, .int .i64 0])) wr) := Lib.hid (by
                rw [hE]
                refine ⟨g, cap, rfl, ?_, HBW.out.trans ((HB1.out.trans (HB.out.mono hz1)).mono HBW.out.size)⟩
                have ho := HO.out
                unfold Out at ho
                rw [hE] at ho
                exact own_mono ho (Nat.le_trans HBW.out.size hz1))
              clear HLAY HLD hE hlt hj HO HB KT
              go_wp2
              go_ret2
              exact HF.out
            obtain ⟨a, ha, hca⟩ := (HP.out.below (HB1.out.trans (HB.out.mono hz1))).code.row 5 (fun _ => rfl) (by decide) j hlt
            have HMO := lay_ins hlt HLAY
            have hoi := HOK.out.code _ (List.getElem_mem hlt)
            generalize P.code[j] = v at *
            obtain ⟨p0, p1, p2, p3, p4⟩ := v
            have a0 : wr.cell? (a.add (j * 5)) = some (.int .i64 p0) := by have h := hca 0 _ rfl; rwa [add_zero'] at h
            have a1 : wr.cell? ⟨(a.add (j * 5)).block, (a.add (j * 5)).off + 1, none⟩ = some (.int .i64 p1) := by have h := hca 1 _ rfl; rwa [add_pos' _ _ (by decide)] at h
            have a2 : wr.cell? ⟨(a.add (j * 5)).block, (a.add (j * 5)).off + 2, none⟩ = some (.int .i64 p2) := by have h := hca 2 _ rfl; rwa [add_pos' _ _ (by decide)] at h
            have a3 : wr.cell? ⟨(a.add (j * 5)).block, (a.add (j * 5)).off + 3, none⟩ = some (.int .i64 p3) := by have h := hca 3 _ rfl; rwa [add_pos' _ _ (by decide)] at h
            have a4 : wr.cell? ⟨(a.add (j * 5)).block, (a.add (j * 5)).off + 4, none⟩ = some (.int .i64 p4) := by have h := hca 4 _ rfl; rwa [add_pos' _ _ (by decide)] at h
            rw [ha] at y5
            have hop := hoi.op
            obtain ⟨kop, rfl⟩ : ∃ kop : Nat, p0 = (kop : Int) := ⟨p0.toNat, by simp only at hop; omega⟩
            have hkop : kop < 42 := by simp only at hop; omega
            have hhas := hoi.has
            simp only at hhas HMO
            rw [show ((kop : Int)).toNat = kop by omega] at HMO
            have HHAS := Lib.hid hhas
            have HKD := Lib.hid (fun i hi => kinds_same kop hkop i hi)
            have hk4 := kinds_short (kop : Int)
            have hgl : g < wr.heap.size := HO.out.at.2
            have hwz : w1.heap.size ≤ wr.heap.size := HB.out.size
            have KX : Hid (Kp (wr.alloc (.cells #[.int .i64 (kop : Int), .int .i64 p1, .int .i64 p2, .int .i64 p3, .int .i64 p4] 57)) g wr.heap.size (.cells #[.int .i64 (kop : Int), .int .i64 p1, .int .i64 p2, .int .i64 p3, .int .i64 p4] 57 (0, 0))) := Lib.hid ⟨(MapKept.heap_alloc wr _).1, by omega⟩
            have KTx := Lib.hid (KT.out.below ((Below.refl _ wr).alloc (Nat.le_refl _) (.cells #[.int .i64 (kop : Int), .int .i64 p1, .int .i64 p2, .int .i64 p3, .int .i64 p4] 57)))
            have HOx := Lib.hid (HO.out.below ((Below.refl _ wr).alloc (Nat.le_refl _) (.cells #[.int .i64 (kop : Int), .int .i64 p1, .int .i64 p2, .int .i64 p3, .int .i64 p4] 57)))
            have HBx := Lib.hid (HB.out.alloc hwz (.cells #[.int .i64 (kop : Int), .int .i64 p1, .int .i64 p2, .int .i64 p3, .int .i64 p4] 57))
            clear HLAY ha hca HO HB KT hgl hhas hoi hop
            generalize kindsOf (kop : Int) = ks at *
            go_wp2_with fail
            clear a0 a1 a2 a3 a4 y5
            generalize wr.alloc (.cells #[.int .i64 (kop : Int), .int .i64 p1, .int .i64 p2, .int .i64 p3, .int .i64 p4] 57) = wx at *
            generalize wr.heap.size = xb at *
            refine (rnum_any kop (by omega) _).mono ?_
            rintro e waL ⟨vaL, rfl, hnL, hbL⟩
            have HOaL := Lib.hid (HOx.out.below hbL)
            have HBaL := Lib.hid (HBx.out.trans (hbL.mono HBx.out.size))
            have KXaL := Lib.hid (KX.out.below hbL)
            have KTxaL := Lib.hid (KTx.out.below hbL)
            have hzaL : w1.heap.size ≤ waL.heap.size := HBaL.out.size
            have hllL := lay_le HMO _ HE.out
            have hnsL := num_short (kop)
            clear hbL
            go_wp2_with (at_builtin; go_loud (refine wpList_put rfl _ _ rfl w1.heap.size g cap l (num (kop)) vaL _ rfl HOaL.out rfl hnL (num_pos _) ?paL hzaL ?_))
            case paL => omega
            intro gL cL wbL hOL hPL
            have HBL := Lib.hid (HBaL.out.trans (hPL.below HOaL.out.at.1 hzaL))
            have KXL := Lib.hid (KXaL.out.put hPL)
            have KTxL := Lib.hid (KTxaL.out.put hPL)
            obtain ⟨lL, hlL⟩ : ∃ lL, lL = l ++ num (kop) := ⟨_, rfl⟩
            rw [← hlL] at hOL
            rw [show l.length + (num (kop)).length = lL.length by rw [hlL]; simp]
            have HOL := Lib.hid hOL
            have HLYL := lay_app HMO
            rw [← hlL] at HLYL
            have hzL : w1.heap.size ≤ wbL.heap.size := HBL.out.size
            clear hOL hPL hnL hlL hllL hnsL HOaL HBaL KXaL KTxaL
            clear HOx HBx KX KTx HMO
            have d0 := cell_at KXL.out.1 0
            have d1 := cell_at KXL.out.1 1
            have d2 := cell_at KXL.out.1 2
            have d3 := cell_at KXL.out.1 3
            have d4 := cell_at KXL.out.1 4
            go_wp2_with fail
            clear d0 d1 d2 d3 d4
            refine (operands_any _ _ _ _ _ _).mono ?_
            rintro e w3 ⟨rfl, hb3⟩
            have HO3 := Lib.hid (HOL.out.below hb3)
            have KX3 := Lib.hid (KXL.out.below hb3)
            have KT3 := Lib.hid (KTxL.out.below hb3)
            have HB3 := Lib.hid (HBL.out.trans (hb3.mono HBL.out.size))
            have hg3 : gL < w3.heap.size := HO3.out.at.2
            have hz3 : w1.heap.size ≤ w3.heap.size := HB3.out.size
            have KN : Hid (Kp (w3.alloc (.cells #[.int .i64 p1, .int .i64 p2, .int .i64 p3, .int .i64 p4] 93)) gL w3.heap.size (.cells #[.int .i64 p1, .int .i64 p2, .int .i64 p3, .int .i64 p4] 93 (0, 0))) := Lib.hid ⟨(MapKept.heap_alloc w3 _).1, by omega⟩
            have KX4 := Lib.hid (KX3.out.below ((Below.refl _ w3).alloc (Nat.le_refl _) (.cells #[.int .i64 p1, .int .i64 p2, .int .i64 p3, .int .i64 p4] 93)))
            have KT4 := Lib.hid (KT3.out.below ((Below.refl _ w3).alloc (Nat.le_refl _) (.cells #[.int .i64 p1, .int .i64 p2, .int .i64 p3, .int .i64 p4] 93)))
            have HO4 := Lib.hid (HO3.out.below ((Below.refl _ w3).alloc (Nat.le_refl _) (.cells #[.int .i64 p1, .int .i64 p2, .int .i64 p3, .int .i64 p4] 93)))
            have HB4 := Lib.hid (HB3.out.alloc hz3 (.cells #[.int .i64 p1, .int .i64 p2, .int .i64 p3, .int .i64 p4] 93))
            have HLS := lay_start (L := ks.zip (opnds ((kop : Int), p1, p2, p3, p4))) (enc := encOpnd) HLYL
            have hzip : (ks.zip (opnds ((kop : Int), p1, p2, p3, p4))).length = ks.length := by rw [List.length_zip]; exact Nat.min_eq_left (by exact hk4)
            have HZIP := Lib.hid hzip
            clear HOL KXL KTxL HBL hb3 HO3 KX3 KT3 HB3 HLYL hg3 hzip
            go_wp2
            generalize w3.alloc (.cells #[.int .i64 p1, .int .i64 p2, .int .i64 p3, .int .i64 p4] 93) = w4 at *
            generalize w3.heap.size = nb at *
            have hk0 : (0 : Int) ≤ (kop : Int) := by omega
            have hk1 : (kop : Int) < 42 := by omega
            have hk2 : ¬ (kop : Int) < 0 := by omega
            have hk3 : ¬ (42 : Int) ≤ (kop : Int) := by omega
            go_loopw [5, 15] (fun oo ii wq => ∃ (i : Nat) (l : List UInt8) (g cap : Nat), i ≤ 4 ∧ ii = .int .i64 (i : Int) ∧ oo = .slice (some ⟨g, 0, none⟩) l.length cap ∧ Hid (l ++ (((ks.zip (opnds ((kop : Int), p1, p2, p3, p4))).drop i).flatMap encOpnd ++ ((P.code.drop (j + 1)).flatMap encIns ++ [])) = encB P) ∧ Hid (Out w1.heap.size wq g cap l) ∧ Hid (Below w1.heap.size w1 wq) ∧ Hid (Kp wq g xb (.cells #[.int .i64 (kop : Int), .int .i64 p1, .int .i64 p2, .int .i64 p3, .int .i64 p4] 57 (0, 0))) ∧ Hid (Kp wq g gt (.cells tableCells 96 (0, 0))) ∧ Hid (Kp wq g nb (.cells #[.int .i64 p1, .int .i64 p2, .int .i64 p3, .int .i64 p4] 93 (0, 0)))) (fun _ ii _ => 5 - (intOf ii).toNat)
            case atStart => exact ⟨0, lL, gL, cL, Nat.zero_le _, rfl, rfl, HLS, HO4, HB4, KX4, KT4, KN⟩
            case round =>
              clear HLS HO4 HB4 KX4 KT4 KN
              obtain ⟨i, l, g, cap, hi, rfl, rfl, HLAY, HO, HB, KX, KT, KN⟩ := hrel
              by_cases hi4 : i < 4
              case neg =>
                obtain rfl : i = 4 := by omega
                have HLD : Hid (l ++ ((P.code.drop (j + 1)).flatMap encIns ++ []) = encB P) := Lib.hid (by
                  have h := HLAY.out
                  rw [List.drop_eq_nil_of_le (by rw [HZIP.out]; exact hk4)] at h
                  exact h)
                clear HLAY KX KN
                go_wp2
                go_roundw
                case rel => exact ⟨j + 1, l, g, cap, by omega, by go_num, rfl, HLD, HO, HB, KT⟩
                case measure => simp [intOf]; omega
              have d0 := cell_at KX.out.1 0
              have hct0 : wr.cell? ⟨gt, kop * 5 + 1 + i, none⟩ = some (.int .i64 (tabKind kop i : Int)) := by
                rw [cell_at KT.out.1 _]
                exact cellInt_some (table_kind kop hkop i hi4)
              obtain ⟨hk, hkn, _⟩ := HKD.out i hi4
              by_cases hik : i < ks.length
              case neg =>
                rw [if_neg hik] at hk
                rw [hk] at hct0
                have HLB := lay_beyond (by rw [HZIP.out]; omega) HLAY
                clear hk hkn HLAY
                go_wp2
                go_roundw
                case rel => exact ⟨i + 1, l, g, cap, by omega, by go_num, rfl, HLB, HO, HB, KX, KT, KN⟩
                case measure => simp [intOf]; omega
              rw [if_pos hik] at hk
              have hgd : ks.getD i 0 = ks[i] := by rw [List.getD_eq_getElem?_getD, List.getElem?_eq_getElem hik]; rfl
              have hkn2 := hkn hik
              rw [hgd] at hk hkn2
              rw [hk] at hct0
              have hzl : i < (ks.zip (opnds ((kop : Int), p1, p2, p3, p4))).length := by rw [HZIP.out]; exact hik
              have HEL := lay_elem hzl HLAY
              rw [List.getElem_zip] at HEL
              have hok2 := HHAS.out i hik
              have hi4' : i < (opnds ((kop : Int), p1, p2, p3, p4)).length := hi4
              have hgd2 : (opnds ((kop : Int), p1, p2, p3, p4)).getD i 0 = (opnds ((kop : Int), p1, p2, p3, p4))[i] := by simp [List.getD, List.getElem?_eq_getElem hi4']
              rw [hgd2] at hok2
              have hcn : wr.cell? ⟨nb, i, none⟩ = some (.int .i64 (opnds ((kop : Int), p1, p2, p3, p4))[i]) := by
                rw [cell_at KN.out.1 i]
                rcases (show i = 0 ∨ i = 1 ∨ i = 2 ∨ i = 3 by omega) with rfl | rfl | rfl | rfl <;> rfl
              generalize (opnds ((kop : Int), p1, p2, p3, p4))[i] = nn at *
              generalize ks[i] = ch at *
              clear hk hkn hgd hgd2 hzl hi4' HLAY
              unfold okOp at hok2
              simp only at hok2
              by_cases h110 : ch.toNat = 110
              case pos =>
                rw [if_pos h110] at hok2
                unfold nearI at hok2
                have hct : wr.cell? ⟨gt, kop * 5 + 1 + i, none⟩ = some (.int .i64 5) := by rw [hct0, h110]; rfl
                have HEN : Hid (l ++ (num (sgn nn) ++ (((ks.zip (opnds ((kop : Int), p1, p2, p3, p4))).drop (i + 1)).flatMap encOpnd ++ ((P.code.drop (j + 1)).flatMap encIns ++ []))) = encB P) := Lib.hid (by
                  have h := HEL.out
                  unfold encOpnd at h ⊢
                  rw [if_pos h110] at h
                  exact h)
                clear hct0 hkn2 h110 HEL
                go_wp2_with fail
                refine (rsigned_any nn (by omega) _).mono ?_
                rintro e wq ⟨rfl, rfl⟩
                clear d0 hct hcn
                go_wp2_with fail
                refine (rnum_any (sgn nn) (by unfold sgn; split <;> omega) _).mono ?_
                rintro e waM ⟨vaM, rfl, hnM, hbM⟩
                have HOaM := Lib.hid (HO.out.below hbM)
                have HBaM := Lib.hid (HB.out.trans (hbM.mono HB.out.size))
                have KXaM := Lib.hid (KX.out.below hbM)
                have KTaM := Lib.hid (KT.out.below hbM)
                have KNaM := Lib.hid (KN.out.below hbM)
                have hzaM : w1.heap.size ≤ waM.heap.size := HBaM.out.size
                have hllM := lay_le HEN _ HE.out
                have hnsM := num_short (sgn nn)
                clear hbM
                go_wp2_with (at_builtin; go_loud (refine wpList_put rfl _ _ rfl w1.heap.size g cap l (num (sgn nn)) vaM _ rfl HOaM.out rfl hnM (num_pos _) ?paM hzaM ?_))
                case paM => omega
                intro gM cM wbM hOM hPM
                have HBM := Lib.hid (HBaM.out.trans (hPM.below HOaM.out.at.1 hzaM))
                have KXM := Lib.hid (KXaM.out.put hPM)
                have KTM := Lib.hid (KTaM.out.put hPM)
                have KNM := Lib.hid (KNaM.out.put hPM)
                obtain ⟨lM, hlM⟩ : ∃ lM, lM = l ++ num (sgn nn) := ⟨_, rfl⟩
                rw [← hlM] at hOM
                rw [show l.length + (num (sgn nn)).length = lM.length by rw [hlM]; simp]
                have HOM := Lib.hid hOM
                have HLYM := lay_app HEN
                rw [← hlM] at HLYM
                have hzM : w1.heap.size ≤ wbM.heap.size := HBM.out.size
                clear hOM hPM hnM hlM hllM hnsM HOaM HBaM KXaM KTaM KNaM
                clear HO HB KX KT KN HEN
                go_wp2
                go_roundw
                case rel => exact ⟨i + 1, lM, gM, cM, by omega, by go_num, rfl, HLYM, HOM, HBM, KXM, KTM, KNM⟩
                case measure => simp [intOf]; omega
              rw [if_neg h110] at hok2
              have HEN : Hid (l ++ (num nn.toNat ++ (((ks.zip (opnds ((kop : Int), p1, p2, p3, p4))).drop (i + 1)).flatMap encOpnd ++ ((P.code.drop (j + 1)).flatMap encIns ++ []))) = encB P) := Lib.hid (by
                have h := HEL.out
                unfold encOpnd at h ⊢
                rw [if_neg h110] at h
                exact h)
              obtain ⟨tk, htk⟩ : ∃ tk, tk = kindNo ch.toNat := ⟨_, rfl⟩
              have htk5 : tk ≠ 5 := by
                rw [htk]
                unfold kindNo
                repeat' split
                all_goals omega
              have htk0 : tk ≠ 0 := by rw [htk]; exact hkn2
              rw [← htk] at hct0
              have e0 : ((tk : Int) == 0) = false := by rw [beq_eq_false_iff_ne]; omega
              have e5 : ((tk : Int) == 5) = false := by rw [beq_eq_false_iff_ne]; omega
              have hn0 := hok2.1
              have hn1 := hok2.2
              have hnum := fun wz => rnum_any nn.toNat (by omega) wz
              rw [show ((nn.toNat : Nat) : Int) = nn by omega] at hnum
              have ewu : IntKind.u64.wrap nn = nn := IntWalk.u64_in _ (by omega)
              clear hkn2 h110 HEL htk htk5 htk0 hok2
              go_wp2_with fail
              clear d0 hct0 hcn ewu
              refine (hnum _).mono ?_
              rintro e waN ⟨vaN, rfl, hnN, hbN⟩
              have HOaN := Lib.hid (HO.out.below hbN)
              have HBaN := Lib.hid (HB.out.trans (hbN.mono HB.out.size))
              have KXaN := Lib.hid (KX.out.below hbN)
              have KTaN := Lib.hid (KT.out.below hbN)
              have KNaN := Lib.hid (KN.out.below hbN)
              have hzaN : w1.heap.size ≤ waN.heap.size := HBaN.out.size
              have hllN := lay_le HEN _ HE.out
              have hnsN := num_short (nn.toNat)
              clear hbN
              go_wp2_with (at_builtin; go_loud (refine wpList_put rfl _ _ rfl w1.heap.size g cap l (num (nn.toNat)) vaN _ rfl HOaN.out rfl hnN (num_pos _) ?paN hzaN ?_))
              case paN => omega
              intro gN cN wbN hON hPN
              have HBN := Lib.hid (HBaN.out.trans (hPN.below HOaN.out.at.1 hzaN))
              have KXN := Lib.hid (KXaN.out.put hPN)
              have KTN := Lib.hid (KTaN.out.put hPN)
              have KNN := Lib.hid (KNaN.out.put hPN)
              obtain ⟨lN, hlN⟩ : ∃ lN, lN = l ++ num (nn.toNat) := ⟨_, rfl⟩
              rw [← hlN] at hON
              rw [show l.length + (num (nn.toNat)).length = lN.length by rw [hlN]; simp]
              have HON := Lib.hid hON
              have HLYN := lay_app HEN
              rw [← hlN] at HLYN
              have hzN : w1.heap.size ≤ wbN.heap.size := HBN.out.size
              clear hON hPN hnN hlN hllN hnsN HOaN HBaN KXaN KTaN KNaN
              clear HO HB KX KT KN HEN hnum
              go_wp2
              go_roundw
              case rel => exact ⟨i + 1, lN, gN, cN, by omega, by go_num, rfl, HLYN, HON, HBN, KXN, KTN, KNN⟩
              case measure => simp [intOf]; omega
end Go.Proofs.YtfjiikadnlhekaaDoor
