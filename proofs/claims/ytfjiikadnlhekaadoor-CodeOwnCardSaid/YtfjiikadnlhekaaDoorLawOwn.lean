/-
  What is proved here: winnowlaw15.CodeOwn answers true. Conditions: the bytes lie in memory; the library's table of powers of ten is laid.
-/
import Derived.Test.YtfjiikadnlhekaaDoorLate
import Derived.Deep.DeepCutAuto
import Derived.Deep.RegionHeld
import Derived.Deep.CutBlock
namespace Go.Proofs.YtfjiikadnlhekaaDoor
open Go.RowKit

set_option maxHeartbeats 8000000 in
set_option maxRecDepth 100000 in
theorem own_any (ao : Option Addr) (ca : Nat) (bs : List UInt8) (w : World) (hL : Lies w ao (bcells bs)) (hao : ∀ a, ao = some a → a.block < w.heap.size) (hT : Tab w) :
    Calls Tryd.prog 9 #[.slice ao bs.length ca] w fun e w' => e = .returned (.bool true) ∧ Below w.heap.size w w' := by
  have HL := Lib.hid hL
  have HT := Lib.hid hT
  have HA := Lib.hid hao
  clear hL hT hao
  go_enter Tryd.func9, Tryd.ntmps9
  go_wp2_with fail
  refine (known_any w HT.out).mono ?_
  rintro e w1 ⟨rfl, hb1⟩
  have HB1 := Lib.hid hb1
  have hz1 := hb1.size
  clear hb1
  by_cases hc : bs.length ≤ 524288
  case neg =>
    have hg : decide (((bs.length : Nat) : Int) > 524288) = true := by simp; omega
    go_wp2
    go_ret
    exact ⟨rfl, HB1.out⟩
  have hg : decide (((bs.length : Nat) : Int) > 524288) = false := by simp; omega
  go_wp2_with fail
  refine (decode_any ao ca bs w1 (HL.out.below HB1.out) (by omega) (fun a ha => by have := HA.out a ha; omega)).mono ?_
  rintro e w2 (⟨P, s, hdec, rfl, hO, hb2⟩ | ⟨c, k, hdec, rfl, hb2⟩)
  case inr =>
    have HB2 := Lib.hid hb2
    have HD := Lib.hid (decode_near hdec)
    have hne : decide (c ≠ 0) = true := by simpa using HD.out.1
    have hne2 : (c != 0) = true := by simpa using HD.out.1
    obtain ⟨j1, j2, j3, j4⟩ := two_new2 w2 #[.slice none 0 0, .slice none 0 0, .slice none 0 0, .slice none 0 0, .int .i64 0, .slice none 0 0] #[.int .i64 c, .int .i64 (k : Int)] 27 46
    have v0 := cell_at j2 0
    have HB3 := Lib.hid (HB1.out.trans ((HB2.out.trans (j3.mono HB2.out.size)).mono hz1))
    clear hdec hb2 j1 j2 j3 j4
    unfold pval noSpots noPrg
    go_wp2_with fail
    go_ret
    exact ⟨rfl, HB3.out⟩
  have HB2 := Lib.hid (HB1.out.trans (hb2.mono hz1))
  have HP2 := Lib.hid hO.at
  have HDEC := Lib.hid hdec
  have HD := Lib.hid (decode_wrote hdec)
  have hlen := (ok_of P HD.out.2).lens
  unfold lensOk at hlen
  obtain ⟨g0, g1, g2, g3, g4⟩ := hlen
  have g3' : P.on.length ≤ 16 := by omega
  have HS : Hid (Small P) := Lib.hid ⟨by omega, by omega, by omega, by omega, by omega⟩
  clear g3
  obtain ⟨j1, j2, j3, j4⟩ := two_new2 w2 #[.slice s.a0 P.ghost.length s.c0, .slice s.a1 P.vars.length s.c1, .slice s.a2 P.tags.length s.c2, .slice s.a3 P.on.length s.c3, .int .i64 P.miss, .slice s.a4 P.code.length s.c4] #[.int .i64 0, .int .i64 0] 27 46
  have f0 := cell_at j1 0
  have f1 := cell_at j1 1
  have f2 := cell_at j1 2
  have f3 := cell_at j1 3
  have f4 := cell_at j1 4
  have f5 := cell_at j1 5
  have v0 := cell_at j2 0
  have HB3 := Lib.hid (HB2.out.trans (j3.mono HB2.out.size))
  have HP3 := Lib.hid (HP2.out.below j3)
  clear hdec hb2 hO j1 j2 j3 j4 HP2
  unfold pval
  go_wp2_with fail
  generalize (w2.alloc (.cells #[.slice s.a0 P.ghost.length s.c0, .slice s.a1 P.vars.length s.c1, .slice s.a2 P.tags.length s.c2, .slice s.a3 P.on.length s.c3, .int .i64 P.miss, .slice s.a4 P.code.length s.c4] 27)).alloc (.cells #[.int .i64 0, .int .i64 0] 46) = w3 at *
  refine (rtwin_any s P w3 HP3.out HS.out).mono ?_
  rintro e w4 ⟨r, rfl, hP4, hb4, hge⟩
  obtain ⟨col, hcol⟩ : ∃ col : Nat → Nat, col = paint (fun j => if j < w.heap.size then 0 else 4) w3.heap.size 5 := ⟨_, rfl⟩
  have h34 := (Tr.below (col := fun j => if j < w.heap.size then 0 else 4) hb4 99 5)
  rw [← hcol] at h34
  have hBase : Base w w4 col := Base.tr (col := fun j => if j < w.heap.size then 0 else 4) ⟨HB3.out, fun j hj => by simp [hj]⟩ h34 (by decide)
  have hArg : RLies w4 col 0 ao (bcells bs) := RLies.tr (col := fun j => if j < w.heap.size then 0 else 4) ⟨HL.out.below HB3.out, fun a ha _ => by
    have h1 := HA.out a ha
    have h2 := HB3.out.size
    exact ⟨by omega, by simp [h1]⟩⟩ h34 (by decide)
  have hWas : RPrg w4 col 5 r P := by rw [hcol]; exact RPrg.new hP4 hge 5
  have hbx : Below w4.heap.size w4 (w4.alloc (.cells (pcells r P) 27)) := (Below.refl _ _).alloc (Nat.le_refl _) _
  have h45 := Tr.below (col := col) hbx 99 4
  have hSt : Stay w ao bs P r w4.heap.size (w4.alloc (.cells (pcells r P) 27)) (paint col w4.heap.size 4) :=
    ⟨hBase.tr h45 (by decide), hArg.tr h45 (by decide), hWas.tr h45 (by decide), ⟨(MapKept.heap_alloc w4 _).1, paint_new (Nat.le_refl _)⟩⟩
  have HST := Lib.hid hSt
  unfold pcells at HST
  clear hcol h34 hBase hArg hWas hbx h45 hSt hb4 hge hP4 f0 f1 f2 f3 f4 f5 v0 HB1 HB2 HB3 HP3
  unfold pval
  go_upto_block 0 with fail
  have HM0 : Hid (Made w ao bs P r w4.heap.size 0 [] [] (.slice none 0 0) (.slice none 0 0) (w4.alloc (.cells (pcells r P) 27)) (paint col w4.heap.size 4)) := Lib.hid
    ⟨HST.out, rfl, rfl, RRow.nil _ _ _, RRow.nil _ _ _, fun i h => absurd h (by simp), fun i h => absurd h (by simp)⟩
  unfold pcells at HM0
  clear HST
  generalize w4.heap.size = b5 at *
  go_cut [6, 7] (fun vv lv wx => ∃ (S : List Spots) (T : List (Nat × Nat)) (col : Nat → Nat), Hid (Made w ao bs P r b5 3 S T vv lv wx col))
  case first =>
    as_aux_lemma =>
      go_wp2_with fail
      go_loopw [6, 7, 8] (fun vv lv ii wr => ∃ (k : Nat) (S : List Spots) (T : List (Nat × Nat)) (col : Nat → Nat), k ≤ 3 ∧ ii = .int .i64 (k : Int) ∧ Hid (Made w ao bs P r b5 k S T vv lv wr col)) (fun _ _ ii _ => 3 + 1 - (intOf ii).toNat)
      case atStart => exact ⟨0, [], [], _, Nat.zero_le _, rfl, HM0⟩
      case round =>
        clear HM0
        obtain ⟨k, S, T, cl, hk, rfl, HM⟩ := hrel
        by_cases hlt : k < 3
        case neg =>
          obtain rfl : k = 3 := by omega
          go_wp2
          go_meet
          exact ⟨S, T, cl, HM⟩
        have hlt2 : decide ((k : Int) < 3) = true := by simp; omega
        go_wp2_with fail
        have hle := HM.out.stay.base.below.size
        refine (decode_any ao ca bs wr HM.out.stay.arg.lies (by omega) (fun a ha => by have := HA.out a ha; omega)).mono ?_
        rintro e wa (⟨P', s', hdec, rfl, hO, hba⟩ | ⟨c, q, hdec, rfl, hba⟩)
        case inr => rw [HDEC.out] at hdec; cases hdec
        obtain rfl : P = P' := by rw [HDEC.out] at hdec; cases hdec; rfl
        have hnS := HM.out.nS
        have hnT := HM.out.nT
        have hH := HM.out.have hk
        have hH2 := hH.prog hba hO (by omega)
        obtain ⟨j1, j2, j3, j4⟩ := two_new2 wa #[.slice s'.a0 P.ghost.length s'.c0, .slice s'.a1 P.vars.length s'.c1, .slice s'.a2 P.tags.length s'.c2, .slice s'.a3 P.on.length s'.c3, .int .i64 P.miss, .slice s'.a4 P.code.length s'.c4] #[.int .i64 0, .int .i64 0] 27 46
        have HH := Lib.hid (hH2.quiet j3 4)
        have J1 := Lib.hid j1
        clear hH hH2 hO hdec j1 j2 j3 j4 HM hle
        unfold pval
        go_wp2_with fail
        generalize (wa.alloc (.cells #[.slice s'.a0 P.ghost.length s'.c0, .slice s'.a1 P.vars.length s'.c1, .slice s'.a2 P.tags.length s'.c2, .slice s'.a3 P.on.length s'.c3, .int .i64 P.miss, .slice s'.a4 P.code.length s'.c4] 27)).alloc (.cells #[.int .i64 0, .int .i64 0] 46) = wb at *
        have hS : ∀ w' : World, Below wb.heap.size wb w' → (fun w' : World => w'.cell? ⟨wa.heap.size, 0, none⟩ = some (.slice s'.a0 P.ghost.length s'.c0) ∧ w'.cell? ⟨wa.heap.size, 1, none⟩ = some (.slice s'.a1 P.vars.length s'.c1) ∧ w'.cell? ⟨wa.heap.size, 2, none⟩ = some (.slice s'.a2 P.tags.length s'.c2) ∧ w'.cell? ⟨wa.heap.size, 3, none⟩ = some (.slice s'.a3 P.on.length s'.c3) ∧ w'.cell? ⟨wa.heap.size, 4, none⟩ = some (.int .i64 P.miss) ∧ w'.cell? ⟨wa.heap.size, 5, none⟩ = some (.slice s'.a4 P.code.length s'.c4) ∧ w'.cell? ⟨b5, 0, none⟩ = some (.slice r.a0 P.ghost.length r.c0) ∧ w'.cell? ⟨b5, 1, none⟩ = some (.slice r.a1 P.vars.length r.c1) ∧ w'.cell? ⟨b5, 2, none⟩ = some (.slice r.a2 P.tags.length r.c2) ∧ w'.cell? ⟨b5, 3, none⟩ = some (.slice r.a3 P.on.length r.c3) ∧ w'.cell? ⟨b5, 4, none⟩ = some (.int .i64 P.miss) ∧ w'.cell? ⟨b5, 5, none⟩ = some (.slice r.a4 P.code.length r.c4)) w' := fun w' hb => by
          have e1 := (hb.block _ (Array.getElem?_eq_some_iff.1 J1.out).1).trans J1.out
          have e2 := (hb.block _ HH.out.stay.box.lt).trans HH.out.stay.box.at_
          exact ⟨cell_at e1 0, cell_at e1 1, cell_at e1 2, cell_at e1 3, cell_at e1 4, cell_at e1 5, cell_at e2 0, cell_at e2 1, cell_at e2 2, cell_at e2 3, cell_at e2 4, cell_at e2 5⟩
        have hbW : Below wb.heap.size wb wb := Below.refl _ _
        obtain ⟨i27, hi27, hz270, hz271, hz272⟩ := info_parts info27
        have HI27 := Lib.hid (And.intro hi27 (And.intro hz270 (And.intro hz271 hz272)))
        clear hi27 hz270 hz271 hz272
        have hK : ∀ wx wy : World, Below wb.heap.size wb wx → wx.grownBy wy (Value.ownBlock u6) → (fun w' : World => w'.cell? ⟨wa.heap.size, 0, none⟩ = some (.slice s'.a0 P.ghost.length s'.c0) ∧ w'.cell? ⟨wa.heap.size, 1, none⟩ = some (.slice s'.a1 P.vars.length s'.c1) ∧ w'.cell? ⟨wa.heap.size, 2, none⟩ = some (.slice s'.a2 P.tags.length s'.c2) ∧ w'.cell? ⟨wa.heap.size, 3, none⟩ = some (.slice s'.a3 P.on.length s'.c3) ∧ w'.cell? ⟨wa.heap.size, 4, none⟩ = some (.int .i64 P.miss) ∧ w'.cell? ⟨wa.heap.size, 5, none⟩ = some (.slice s'.a4 P.code.length s'.c4) ∧ w'.cell? ⟨b5, 0, none⟩ = some (.slice r.a0 P.ghost.length r.c0) ∧ w'.cell? ⟨b5, 1, none⟩ = some (.slice r.a1 P.vars.length r.c1) ∧ w'.cell? ⟨b5, 2, none⟩ = some (.slice r.a2 P.tags.length r.c2) ∧ w'.cell? ⟨b5, 3, none⟩ = some (.slice r.a3 P.on.length r.c3) ∧ w'.cell? ⟨b5, 4, none⟩ = some (.int .i64 P.miss) ∧ w'.cell? ⟨b5, 5, none⟩ = some (.slice r.a4 P.code.length r.c4)) wy := fun wx wy hb hg => by
          have n1 : some wa.heap.size ≠ Value.ownBlock u6 := fun e => by have h1 := HH.out.all.col _ e.symm; rw [paint_new (Nat.le_refl _)] at h1; cases h1
          have n2 : some b5 ≠ Value.ownBlock u6 := fun e => by have h1 := HH.out.all.col _ e.symm; rw [HH.out.stay.box.col] at h1; cases h1
          have l1 := (Array.getElem?_eq_some_iff.1 J1.out).1
          have l2 := HH.out.stay.box.lt
          have e1 := (hg.block _ (by have := hb.size; omega) n1).trans ((hb.block _ l1).trans J1.out)
          have e2 := (hg.block _ (by have := hb.size; omega) n2).trans ((hb.block _ l2).trans HH.out.stay.box.at_)
          exact ⟨cell_at e1 0, cell_at e1 1, cell_at e1 2, cell_at e1 3, cell_at e1 4, cell_at e1 5, cell_at e2 0, cell_at e2 1, cell_at e2 2, cell_at e2 3, cell_at e2 4, cell_at e2 5⟩
        have HK := Lib.hid hK
        have HSS := Lib.hid hS
        clear hK hS
        refine wp_region_held_drew (S := (fun w' : World => w'.cell? ⟨wa.heap.size, 0, none⟩ = some (.slice s'.a0 P.ghost.length s'.c0) ∧ w'.cell? ⟨wa.heap.size, 1, none⟩ = some (.slice s'.a1 P.vars.length s'.c1) ∧ w'.cell? ⟨wa.heap.size, 2, none⟩ = some (.slice s'.a2 P.tags.length s'.c2) ∧ w'.cell? ⟨wa.heap.size, 3, none⟩ = some (.slice s'.a3 P.on.length s'.c3) ∧ w'.cell? ⟨wa.heap.size, 4, none⟩ = some (.int .i64 P.miss) ∧ w'.cell? ⟨wa.heap.size, 5, none⟩ = some (.slice s'.a4 P.code.length s'.c4) ∧ w'.cell? ⟨b5, 0, none⟩ = some (.slice r.a0 P.ghost.length r.c0) ∧ w'.cell? ⟨b5, 1, none⟩ = some (.slice r.a1 P.vars.length r.c1) ∧ w'.cell? ⟨b5, 2, none⟩ = some (.slice r.a2 P.tags.length r.c2) ∧ w'.cell? ⟨b5, 3, none⟩ = some (.slice r.a3 P.on.length r.c3) ∧ w'.cell? ⟨b5, 4, none⟩ = some (.int .i64 P.miss) ∧ w'.cell? ⟨b5, 5, none⟩ = some (.slice r.a4 P.code.length r.c4))) (by kernel_rfl) (HSS.out _ hbW.drew) (fun hHeld => ?_)
        refine wpAnyH_take (i := 0) (v := u6) rfl (by kernel_rfl) (by kernel_rfl) (by kernel_rfl) (fun _ _ _ h => h) (Or.inl ⟨by rfl, (by intro w hSw; (try dsimp only at hSw); go_simp)⟩) hHeld ?_
        simp only [Act.put, List.setIfInBounds_toArray]
        refine wpAnyH_take (i := 1) (v := .agg #[.slice s'.a0 P.ghost.length s'.c0, .slice s'.a1 P.vars.length s'.c1, .slice s'.a2 P.tags.length s'.c2, .slice s'.a3 P.on.length s'.c3, .int .i64 P.miss, .slice s'.a4 P.code.length s'.c4]) rfl (by kernel_rfl) (by kernel_rfl) (by kernel_rfl) (fun _ _ _ h => h) (Or.inl ⟨by rfl, (by intro w hSw; (try dsimp only at hSw); go_simp)⟩) hHeld ?_
        simp only [Act.put]
        refine wpAnyH_take (i := 2) (v := .agg #[.slice r.a0 P.ghost.length r.c0, .slice r.a1 P.vars.length r.c1, .slice r.a2 P.tags.length r.c2, .slice r.a3 P.on.length r.c3, .int .i64 P.miss, .slice r.a4 P.code.length r.c4]) rfl (by kernel_rfl) (by kernel_rfl) (by kernel_rfl) (fun _ _ _ h => h) (Or.inl ⟨by rfl, (by intro w hSw; (try dsimp only at hSw); go_simp)⟩) hHeld ?_
        simp only [Act.put]
        refine wpAnyH_ready (rs := [3]) (by kernel_rfl) (by simp) (AllReadyH.cons rfl (fun K hK => ?_) AllReadyH.nil)
        go_simp
        go_at_call 25
        refine (twino_any r P _ (HH.out.stay.was.at_.below hbW.drew) HS.out).mono ?_
        rintro e wc ⟨r2, rfl, hO2, hbc⟩
        have hbC : Below wb.heap.size wb wc := hbW.drew.trans hbc
        have hH3 := HH.out.prog hbC hO2 (by simp; omega)
        have eS : S ++ [s'] ++ [r2] = S ++ [s', r2] := by simp
        rw [eS] at hH3
        have hal : Below wc.heap.size wc (wc.alloc (.cells (pcl P s' ++ pcl P r2).toArray 27)) := (Below.refl _ _).alloc (Nat.le_refl _) _
        have H9 : RBox wb (paint (paint cl wr.heap.size (10 + S.length)) wa.heap.size 4) 4 wa.heap.size (.cells #[.slice s'.a0 P.ghost.length s'.c0, .slice s'.a1 P.vars.length s'.c1, .slice s'.a2 P.tags.length s'.c2, .slice s'.a3 P.on.length s'.c3, .int .i64 P.miss, .slice s'.a4 P.code.length s'.c4] 27 (0, 0)) := ⟨J1.out, paint_new (Nat.le_refl _)⟩
        have HB4 : Hid (Below wb.heap.size wb (wc.alloc (.cells (pcl P s' ++ pcl P r2).toArray 27))) := Lib.hid (hbC.alloc (Below.size hbC) _)
        have HH4 := Lib.hid (hH3.quiet hal 99)
        have H94 := Lib.hid ((H9.tr (Tr.below hbC 99 (10 + (S ++ [s']).length)) (by decide)).tr (Tr.below hal 99 99) (by decide))
        clear H9 hH3 hO2 hal
        refine hK.out _ _ (HSS.out _ hbC) (fun hHeld => ?_)
        clear hK K
        refine wpAnyH_ready (rs := [4]) (by kernel_rfl) (by simp) (AllReadyH.cons rfl (fun K hK => ?_) AllReadyH.nil)
        refine step_two52 rfl _ _ (by rfl) P s' r2 (by rfl) (by rfl) ?_
        refine hK.out _ _ (HSS.out _ HB4.out) (fun hHeld => ?_)
        clear hK K
        simp only [Act.put]
        refine wpAnyH_ready (rs := [5]) (by kernel_rfl) (by simp) (AllReadyH.cons rfl (fun K hK => ?_) AllReadyH.nil)
        refine step_add52 rfl _ _ (by rfl) P S s' r2 u6 wc.heap.size (by rfl) (by rfl) HH4.out.all.own (MapKept.heap_alloc wc _).1 (by omega) ?_
        intro g cap wd hown hgr hor
        have t3 := Tr.grown hgr HH4.out.all.col 1
        have e1 := (H94.out.tr t3 (by decide)).at_
        obtain ⟨c5, HH5⟩ : ∃ c5, Hid (Have w ao bs P r b5 (S ++ [s', r2]) (S ++ [s', r2]) T T (.slice (some ⟨g, 0, none⟩) (S ++ [s', r2]).length cap) u7 wd c5) := ⟨_, Lib.hid (HH4.out.push_all hgr hown hor)⟩
        have e2 := HH5.out.stay.box.at_
        generalize Value.slice (some ⟨g, 0, none⟩) (S ++ [s', r2]).length cap = va at *
        refine hK.out _ _ ⟨cell_at e1 0, cell_at e1 1, cell_at e1 2, cell_at e1 3, cell_at e1 4, cell_at e1 5, cell_at e2 0, cell_at e2 1, cell_at e2 2, cell_at e2 3, cell_at e2 4, cell_at e2 5⟩ (fun hH9 => ?_)
        clear hK K t3 e1 hown hgr hor HH4 H94 HB4 HSS HH J1 hbW hbC hHeld
        simp only [Act.put]
        refine wpAnyH_ready (rs := [6]) (by kernel_rfl) (by simp) (AllReadyH.cons rfl (fun K hK => ?_) AllReadyH.nil)
        go_simp
        refine hK.out _ _ hH9 (fun _ => ?_)
        clear hK K hH9
        refine wpAnyH_done (by kernel_rfl) ?_ _
        obtain ⟨f0, f1, f2, f3, f4, f5⟩ := HH5.out.stay.box.six
        clear e2
        go_wp2_with fail
        have hen := encode_ok r P wd HH5.out.stay.was.at_ HD.out.2
        unfold EncPost at hen
        rw [HD.out.1] at hen
        refine hen.mono ?_
        clear hen
        rintro e we ⟨g1, cap1, rfl, ho1, hbe⟩
        obtain ⟨c6, HH6⟩ : ∃ c6, Hid (Have w ao bs P r b5 (S ++ [s', r2]) (S ++ [s', r2]) T (T ++ [(g1, cap1)]) va u7 we c6) := ⟨_, Lib.hid (HH5.out.bytes hbe (t := (g1, cap1)) ho1 (by omega))⟩
        clear f0 f1 f2 f3 f4 f5 HH5 hbe ho1
        obtain ⟨f0, f1, f2, f3, f4, f5⟩ := HH6.out.stay.box.six
        go_wp2_with fail
        have hen := encode_ok r P we HH6.out.stay.was.at_ HD.out.2
        unfold EncPost at hen
        rw [HD.out.1] at hen
        refine hen.mono ?_
        clear hen
        rintro e wf ⟨g2, cap2, rfl, ho2, hbf⟩
        have hH7 := HH6.out.bytes hbf (t := (g2, cap2)) ho2 (by simp; omega)
        have eT : T ++ [(g1, cap1)] ++ [(g2, cap2)] = T ++ [(g1, cap1), (g2, cap2)] := by simp
        rw [eT] at hH7
        have hal : Below wf.heap.size wf (wf.alloc (.cells #[bval bs.length (g1, cap1), bval bs.length (g2, cap2)] 32)) := (Below.refl _ _).alloc (Nat.le_refl _) _
        have HH7 := Lib.hid (hH7.quiet hal 99)
        clear f0 f1 f2 f3 f4 f5 HH6 hbf ho2 hH7 hal
        go_wp2_with (at_builtin; go_loud (refine wpList_add53 rfl _ _ (by rfl) bs.length T (g1, cap1) (g2, cap2) u7 wf.heap.size (by rfl) (by rfl) HH7.out.lists.own (MapKept.heap_alloc wf _).1 (by omega) ?_); intro g cap wg hown hgr hor; obtain ⟨c8, HH8⟩ : ∃ c8, Hid (Have w ao bs P r b5 (S ++ [s', r2]) (S ++ [s', r2]) (T ++ [(g1, cap1), (g2, cap2)]) (T ++ [(g1, cap1), (g2, cap2)]) va (.slice (some ⟨g, 0, none⟩) (T ++ [(g1, cap1), (g2, cap2)]).length cap) wg c8) := ⟨_, Lib.hid (HH7.out.push_lists hgr hown hor)⟩; clear hown hgr hor HH7; generalize Value.slice (some ⟨g, 0, none⟩) (T ++ [(g1, cap1), (g2, cap2)]).length cap = vb at *)
        go_roundw
        case rel => exact ⟨k + 1, S ++ [s', r2], T ++ [(g1, cap1), (g2, cap2)], c8, by omega, by go_num, Lib.hid (HH8.out.made (by simp; omega) (by simp; omega))⟩
        case measure => simp [intOf]; omega
  clear HM0
  obtain ⟨S, T, cl1, HM⟩ := hcut
  have hle := HM.out.stay.base.below.size
  go_wp2_with fail
  refine (decode_any ao ca bs wc HM.out.stay.arg.lies (by omega) (fun a ha => by have := HA.out a ha; omega)).mono ?_
  rintro e wd (⟨P', s6, hdec, rfl, hO, hbd⟩ | ⟨c, q, hdec, rfl, hbd⟩)
  case inr => rw [HDEC.out] at hdec; cases hdec
  obtain rfl : P = P' := by rw [HDEC.out] at hdec; cases hdec; rfl
  obtain ⟨j1, j2, j3, j4⟩ := two_new2 wd #[.slice s6.a0 P.ghost.length s6.c0, .slice s6.a1 P.vars.length s6.c1, .slice s6.a2 P.tags.length s6.c2, .slice s6.a3 P.on.length s6.c3, .int .i64 P.miss, .slice s6.a4 P.code.length s6.c4] #[.int .i64 0, .int .i64 0] 27 46
  have HO6 := Lib.hid hO
  have HBD := Lib.hid hbd
  have J1 := Lib.hid j1
  have J3 := Lib.hid j3
  have HST := Lib.hid ((HM.out.stay.tr (Tr.below hbd 99 6) (by decide) (by decide) (by decide)).tr (Tr.below j3 99 4) (by decide) (by decide) (by decide))
  obtain ⟨f0, f1, f2, f3, f4, f5⟩ := HST.out.box.six
  clear hdec hO hbd j1 j2 j3 j4 hle
  unfold pval
  go_wp2_with fail
  generalize (wd.alloc (.cells #[.slice s6.a0 P.ghost.length s6.c0, .slice s6.a1 P.vars.length s6.c1, .slice s6.a2 P.tags.length s6.c2, .slice s6.a3 P.on.length s6.c3, .int .i64 P.miss, .slice s6.a4 P.code.length s6.c4] 27)).alloc (.cells #[.int .i64 0, .int .i64 0] 46) = we at *
  refine (twino_any r P we HST.out.was.at_ HS.out).mono ?_
  rintro e wf ⟨s7, rfl, hO7, hbf⟩
  obtain ⟨ga, cga, gl, cgl, c9, rfl, rfl, hF⟩ := Full.new HM.out HBD.out HO6.out J3.out J1.out hbf hO7 ((Below.refl _ _).alloc (Nat.le_refl _) _) (MapKept.heap_alloc wf (.cells (pcells s7 P) 27)).1
  have HF := Lib.hid hF
  unfold pcells at HF
  clear hF hO7 hbf f0 f1 f2 f3 f4 f5 HST HM HO6 HBD J1 J3
  unfold pval
  go_upto_block 2 with fail
  generalize wf.alloc (.cells #[.slice s7.a0 P.ghost.length s7.c0, .slice s7.a1 P.vars.length s7.c1, .slice s7.a2 P.tags.length s7.c2, .slice s7.a3 P.on.length s7.c3, .int .i64 P.miss, .slice s7.a4 P.code.length s7.c4] 27) = wg at *
  generalize wf.heap.size = b17 at *
  go_cut [18] (fun _ wx => ∃ col : Nat → Nat, Hid (Full w ao bs P r b5 s6 wd.heap.size s7 b17 S T ga cga gl cgl (fun i => if i < 6 then marked P i else P) (fun _ => bs) wx col))
  case first =>
    as_aux_lemma =>
      go_wp2_with fail
      go_loopw [18] (fun ii wr => ∃ (k : Nat) (col : Nat → Nat), k ≤ 6 ∧ ii = .int .i64 (k : Int) ∧ Hid (Full w ao bs P r b5 s6 wd.heap.size s7 b17 S T ga cga gl cgl (fun i => if i < k then marked P i else P) (fun _ => bs) wr col)) (fun ii _ => 6 + 1 - (intOf ii).toNat)
      case atStart => exact ⟨0, _, Nat.zero_le _, rfl, by simpa using HF⟩
      case round =>
        clear HF
        obtain ⟨k, cl, hk, rfl, HM⟩ := hrel
        by_cases hlt : k < 6
        case neg =>
          obtain rfl : k = 6 := by omega
          go_wp2
          go_meet
          exact ⟨cl, HM⟩
        have hlt2 : decide ((k : Int) < 6) = true := by simp; omega
        have hkS : k < S.length := by rw [HM.out.nS]; exact hlt
        obtain ⟨B, E, hp⟩ := HM.out.progs k hkS
        obtain ⟨sk, hsk⟩ : ∃ s, S[k] = s := ⟨_, rfl⟩
        obtain ⟨a0, a1, a2, a3, a4, a5⟩ := HM.out.six hkS hsk
        have HP := Lib.hid hp
        clear hp
        go_wp2_with fail
        refine (spoil_any B E sk P k (by omega) wr (by have h := HP.out.own; simpa [hsk] using h) HP.out.le ⟨by omega, by omega, by omega, by omega⟩).mono ?_
        rintro e wz ⟨rfl, hI, hFr⟩
        have HM2 := Lib.hid (HM.out.spoil hkS HP.out (Q := marked P k) (by rw [hsk]; exact hI) hFr (Pk' := fun i => if i < k + 1 then marked P i else P) (by simp) (fun i hi => by by_cases h1 : i < k <;> simp [h1, show (i < k + 1) = (i < k) by simp; omega]))
        clear hI hFr HP HM a0 a1 a2 a3 a4 a5
        go_wp2_with fail
        go_roundw
        case rel => exact ⟨k + 1, _, by omega, by go_num, HM2⟩
        case measure => simp [intOf]; omega
  clear HF
  obtain ⟨cl2, HF⟩ := hcut
  go_upto_block 4 with fail
  go_cut [19] (fun _ wx => ∃ col : Nat → Nat, Hid (Full w ao bs P r b5 s6 wd.heap.size s7 b17 S T ga cga gl cgl (fun i => if i < 6 then marked P i else P) (fun _ => bs) wx col))
  case first =>
    as_aux_lemma =>
      go_wp2_with fail
      go_loopw [19] (fun ii wr => ∃ (k : Nat) (col : Nat → Nat), k ≤ 6 ∧ ii = .int .i64 (k : Int) ∧ Hid (Full w ao bs P r b5 s6 wd.heap.size s7 b17 S T ga cga gl cgl (fun i => if i < 6 then marked P i else P) (fun _ => bs) wr col)) (fun ii _ => 6 + 1 - (intOf ii).toNat)
      case atStart => exact ⟨0, _, Nat.zero_le _, rfl, HF⟩
      case round =>
        clear HF
        obtain ⟨k, cl, hk, rfl, HM⟩ := hrel
        by_cases hlt : k < 6
        case neg =>
          obtain rfl : k = 6 := by omega
          go_wp2
          go_meet
          exact ⟨cl, HM⟩
        have hlt2 : decide ((k : Int) < 6) = true := by simp; omega
        have hkS : k < S.length := by rw [HM.out.nS]; exact hlt
        obtain ⟨B, E, hp⟩ := HM.out.progs k hkS
        obtain ⟨sk, hsk⟩ : ∃ s, S[k] = s := ⟨_, rfl⟩
        obtain ⟨a0, a1, a2, a3, a4, a5⟩ := HM.out.six hkS hsk
        obtain ⟨m1, m2, m3, m4⟩ := marked_lens P k
        have hsp := spoilt_any sk (marked P k) k (by omega) wr (by have h := hp.own.at; simpa [hsk, hlt] using h) (marks_marked P k) ⟨by omega, by omega, by omega, by omega⟩
        rw [pval_marked] at hsp
        have HSP := Lib.hid hsp
        clear hp hsp m1 m2 m3 m4
        go_wp2_with fail
        refine HSP.out.mono ?_
        rintro e wz ⟨rfl, hb⟩
        have HM2 := Lib.hid (HM.out.quiet hb)
        clear hb HSP HM a0 a1 a2 a3 a4 a5
        go_wp2_with fail
        go_roundw
        case rel => exact ⟨k + 1, _, by omega, by go_num, HM2⟩
        case measure => simp [intOf]; omega
  clear HF
  obtain ⟨cl3, HF⟩ := hcut
  go_upto_block 6 with fail
  go_cut [20] (fun _ wx => ∃ (Pk : Nat → Prg) (col : Nat → Nat), Hid (Full w ao bs P r b5 s6 wd.heap.size s7 b17 S T ga cga gl cgl Pk (lk bs 6 0) wx col))
  case first =>
    as_aux_lemma =>
      rw [← lk_start bs] at HF
      generalize (fun i => if i < 6 then marked P i else P) = Pk at HF
      go_wp2_with fail
      go_loopw [20, 21] (fun ii _ wr => ∃ (k : Nat) (col : Nat → Nat), k ≤ 6 ∧ ii = .int .i64 (k : Int) ∧ Hid (Full w ao bs P r b5 s6 wd.heap.size s7 b17 S T ga cga gl cgl Pk (lk bs k 0) wr col)) (fun ii _ _ => 6 + 1 - (intOf ii).toNat)
      case atStart => exact ⟨0, _, Nat.zero_le _, rfl, HF⟩
      case round =>
        clear HF
        obtain ⟨k, cl, hk, rfl, HM⟩ := hrel
        by_cases hlt : k < 6
        case neg =>
          obtain rfl : k = 6 := by omega
          go_wp2
          go_meet
          exact ⟨Pk, cl, HM⟩
        have hlt2 : decide ((k : Int) < 6) = true := by simp; omega
        have hkT : k < T.length := by rw [HM.out.nT]; exact hlt
        obtain ⟨tk, htk⟩ : ∃ t, T[k] = t := ⟨_, rfl⟩
        go_wp2_with fail
        go_loopw [21] (fun ii wr => ∃ (j : Nat) (col : Nat → Nat), j ≤ bs.length ∧ ii = .int .i64 (j : Int) ∧ Hid (Full w ao bs P r b5 s6 wd.heap.size s7 b17 S T ga cga gl cgl Pk (lk bs k j) wr col)) (fun ii _ => bs.length + 1 - (intOf ii).toNat)
        case atStart => exact ⟨0, _, Nat.zero_le _, rfl, HM⟩
        case round =>
          clear HM
          obtain ⟨j, c2, hj, rfl, HN⟩ := hrel
          have l0 := HN.out.list_at hkT htk
          by_cases hl5 : j < bs.length
          case neg =>
            obtain rfl : j = bs.length := by omega
            rw [lk_next] at HN
            go_wp2
            go_roundw
            case rel => exact ⟨k + 1, c2, by omega, by go_num, HN⟩
            case measure => simp [intOf]; omega
          have hl6 : decide ((j : Int) < (bs.length : Int)) = true := by simp; omega
          obtain ⟨⟨ub, hub⟩, hfb⟩ := HN.out.byte_at hkT htk (by rw [lk_len _ _ _ _ hj]; exact hl5)
          have hi : IntKind.i64.wrap (200 + (k : Int)) = 200 + (k : Int) := IntWalk.i64_in _ (by omega)
          have hw : IntKind.u8.wrap (200 + (k : Int)) = ((UInt8.ofNat (200 + k)).toNat : Int) := by
            rw [u8_small _ (by omega)]
            simp [IntKind.wrap, IntKind.bits, IntKind.signed]
            omega
          have HN2 := HN.out.byte hkT (by rw [lk_len _ _ _ _ hj]; exact hl5) (UInt8.ofNat (200 + k)) (lk_set bs k j hl5) (fun i h => lk_other bs k j i h)
          rw [htk] at HN2
          have HN3 := Lib.hid HN2
          clear HN2 HN
          go_wp2_with fail
          go_roundw
          case rel => exact ⟨j + 1, _, by omega, by go_num, HN3⟩
          case measure => simp [intOf]; omega
  clear HF
  obtain ⟨Pk, cl4, HF⟩ := hcut
  have hone : ∀ u ∈ T.map (bval bs.length), u.oneCell' = true := fun u hu => by obtain ⟨t, _, rfl⟩ := List.mem_map.1 hu; rfl
  have HONE := Lib.hid hone
  clear hone
  go_upto_block 10 with (at_builtin; go_loud (refine wpList_all53 rfl _ _ (by rfl) gl cgl (T.map (bval bs.length)) (by rfl) (by rfl) HF.out.lists.own HONE.out ?_); intro gg cgg wh hown hgr hgg; obtain ⟨cl5, HL⟩ : ∃ col, Hid (Late w ao bs P r b5 s6 wd.heap.size s7 b17 T gl cgl gg cgg (fun i => T.getD i (0, 0)) (lk bs 6 0) wh col) := ⟨_, Lib.hid (Late.new HF.out (fun i => lk_len bs 6 0 i (Nat.zero_le _)) hgr hgg hown)⟩; clear hown hgr hgg HF)
  obtain ⟨U0, HL0⟩ : ∃ U, Hid (Late w ao bs P r b5 s6 wd.heap.size s7 b17 T gl cgl gg cgg U (gk bs.length 0 0) wh cl5) := ⟨_, Lib.hid (HL.out.congr (fun i hi => gk_start bs i hi))⟩
  clear HL HONE
  go_cut [23, 24] (fun _ _ wx => ∃ (U : Nat → Nat × Nat) (col : Nat → Nat), Hid (Late w ao bs P r b5 s6 wd.heap.size s7 b17 T gl cgl gg cgg U (gk bs.length 40 0) wx col))
  case first =>
    as_aux_lemma =>
      go_wp2_with fail
      go_loopw [23, 24] (fun kk _ wr => ∃ (k : Nat) (U : Nat → Nat × Nat) (col : Nat → Nat), k ≤ 40 ∧ kk = .int .i64 (k : Int) ∧ Hid (Late w ao bs P r b5 s6 wd.heap.size s7 b17 T gl cgl gg cgg U (gk bs.length k 0) wr col)) (fun kk _ _ => 40 + 1 - (intOf kk).toNat)
      case atStart => exact ⟨0, U0, cl5, Nat.zero_le _, rfl, HL0⟩
      case round =>
        clear HL0
        obtain ⟨k, U1, c1, hk, rfl, HL1⟩ := hrel
        by_cases hlt : k < 40
        case neg =>
          obtain rfl : k = 40 := by omega
          go_wp2
          go_meet
          exact ⟨U1, c1, HL1⟩
        have hlt2 : decide ((k : Int) < 40) = true := by simp; omega
        go_wp2_with fail
        go_loopw [24] (fun ii wr => ∃ (i : Nat) (U : Nat → Nat × Nat) (col : Nat → Nat), i ≤ 6 ∧ ii = .int .i64 (i : Int) ∧ Hid (Late w ao bs P r b5 s6 wd.heap.size s7 b17 T gl cgl gg cgg U (gk bs.length k i) wr col)) (fun ii _ => 6 + 1 - (intOf ii).toNat)
        case atStart => exact ⟨0, U1, c1, Nat.zero_le _, rfl, HL1⟩
        case round =>
          clear HL1
          obtain ⟨i, U, c2, hi, rfl, HN⟩ := hrel
          by_cases hi6 : i < 6
          case neg =>
            obtain rfl : i = 6 := by omega
            have HN2 := Lib.hid (HN.out.congr (fun x hx => gk_next bs.length k x hx))
            clear HN
            go_wp2
            go_roundw
            case rel => exact ⟨k + 1, U, c2, by omega, by go_num, HN2⟩
            case measure => simp [intOf]; omega
          have hi7 : decide ((i : Int) < 6) = true := by simp; omega
          obtain ⟨m, hm⟩ : ∃ m, (gk bs.length k i i).length = m := ⟨_, rfl⟩
          have hmb := gk_len bs.length k i i
          rw [hm] at hmb
          have a0 := HN.out.grown_at hi6 rfl hm
          have hiw : IntKind.i64.wrap (20 + (i : Int)) = 20 + (i : Int) := IntWalk.i64_in _ (by omega)
          have huw : IntKind.u8.wrap (20 + (i : Int)) = ((UInt8.ofNat (20 + i)).toNat : Int) := by
            rw [u8_small _ (by omega)]
            simp [IntKind.wrap, IntKind.bits, IntKind.signed]
            omega
          have hal : Below wr.heap.size wr (wr.alloc (.cells #[.int .u8 ((UInt8.ofNat (20 + i)).toNat : Int)] 5)) := (Below.refl _ _).alloc (Nat.le_refl _) _
          have HAL := Lib.hid hal
          have hrow := (HN.out.rows i hi6).own
          rw [hm] at hrow
          have HROW := Lib.hid (hrow.alloc (.cells #[.int .u8 ((UInt8.ofNat (20 + i)).toNat : Int)] 5))
          have HM := Lib.hid hm
          clear hal hrow hm
          go_wp2_with (at_builtin; go_loud (refine wpList_add32 rfl _ _ (by rfl) (gk bs.length k i i) m HM.out (U i) (UInt8.ofNat (20 + i)) wr.heap.size (by rfl) (by rfl) HROW.out (MapKept.heap_alloc wr _).1 (by omega) ?_); intro g cap wz hown hgr hor; obtain ⟨⟨ub, hub⟩, hfb⟩ := HN.out.mid hi6 HAL.out hgr; obtain ⟨U2, c3, hps⟩ := HN.out.push hi6 HM.out HAL.out hgr hown hor (gk_push bs.length k i) (fun x hx => gk_other bs.length k i x hx); have HPS := Lib.hid hps; clear hown hgr hor hps HN)
          go_roundw
          case rel => exact ⟨i + 1, U2, c3, by omega, by go_num, HPS⟩
          case measure => simp [intOf]; omega
  clear HL0
  obtain ⟨U, cl6, HL⟩ := hcut
  go_upto_block 14 with fail
  go_cut [25] (fun _ wx => ∃ (col : Nat → Nat), Hid (Late w ao bs P r b5 s6 wd.heap.size s7 b17 T gl cgl gg cgg U (gk bs.length 40 0) wx col))
  case first =>
    as_aux_lemma =>
      go_wp2_with fail
      go_loopw [25, 26, 27] (fun ii _ _ wr => ∃ (i : Nat) (col : Nat → Nat), i ≤ 6 ∧ ii = .int .i64 (i : Int) ∧ Hid (Late w ao bs P r b5 s6 wd.heap.size s7 b17 T gl cgl gg cgg U (gk bs.length 40 0) wr col)) (fun ii _ _ _ => 6 + 1 - (intOf ii).toNat)
      case atStart => exact ⟨0, cl6, Nat.zero_le _, rfl, HL⟩
      case round =>
        clear HL
        obtain ⟨i, c1, hi, rfl, HN⟩ := hrel
        by_cases hlt : i < 6
        case neg =>
          obtain rfl : i = 6 := by omega
          go_wp2
          go_meet
          exact ⟨c1, HN⟩
        have hlt2 : decide ((i : Int) < 6) = true := by simp; omega
        have hkT : i < T.length := by rw [HN.out.nT]; exact hlt
        obtain ⟨ti, hti⟩ : ∃ t, T[i] = t := ⟨_, rfl⟩
        have l0 := HN.out.list_at hkT hti
        clear hti hkT
        have hiw1 : IntKind.i64.wrap (200 + (i : Int)) = 200 + (i : Int) := IntWalk.i64_in _ (by omega)
        have huw1 : IntKind.u8.wrap (200 + (i : Int)) = ((UInt8.ofNat (200 + i)).toNat : Int) := by
          rw [u8_small _ (by omega)]
          simp [IntKind.wrap, IntKind.bits, IntKind.signed]
          omega
        have hiw2 : IntKind.i64.wrap (20 + (i : Int)) = 20 + (i : Int) := IntWalk.i64_in _ (by omega)
        have huw2 : IntKind.u8.wrap (20 + (i : Int)) = ((UInt8.ofNat (20 + i)).toNat : Int) := by
          rw [u8_small _ (by omega)]
          simp [IntKind.wrap, IntKind.bits, IntKind.signed]
          omega
        go_wp2_with fail
        go_loopw [27] (fun jj wr => ∃ (j : Nat) (col : Nat → Nat), j ≤ bs.length + 40 ∧ jj = .int .i64 (j : Int) ∧ Hid (Late w ao bs P r b5 s6 wd.heap.size s7 b17 T gl cgl gg cgg U (gk bs.length 40 0) wr col)) (fun jj _ => bs.length + 40 + 1 - (intOf jj).toNat)
        case atStart => exact ⟨0, c1, Nat.zero_le _, rfl, HN⟩
        case round =>
          clear HN l0
          obtain ⟨j, c2, hj, rfl, HN⟩ := hrel
          have a0 := HN.out.grown_at hlt rfl (gk_size bs.length 40 i)
          by_cases hj4 : j < bs.length + 40
          case neg =>
            have hj5 : decide ((j : Int) < ((bs.length + 40 : Nat) : Int)) = false := by simp; omega
            go_wp2
            go_roundw
            case rel => exact ⟨i + 1, c2, by omega, by go_num, HN⟩
            case measure => simp [intOf]; omega
          have hj5 : decide ((j : Int) < ((bs.length + 40 : Nat) : Int)) = true := by simp; omega
          by_cases hjn : j < bs.length
          case pos =>
            have hj6 : decide ((j : Int) < (bs.length : Int)) = true := by simp; omega
            have hj7 : decide ((bs.length : Int) ≤ (j : Int)) = false := by simp; omega
            have b0 := HN.out.byte_at hlt rfl (gk_front bs.length 40 i j hjn)
            go_wp2_with fail
            go_roundw
            case rel => exact ⟨j + 1, c2, by omega, by go_num, HN⟩
            case measure => simp [intOf]; omega
          case neg =>
            have hj6 : decide ((j : Int) < (bs.length : Int)) = false := by simp; omega
            have hj7 : decide ((bs.length : Int) ≤ (j : Int)) = true := by simp; omega
            have b0 := HN.out.byte_at hlt rfl (gk_back bs.length 40 i j (by omega) hj4)
            go_wp2_with fail
            go_roundw
            case rel => exact ⟨j + 1, c2, by omega, by go_num, HN⟩
            case measure => simp [intOf]; omega
  clear HL
  obtain ⟨cl7, HL⟩ := hcut
  have hle2 := HL.out.held.stay.base.below.size
  go_wp2_with fail
  refine (decode_any ao ca bs wc HL.out.held.stay.arg.lies (by omega) (fun a ha => by have := HA.out a ha; omega)).mono ?_
  rintro e wk (⟨P', s9, hdec, rfl, hO, hbk⟩ | ⟨c, q, hdec, rfl, hbk⟩)
  case inr => rw [HDEC.out] at hdec; cases hdec
  obtain rfl : P = P' := by rw [HDEC.out] at hdec; cases hdec; rfl
  obtain ⟨j1, j2, j3, j4⟩ := two_new2 wk #[.slice s9.a0 P.ghost.length s9.c0, .slice s9.a1 P.vars.length s9.c1, .slice s9.a2 P.tags.length s9.c2, .slice s9.a3 P.on.length s9.c3, .int .i64 P.miss, .slice s9.a4 P.code.length s9.c4] #[.int .i64 0, .int .i64 0] 27 46
  have HH := Lib.hid ((HL.out.held.tr (Tr.below hbk 99 99) (by decide)).tr (Tr.below j3 99 99) (by decide))
  have HP9 := Lib.hid (hO.at.below j3)
  have v0 := cell_at j2 0
  have g0 := cell_at j1 0
  have g1 := cell_at j1 1
  have g2 := cell_at j1 2
  have g3 := cell_at j1 3
  have g4 := cell_at j1 4
  have g5 := cell_at j1 5
  obtain ⟨f0, f1, f2, f3, f4, f5⟩ := HH.out.stay.box.six
  clear hdec hO hbk j1 j2 j3 j4 hle2 HL
  unfold pval
  go_wp2_with fail
  generalize (wk.alloc (.cells #[.slice s9.a0 P.ghost.length s9.c0, .slice s9.a1 P.vars.length s9.c1, .slice s9.a2 P.tags.length s9.c2, .slice s9.a3 P.on.length s9.c3, .int .i64 P.miss, .slice s9.a4 P.code.length s9.c4] 27)).alloc (.cells #[.int .i64 0, .int .i64 0] 46) = wl at *
  have hs := rsame_any s9 r P P wl HP9.out HH.out.stay.was.at_
  rw [prgEq_self] at hs
  refine hs.mono ?_
  rintro e wm ⟨rfl, hbm⟩
  have HHM := Lib.hid (HH.out.tr (Tr.below hbm 99 99) (by decide))
  clear hs hbm HH HP9 v0 g0 g1 g2 g3 g4 g5 f0 f1 f2 f3 f4 f5
  obtain ⟨f0, f1, f2, f3, f4, f5⟩ := HHM.out.stay.box.six
  obtain ⟨g0, g1, g2, g3, g4, g5⟩ := HHM.out.box6.six
  go_wp2_with fail
  obtain ⟨B6, E6, h6⟩ := HHM.out.last
  have hs := rsame_any s6 r P P wm h6.own.at HHM.out.stay.was.at_
  rw [prgEq_self] at hs
  refine hs.mono ?_
  rintro e wn ⟨rfl, hbn⟩
  have HHN := Lib.hid (HHM.out.tr (Tr.below hbn 99 99) (by decide))
  clear hs hbn HHM h6 g0 g1 g2 g3 g4 g5 f0 f1 f2 f3 f4 f5
  obtain ⟨f0, f1, f2, f3, f4, f5⟩ := HHN.out.stay.box.six
  obtain ⟨g0, g1, g2, g3, g4, g5⟩ := HHN.out.box7.six
  go_wp2_with fail
  obtain ⟨B7, E7, h7⟩ := HHN.out.ahead
  have hs := rsame_any s7 r P P wn h7.own.at HHN.out.stay.was.at_
  rw [prgEq_self] at hs
  refine hs.mono ?_
  rintro e wo ⟨rfl, hbo⟩
  have HB := Lib.hid (HHN.out.stay.base.below.trans (hbo.mono HHN.out.stay.base.below.size))
  clear hs hbo HHN h7 g0 g1 g2 g3 g4 g5 f0 f1 f2 f3 f4 f5
  go_wp2_with fail
  go_ret
  exact ⟨rfl, HB.out⟩
end Go.Proofs.YtfjiikadnlhekaaDoor
