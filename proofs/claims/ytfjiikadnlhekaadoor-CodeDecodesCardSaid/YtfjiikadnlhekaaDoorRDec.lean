/-
  What is proved here: the reference's Decode reads a program ('decode') or tells the first fault. Conditions: the bytes lie in memory; at most 2^40 of them.
-/
import Derived.Test.YtfjiikadnlhekaaDoorICode
import Derived.Test.YtfjiikadnlhekaaDoorDec
import Derived.Deep.DeepCutAuto
import Derived.Deep.CutBlock
namespace Go.Proofs.YtfjiikadnlhekaaDoor
open Go.RowKit

theorem rdec_blocks (w : World) (ao : Option Addr) (ca : Nat) (bs : List UInt8) (hL : Lies w ao (bcells bs)) (hlen : bs.length ≤ 1099511627776) (hao : ∀ a, ao = some a → a.block < w.heap.size) :
    let W := ((w.alloc (.cells #[.slice none 0 0, .slice none 0 0, .slice none 0 0, .slice none 0 0, .int .i64 0, .slice none 0 0] 27)).alloc (.cells #[.int .i64 0, .int .i64 0] 46)).alloc (.cells #[.slice ao bs.length ca, .int .i64 0, .int .i64 0, .int .i64 0] 109)
    IAt W (w.heap.size + 1 + 1) ao ca bs 0 0 0 ∧ W.heap[w.heap.size]? = some (.cells #[.slice none 0 0, .slice none 0 0, .slice none 0 0, .slice none 0 0, .int .i64 0, .slice none 0 0] 27 (0, 0)) ∧ W.heap[w.heap.size + 1]? = some (.cells #[.int .i64 0, .int .i64 0] 46 (0, 0)) ∧ Below w.heap.size w W ∧ W.heap.size = w.heap.size + 1 + 1 + 1 := by
  intro W
  have h1 := (MapKept.heap_alloc w (.cells #[.slice none 0 0, .slice none 0 0, .slice none 0 0, .slice none 0 0, .int .i64 0, .slice none 0 0] 27)).1
  have z1 : (w.alloc (.cells #[.slice none 0 0, .slice none 0 0, .slice none 0 0, .slice none 0 0, .int .i64 0, .slice none 0 0] 27)).heap.size = w.heap.size + 1 := by simp
  have b1 := (Below.refl w.heap.size w).alloc (Nat.le_refl _) (.cells #[.slice none 0 0, .slice none 0 0, .slice none 0 0, .slice none 0 0, .int .i64 0, .slice none 0 0] 27)
  generalize hw1 : w.alloc (.cells #[.slice none 0 0, .slice none 0 0, .slice none 0 0, .slice none 0 0, .int .i64 0, .slice none 0 0] 27) = w1 at *
  have h2 := (MapKept.heap_alloc w1 (.cells #[.int .i64 0, .int .i64 0] 46)).1
  have z2 : (w1.alloc (.cells #[.int .i64 0, .int .i64 0] 46)).heap.size = w.heap.size + 1 + 1 := by simp [z1]
  have b2 := b1.alloc (by omega) (.cells #[.int .i64 0, .int .i64 0] 46)
  have h12 := (Below.heap_alloc w1 (.cells #[.int .i64 0, .int .i64 0] 46) _ (by omega)).trans h1
  generalize hw2 : w1.alloc (.cells #[.int .i64 0, .int .i64 0] 46) = w2 at *
  have h3 := (MapKept.heap_alloc w2 (.cells #[.slice ao bs.length ca, .int .i64 0, .int .i64 0, .int .i64 0] 109)).1
  have b3 := b2.alloc (by omega) (.cells #[.slice ao bs.length ca, .int .i64 0, .int .i64 0, .int .i64 0] 109)
  have z3 : (w2.alloc (.cells #[.slice ao bs.length ca, .int .i64 0, .int .i64 0, .int .i64 0] 109)).heap.size = w.heap.size + 1 + 1 + 1 := by simp [z2]
  have e1 : W = w2.alloc (.cells #[.slice ao bs.length ca, .int .i64 0, .int .i64 0, .int .i64 0] 109) := by show ((w.alloc _).alloc _).alloc _ = _; rw [hw1, hw2]
  rw [e1]
  rw [z2] at h3
  rw [z1] at h2
  exact ⟨⟨h3, hL.below b3, fun a ha => by have := hao a ha; omega, hlen, Nat.zero_le _⟩, (Below.heap_alloc w2 _ _ (by omega)).trans h12, (Below.heap_alloc w2 _ _ (by omega)).trans h2, b3, z3⟩

theorem But.belowB {w W w' : World} {b B : Nat} (h : But W w' b) (hB : Below B w W) (hb : B ≤ b) : Below B w w' :=
  ⟨h.os.trans hB.os, h.tape.trans hB.tape, h.output.trans hB.output, by rw [h.size]; exact hB.size, fun k hk => (h.block k (by omega)).trans (hB.block k hk)⟩
theorem rdec_prg (w wc : World) (b : Nat) (ao : Option Addr) (ca : Nat) (bs : List UInt8) (k : Nat) (c p : Int) (hI : IAt wc b ao ca bs k c p) (hb : b < wc.heap.size) (hw : w.heap.size ≤ wc.heap.size) (hao : ∀ a, ao = some a → a.block < w.heap.size) (hB : Below w.heap.size w wc) :
    let X := wc.alloc (.cells #[.slice none 0 0, .slice none 0 0, .slice none 0 0, .slice none 0 0, .int .i64 0, .slice none 0 0] 27)
    ISt X X b wc.heap.size ao ca bs k c p #[.slice none 0 0, .slice none 0 0, .slice none 0 0, .slice none 0 0, .int .i64 0, .slice none 0 0] ∧ Below w.heap.size w X ∧ X.heap.size = wc.heap.size + 1 := by
  intro X
  have hz : X.heap.size = wc.heap.size + 1 := by show (wc.alloc _).heap.size = _; simp
  have h1 : X.heap[wc.heap.size]? = some (.cells #[.slice none 0 0, .slice none 0 0, .slice none 0 0, .slice none 0 0, .int .i64 0, .slice none 0 0] 27 (0, 0)) := (MapKept.heap_alloc wc _).1
  have hbl : Below wc.heap.size wc X := (Below.refl _ wc).alloc (Nat.le_refl _) _
  have hrd : IAt X b ao ca bs k c p := hI.stay (hbl.block b hb) (fun a ha => hbl.block _ (by have := hao a ha; omega))
  exact ⟨⟨rfl, rfl, rfl, Chg.refl _ _ _ _, hrd, h1, by omega, by omega, by omega, fun a ha => by have := hao a ha; omega⟩, hB.alloc hw _, hz⟩

/-- The phases behind the ghosts, the number of places told apart. -/
def qOn (N q : Nat) (gs : List Bool) (vs : List Var3) (ts : List Int) : Rd Prg := andThen (rReps (rOn N) q []) fun os => kMiss N gs vs ts os
def qTags (N q : Nat) (gs : List Bool) (vs : List Var3) : Rd Prg := andThen (rMany N 4) fun t => andThen (rReps (rTag N) t []) fun ts => qOn N q gs vs ts
def qVars (N q : Nat) (gs : List Bool) : Rd Prg := andThen (rMany N 16) fun v => andThen (rReps (rVar N) v []) fun vs => qTags N q gs vs
theorem qVars_eq (N : Nat) (gs : List Bool) : qVars N gs.length gs = kVars N gs := rfl

/-- What is told: a program, or a fault that sticks. -/
def Told (R : Except (Nat × Nat) Prg) (P : Prg) (c p : Int) : Prop := (c = 0 ∧ R = .ok P) ∨ (∃ c' p' : Nat, c' ≠ 0 ∧ c = (c' : Int) ∧ p = (p' : Int) ∧ R = .error (c', p'))
theorem OwnL.but {w w' : World} {b B B' : Nat} {e : TypeId} {sz : Nat} {v : Value} {n : Nat} {xs : List Value} (h : OwnL w B B' e sz v n xs) (hB : But w w' b) (hb : b < B) : OwnL w' B B' e sz v n xs := ⟨own_but h.1 hB hb, h.2⟩
theorem POwn.but {w w' : World} {b B : Nat} {s : Spots} {P : Prg} (h : POwn w B s P) (hB : But w w' b) (hb : b < B) : POwn w' B s P := by
  obtain ⟨B1, B2, B3, B4, B5, h1, h2, h3, h4, h5, h6, f0, f1, f2, f3, f4⟩ := h
  exact ⟨B1, B2, B3, B4, B5, h1, h2, h3, h4, h5, by rw [hB.size]; exact h6, f0.but hB hb, f1.but hB (by omega), f2.but hB (by omega), f3.but hB (by omega), f4.but hB (by omega)⟩

theorem ISt.belowB {W wr : World} {b pb : Nat} {ao : Option Addr} {ca : Nat} {bs : List UInt8} {k : Nat} {c p : Int} {cs : Array Value} (h : ISt W wr b pb ao ca bs k c p cs) {w : World} {B : Nat} (hB : Below B w W) (hz : B ≤ W.heap.size) (hb : B ≤ b) (hp : B ≤ pb) : Below B w wr :=
  ⟨h.os.trans hB.os, h.tape.trans hB.tape, h.output.trans hB.output, Nat.le_trans hB.size h.size, fun k hk => (h.kept k (by omega) (by omega) (by omega)).trans (hB.block k hk)⟩
theorem rdec_results (tmps : Array Value) (w : World) (r f : Nat) (c1 c2 : Array Value) (h2 : tmps.getD 2 undef = .pointer (some ⟨r, 0, none⟩)) (h3 : tmps.getD 3 undef = .pointer (some ⟨f, 0, none⟩))
    (hr : w.heap[r]? = some (.cells c1 27 (0, 0))) (z1 : c1.size = 6) (hf : w.heap[f]? = some (.cells c2 46 (0, 0))) (z2 : c2.size = 2) :
    (results Tryd.f21 tmps).run Tryd.prog w = .ok (.tuple #[.agg c1, .agg c2]) w := by
  have l1 := run_loadVar_row (P := Tryd.prog) w r 27 27 c1 (0, 0) _ hr Tryd.underlying27 rfl (by rw [z1]; kernel_rfl)
  have l2 := run_loadVar_row (P := Tryd.prog) w f 46 46 c2 (0, 0) _ hf Tryd.underlying46 rfl (by rw [z2]; kernel_rfl)
  have h2' : tmps[2]?.getD undef = .pointer (some ⟨r, 0, none⟩) := by simpa using h2
  have h3' : tmps[3]?.getD undef = .pointer (some ⟨f, 0, none⟩) := by simpa using h3
  simp [results, h2', h3', asAddr, l1, l2, Result.andThen]

theorem cell_drew1 (w : World) (a : Addr) : w.drew.cell? a = w.cell? a := rfl

set_option maxHeartbeats 8000000 in
set_option maxRecDepth 100000 in
theorem rdecode_any (ao : Option Addr) (ca : Nat) (bs : List UInt8) (w : World) (hL : Lies w ao (bcells bs)) (hlen : bs.length ≤ 1099511627776) (hao : ∀ a, ao = some a → a.block < w.heap.size) :
    Calls Tryd.prog 21 #[.slice ao bs.length ca] w (DecPost w bs) := by
  obtain ⟨hR, hr, hf, hb, hz⟩ := rdec_blocks w ao ca bs hL hlen hao
  obtain ⟨G, hG⟩ : ∃ G, G = rBody bs.length (bs.drop 0) := ⟨_, rfl⟩
  have HG := Lib.hid hG
  have HS0 : Hid (Sticks bs (andThen (rByte bs.length) fun x => if x.toNat ≠ 87 then flaw 83 0 else kGhost bs.length) G 0 0 0) := Lib.hid (Or.inl ⟨rfl, rfl, hG⟩)
  have HI0 := Lib.hid hR
  have HRB := Lib.hid hr
  have HFB := Lib.hid hf
  have HB := Lib.hid hb
  have HZ := Lib.hid hz
  have HAO := Lib.hid hao
  clear hR hr hf hb hz hL hG hao
  go_enter Tryd.func21, Tryd.ntmps21
  go_wp2_with fail
  generalize ((w.alloc (.cells #[.slice none 0 0, .slice none 0 0, .slice none 0 0, .slice none 0 0, .int .i64 0, .slice none 0 0] 27)).alloc (.cells #[.int .i64 0, .int .i64 0] 46)).alloc (.cells #[.slice ao bs.length ca, .int .i64 0, .int .i64 0, .int .i64 0] 109) = W at *
  refine (ibyte_st _ G (w.heap.size + 1 + 1) ao ca bs 0 0 0 W HI0.out HS0.out).mono ?_
  rintro e w1 ⟨x, k1, c1, p1, rfl, _, hI1, hB1, hS1⟩
  have H1 := Lib.hid hI1
  have HB1 := Lib.hid hB1
  have HS1 := Lib.hid hS1
  have hbd := ibad_any (w.heap.size + 1 + 1) ao ca bs k1 c1 p1 w1 hI1
  obtain ⟨T, hT⟩ : ∃ T : Bool, T = decide (c1 = 0 ∧ x.toNat ≠ 87) := ⟨_, rfl⟩
  have HT := Lib.hid hT
  clear hI1 hB1 hS1 HI0 HS0 hT
  go_upto_region 3 with fail
  go_cut [34] (fun s34 wx => s34 = .bool T ∧ wx = w1)
  case first =>
    as_aux_lemma =>
      by_cases hc : c1 = 0
      case neg =>
        rw [show decide (c1 ≠ 0) = true by simpa using hc] at hbd
        go_wp2_with fail
        refine hbd.mono ?_
        rintro e w2 ⟨rfl, rfl⟩
        clear hbd
        go_wp2_with fail
        go_meet
        exact ⟨congrArg Value.bool (by rw [HT.out, decide_eq_false (by simp [hc])]), rfl⟩
      subst hc
      rw [show decide ((0 : Int) ≠ 0) = false by decide] at hbd
      by_cases h87 : x.toNat = 87
      · have h1 : ((x.toNat : Int) != 87) = false := by rw [h87]; rfl
        have H87 := Lib.hid h87
        clear h87
        go_wp2_with fail
        refine hbd.mono ?_
        rintro e w2 ⟨rfl, rfl⟩
        clear hbd
        go_wp2_with fail
        go_meet
        exact ⟨congrArg Value.bool (by rw [HT.out, decide_eq_false (by simp [H87.out])]), rfl⟩
      · have h1 : ((x.toNat : Int) != 87) = true := by simp; omega
        go_wp2_with fail
        refine hbd.mono ?_
        rintro e w2 ⟨rfl, rfl⟩
        clear hbd
        go_wp2_with fail
        go_meet
        exact ⟨congrArg Value.bool (by rw [HT.out, decide_eq_true (by simp [h87])]), rfl⟩
  obtain ⟨rfl, hwc⟩ := hcut
  obtain rfl : w1 = wc := hwc.symm
  clear hbd
  go_upto_if 34 with fail
  go_cut [34] (fun _ wx => ∃ (k : Nat) (c p : Int), Hid (IAt wx (w.heap.size + 1 + 1) ao ca bs k c p) ∧ Hid (But w1 wx (w.heap.size + 1 + 1)) ∧ Hid (Sticks bs (kGhost bs.length) G k c p))
  case first =>
    as_aux_lemma =>
      cases T
      · have HS2 : Hid (Sticks bs (kGhost bs.length) G k1 c1 p1) := Lib.hid (by
          by_cases hc : c1 = 0
          · refine HS1.out.to fun _ => ?_
            have h := of_decide_eq_false HT.out.symm
            rw [if_neg (fun h87 => h ⟨hc, h87⟩)]
          · exact HS1.out.bad hc)
        go_wp2_with fail
        go_meet
        exact ⟨k1, c1, p1, H1, Lib.hid (But.refl _ _), HS2⟩
      · have h := of_decide_eq_true HT.out.symm
        obtain ⟨hc, h87⟩ := h
        subst hc
        have HGE : Hid (G = .error (83, 0)) := Lib.hid (by
          have h := (HS1.out.good rfl).2
          rw [if_pos h87] at h
          exact h)
        clear h87
        go_wp2_with fail
        refine (ifail_set (w.heap.size + 1 + 1) ao ca bs k1 p1 83 0 _ H1.out).mono ?_
        rintro e w3 ⟨rfl, hI3, hB3⟩
        have H3 := Lib.hid hI3
        have HB3 := Lib.hid hB3
        clear hI3 hB3
        go_wp2_with fail
        go_meet
        exact ⟨k1, 83, 0, H3, HB3, Lib.hid (Sticks.fault 83 0 (by decide) HGE.out)⟩
  obtain ⟨k2, c2, p2, HI2, HB2, HS2⟩ := hcut
  have HBC := Lib.hid ((HB1.out.trans HB2.out).belowB HB.out (by omega))
  have hzc : wc.heap.size = w.heap.size + 1 + 1 + 1 := by rw [HB2.out.size, HB1.out.size, HZ.out]
  have HRB2 := Lib.hid ((HB2.out.block w.heap.size (by omega)).trans ((HB1.out.block w.heap.size (by omega)).trans HRB.out))
  have HFB2 := Lib.hid ((HB2.out.block (w.heap.size + 1) (by omega)).trans ((HB1.out.block (w.heap.size + 1) (by omega)).trans HFB.out))
  obtain ⟨hix, hbx, hszx⟩ := rdec_prg w wc (w.heap.size + 1 + 1) ao ca bs k2 c2 p2 HI2.out (by omega) (by omega) HAO.out HBC.out
  have HIX := Lib.hid hix
  have HBX := Lib.hid hbx
  have HRX := Lib.hid (((Below.refl wc.heap.size wc).alloc (Nat.le_refl _) (.cells #[.slice none 0 0, .slice none 0 0, .slice none 0 0, .slice none 0 0, .int .i64 0, .slice none 0 0] 27)).block w.heap.size (by omega) |>.trans HRB2.out)
  have HFX := Lib.hid (((Below.refl wc.heap.size wc).alloc (Nat.le_refl _) (.cells #[.slice none 0 0, .slice none 0 0, .slice none 0 0, .slice none 0 0, .int .i64 0, .slice none 0 0] 27)).block (w.heap.size + 1) (by omega) |>.trans HFB2.out)
  have hbw : w.heap.size + 1 + 1 < wc.heap.size := by omega
  have hpx : wc.heap.size < (wc.alloc (.cells #[.slice none 0 0, .slice none 0 0, .slice none 0 0, .slice none 0 0, .int .i64 0, .slice none 0 0] 27)).heap.size := by omega
  clear HI2 HB1 HB2 HRB HFB HRB2 HFB2 HBC HB HZ HS1 HT H1 hix hbx hzc hszx
  go_wp2_with fail
  generalize wc.alloc (.cells #[.slice none 0 0, .slice none 0 0, .slice none 0 0, .slice none 0 0, .int .i64 0, .slice none 0 0] 27) = X at *
  generalize wc.heap.size = pb at *
  generalize hb : w.heap.size + 1 + 1 = b at *
  have hwb : w.heap.size + 1 < b := by omega
  clear hb
  refine (imany_st 16 (by omega) _ G b ao ca bs k2 c2 p2 X HIX.out.reader HS2.out).mono ?_
  rintro e w3 ⟨q, k3, c3, p3, rfl, hq, hI3, hB3, hS3⟩
  have HI3 := Lib.hid (HIX.out.but hB3 hI3)
  have HS3 : Hid (Sticks bs (andThen (rReps (rFlag bs.length) (q - 0) []) (kVars bs.length)) G k3 c3 p3) := Lib.hid hS3
  clear hI3 hB3 hS3 HS2 HIX
  go_upto_block 0 with fail
  go_cut [8] (fun _ wx => ∃ (gs : List Bool) (v : Value) (k : Nat) (c p : Int), gs.length ≤ 16 ∧ Hid (c = 0 → gs.length = q) ∧ Hid (ISt X wx b pb ao ca bs k c p #[v, .slice none 0 0, .slice none 0 0, .slice none 0 0, .int .i64 0, .slice none 0 0]) ∧ Hid (wx.ownsRow X.heap.size 4 1 v gs.length (bools gs)) ∧ Hid (Sticks bs (kVars bs.length gs) G k c p))
  case first =>
    as_aux_lemma =>
      obtain ⟨i4, hi4, hz40, hz41, hz42⟩ := info_parts info4'
      have HI4 := Lib.hid (And.intro hi4 (And.intro hz40 (And.intro hz41 hz42)))
      clear hi4 hz40 hz41 hz42
      go_wp2_with fail
      go_loopw [8] (fun ii wr => ∃ (j k : Nat) (c p : Int) (l : List Bool) (v : Value), j ≤ q ∧ ii = .int .i64 (j : Int) ∧ Hid (l.length = j) ∧ Hid (Sticks bs (andThen (rReps (rFlag bs.length) (q - j) l) (kVars bs.length)) G k c p) ∧ Hid (ISt X wr b pb ao ca bs k c p #[v, .slice none 0 0, .slice none 0 0, .slice none 0 0, .int .i64 0, .slice none 0 0]) ∧ Hid (wr.ownsRow X.heap.size 4 1 v l.length (bools l))) (fun ii _ => q + 1 - (intOf ii).toNat)
      case atStart => exact ⟨0, k3, c3, p3, [], .slice none 0 0, Nat.zero_le _, rfl, Lib.hid rfl, HS3, HI3, Lib.hid (World.ownsRow_nil _ _ _ _)⟩
      case round =>
        clear HS3 HI3
        obtain ⟨j, k, c, p, l, v, hj, rfl, HLJ, HS, HI, HO⟩ := hrel
        have hbd := ibad_any b ao ca bs k c p wr HI.out.reader
        have hl16 : l.length ≤ 16 := by have := HLJ.out; omega
        by_cases hlt : j < q
        case neg =>
          obtain rfl : j = q := by omega
          have HF := Lib.hid (st_done HS.out (fun _ => rfl))
          have HLQ : Hid (c = 0 → l.length = j) := Lib.hid (fun _ => HLJ.out)
          clear hbd HS
          go_wp2_with fail
          go_meet
          exact ⟨l, v, k, c, p, hl16, HLQ, HI, HO, HF⟩
        by_cases hc : c = 0
        case neg =>
          rw [show decide (c ≠ 0) = true by simpa using hc] at hbd
          have HF : Hid (Sticks bs (kVars bs.length l) G k c p) := Lib.hid (HS.out.bad hc)
          have HLQ : Hid (c = 0 → l.length = q) := Lib.hid (fun h => absurd h hc)
          clear hc HS
          go_wp2_with fail
          refine hbd.mono ?_
          rintro e w4 ⟨rfl, rfl⟩
          clear hbd
          go_wp2_with fail
          go_meet
          exact ⟨l, v, k, c, p, hl16, HLQ, HI, HO, HF⟩
        subst hc
        rw [show decide ((0 : Int) ≠ 0) = false by decide] at hbd
        have HSF := Lib.hid (st_flag HS.out hlt HI.out.reader.2.2.2.2)
        have a1 : wr.cell? ⟨b, 1, none⟩ = some (.int .i64 (k : Int)) := cell_at HI.out.reader.1 1
        clear HS
        go_wp2_with fail
        refine hbd.mono ?_
        rintro e w4 ⟨rfl, rfl⟩
        clear hbd
        go_wp2_with fail
        refine (ibyte_st _ G b ao ca bs k 0 p _ HI.out.reader HSF.out).mono ?_
        rintro e w5 ⟨x, k5, c5, p5, rfl, _, hI5, hB5, hS5⟩
        have H5 := Lib.hid (HI.out.but hB5 hI5)
        have HO5 := Lib.hid (own_but HO.out hB5 (by omega))
        have HS5 := Lib.hid hS5
        have hbd := ibad_any b ao ca bs k5 c5 p5 w5 hI5
        obtain ⟨T, hT⟩ : ∃ T : Bool, T = decide (c5 = 0 ∧ 1 < x.toNat) := ⟨_, rfl⟩
        have HT := Lib.hid hT
        clear hI5 hB5 hS5 HI HO HSF hT a1
        go_upto_region 12 with fail
        go_cut [62] (fun s62 wx => s62 = .bool T ∧ wx = w5)
        case first =>
          by_cases hc : c5 = 0
          case neg =>
            rw [show decide (c5 ≠ 0) = true by simpa using hc] at hbd
            go_wp2_with fail
            refine hbd.mono ?_
            rintro e w6 ⟨rfl, rfl⟩
            clear hbd
            go_wp2_with fail
            go_meet
            exact ⟨congrArg Value.bool (by rw [HT.out, decide_eq_false (by simp [hc])]), rfl⟩
          subst hc
          rw [show decide ((0 : Int) ≠ 0) = false by decide] at hbd
          by_cases h1 : 1 < x.toNat
          · have h2 : decide ((x.toNat : Int) > 1) = true := decide_eq_true (by omega)
            go_wp2_with fail
            refine hbd.mono ?_
            rintro e w6 ⟨rfl, rfl⟩
            clear hbd
            go_wp2_with fail
            go_meet
            exact ⟨congrArg Value.bool (by rw [HT.out, decide_eq_true (by simp [h1])]), rfl⟩
          · have h2 : decide ((x.toNat : Int) > 1) = false := decide_eq_false (by omega)
            go_wp2_with fail
            refine hbd.mono ?_
            rintro e w6 ⟨rfl, rfl⟩
            clear hbd
            go_wp2_with fail
            go_meet
            exact ⟨congrArg Value.bool (by rw [HT.out, decide_eq_false (by simp [h1])]), rfl⟩
        obtain ⟨rfl, hwc⟩ := hcut
        obtain rfl : w5 = wc := hwc.symm
        clear hbd
        go_upto_if 62 with fail
        go_cut [62] (fun _ wx => ∃ (k : Nat) (c p : Int), Hid (ISt X wx b pb ao ca bs k c p #[v, .slice none 0 0, .slice none 0 0, .slice none 0 0, .int .i64 0, .slice none 0 0]) ∧ Hid (wx.ownsRow X.heap.size 4 1 v l.length (bools l)) ∧ Hid (Sticks bs (andThen (rReps (rFlag bs.length) (q - (j + 1)) (l ++ [x.toNat == 1])) (kVars bs.length)) G k c p))
        case first =>
          cases T
          · have HS6 : Hid (Sticks bs (andThen (rReps (rFlag bs.length) (q - (j + 1)) (l ++ [x.toNat == 1])) (kVars bs.length)) G k5 c5 p5) := Lib.hid (by
              by_cases hc : c5 = 0
              · refine HS5.out.to fun _ => ?_
                have h := of_decide_eq_false HT.out.symm
                rw [if_neg (fun h1 => h ⟨hc, h1⟩)]
                rfl
              · exact HS5.out.bad hc)
            go_wp2_with fail
            go_meet
            exact ⟨k5, c5, p5, H5, HO5, HS6⟩
          · obtain ⟨hc, h1⟩ := of_decide_eq_true HT.out.symm
            subst hc
            have HGE : Hid (G = .error (82, k)) := Lib.hid (by
              have h := (HS5.out.good rfl).2
              rw [if_pos h1] at h
              exact h)
            clear h1
            go_wp2_with fail
            refine (ifail_set b ao ca bs k5 p5 82 k _ H5.out.reader).mono ?_
            rintro e w7 ⟨rfl, hI7, hB7⟩
            have H7 := Lib.hid (H5.out.but hB7 hI7)
            have HO7 := Lib.hid (own_but HO5.out hB7 (by omega))
            clear hI7 hB7
            go_wp2_with fail
            go_meet
            exact ⟨k5, 82, k, H7, HO7, Lib.hid (Sticks.fault 82 k (by decide) HGE.out)⟩
        obtain ⟨k6, c6, p6, HI6, HO6, HS6⟩ := hcut
        have hbv : ((x.toNat : Int) == 1) = (x.toNat == 1) := by rw [Bool.eq_iff_iff]; simp; omega
        generalize (x.toNat == 1) = bv at *
        have c0 : wc.cell? ⟨pb, 0, none⟩ = some v := cell_at HI6.out.cells 0
        have hwX : X.heap.size ≤ wc.heap.size := HI6.out.size
        obtain ⟨hi4, hz40, hz41, hz42⟩ := HI4.out
        clear H5 HO5 HS5 HT
        go_wp2_with (at_builtin; go_loud (refine wpList_append_lies _ rfl _ _ 22 rfl X.heap.size 4 i4 (.bool false) 1 1 Tryd.underlying22 hi4 hz40 hz41 hz42 rfl (by omega) v l.length (bools l) rfl (HO6.out.alloc _) ⟨wc.heap.size, 0, none⟩ 1 1 [.bool bv] rfl rfl (cell_one_new _ _ _) ?g1 (by omega) ?g2 ?g3 ?g4 (wc.heap.size + 1) (by simp) ?_))
        case g1 => rfl
        case g2 => unfold maxLen; omega
        case g3 => omega
        case g4 => omega
        intro g cap w8 hown8 hgr _ _
        have HI8 := Lib.hid ((HI6.out.alloc (.cells #[.bool bv] 4)).push (HO6.out.alloc _) (Nat.le_refl _) hgr)
        have c8 := cell_at HI8.out.cells 0
        have q8 := free_at HI8.out.cells 0
        have HI9 : Hid (ISt X (w8.setCell ⟨pb, 0, none⟩ (.slice (some ⟨g, 0, none⟩) (l.length + 1) cap)) b pb ao ca bs k6 c6 p6 #[.slice (some ⟨g, 0, none⟩) (l.length + 1) cap, .slice none 0 0, .slice none 0 0, .slice none 0 0, .int .i64 0, .slice none 0 0]) := Lib.hid (HI8.out.store 0 _)
        have HO9 : Hid ((w8.setCell ⟨pb, 0, none⟩ (.slice (some ⟨g, 0, none⟩) (l.length + 1) cap)).ownsRow X.heap.size 4 1 (.slice (some ⟨g, 0, none⟩) (l.length + 1) cap) (l ++ [bv]).length (bools (l ++ [bv]))) := Lib.hid (by
          have hbl : bools l ++ [.bool bv] = bools (l ++ [bv]) := by simp [bools]
          have hln : (l ++ [bv]).length = l.length + 1 := by simp
          rw [hln, ← hbl]
          exact push_own hown8 pb 0 _ (by omega))
        clear hown8 hgr c0 HI6 HO6 hi4 hz40 hz41 hz42
        go_wp2
        go_roundw
        case rel => exact ⟨j + 1, k6, c6, p6, l ++ [bv], _, by omega, by go_num, Lib.hid (by have := HLJ.out; simp; omega), HS6, HI9, HO9⟩
        case measure => simp [intOf]; omega
  clear HS3 HI3
  obtain ⟨gs, v0, k4, c4, p4, hgs, HLQ, HI4, HO4, HS4'⟩ := hcut
  have HS4 : Hid (Sticks bs (qVars bs.length q gs) G k4 c4 p4) := Lib.hid (HS4'.out.to (fun hc => by rw [← qVars_eq, HLQ.out hc]))
  clear HS4' HLQ
  obtain ⟨o0, cap0, rfl⟩ := own_form HO4.out
  have F0 := Lib.hid (ownL_now HO4.out)
  have HY := Lib.hid HI4.out.here
  have HXY := Lib.hid HI4.out
  have hXY : X.heap.size ≤ wc.heap.size := HI4.out.size
  clear HI4 HO4
  generalize wc = Y at *
  go_wp2_with fail
  refine (imany_st 16 (by omega) _ G b ao ca bs k4 c4 p4 Y HY.out.reader HS4.out).mono ?_
  rintro e w5 ⟨q2, k5, c5, p5, rfl, hq2, hI5, hB5, hS5⟩
  have HI5 := Lib.hid (HY.out.but hB5 hI5)
  have HS5 : Hid (Sticks bs (andThen (rReps (rVar bs.length) (q2 - 0) []) (qTags bs.length q gs)) G k5 c5 p5) := Lib.hid hS5
  clear hI5 hB5 hS5 HS4 HY
  go_upto_block 2 with fail
  go_cut [12] (fun _ wx => ∃ (vs : List Var3) (v : Value) (k : Nat) (c p : Int), vs.length ≤ 16 ∧ Hid (ISt Y wx b pb ao ca bs k c p #[.slice o0 gs.length cap0, v, .slice none 0 0, .slice none 0 0, .int .i64 0, .slice none 0 0]) ∧ Hid (wx.ownsRow Y.heap.size 70 3 v vs.length (flat var3 vs)) ∧ Hid (Sticks bs (qTags bs.length q gs vs) G k c p))
  case first =>
    as_aux_lemma =>
      obtain ⟨i70, hi7, hz70, hz71, hz72⟩ := info_parts info70
      have HI7 := Lib.hid (And.intro hi7 (And.intro hz70 (And.intro hz71 hz72)))
      clear hi7 hz70 hz71 hz72
      go_wp2_with fail
      go_loopw [12] (fun ii wr => ∃ (j k : Nat) (c p : Int) (l : List Var3) (v : Value), j ≤ q2 ∧ ii = .int .i64 (j : Int) ∧ Hid (l.length = j) ∧ Hid (Sticks bs (andThen (rReps (rVar bs.length) (q2 - j) l) (qTags bs.length q gs)) G k c p) ∧ Hid (ISt Y wr b pb ao ca bs k c p #[.slice o0 gs.length cap0, v, .slice none 0 0, .slice none 0 0, .int .i64 0, .slice none 0 0]) ∧ Hid (wr.ownsRow Y.heap.size 70 3 v l.length (flat var3 l))) (fun ii _ => q2 + 1 - (intOf ii).toNat)
      case atStart => exact ⟨0, k5, c5, p5, [], .slice none 0 0, Nat.zero_le _, rfl, Lib.hid rfl, HS5, HI5, Lib.hid (World.ownsRow_nil _ _ _ _)⟩
      case round =>
        clear HS5 HI5
        obtain ⟨j, k, c, p, l, v, hj, rfl, HLJ, HS, HI, HO⟩ := hrel
        have hbd := ibad_any b ao ca bs k c p wr HI.out.reader
        have hl16 : l.length ≤ 16 := by have := HLJ.out; omega
        by_cases hlt : j < q2
        case neg =>
          obtain rfl : j = q2 := by omega
          have HF := Lib.hid (st_done HS.out (fun _ => rfl))
          clear hbd HS
          go_wp2_with fail
          go_meet
          exact ⟨l, v, k, c, p, hl16, HI, HO, HF⟩
        by_cases hc : c = 0
        case neg =>
          rw [show decide (c ≠ 0) = true by simpa using hc] at hbd
          have HF : Hid (Sticks bs (qTags bs.length q gs l) G k c p) := Lib.hid (HS.out.bad hc)
          clear hc HS
          go_wp2_with fail
          refine hbd.mono ?_
          rintro e w6 ⟨rfl, rfl⟩
          clear hbd
          go_wp2_with fail
          go_meet
          exact ⟨l, v, k, c, p, hl16, HI, HO, HF⟩
        subst hc
        rw [show decide ((0 : Int) ≠ 0) = false by decide] at hbd
        have HSV := Lib.hid (st_var HS.out hlt)
        have hYb : b < Y.heap.size := by omega
        clear HS
        go_wp2_with fail
        refine hbd.mono ?_
        rintro e w6 ⟨rfl, rfl⟩
        clear hbd
        go_wp2_with fail
        refine (iint_st _ G b ao ca bs k 0 p _ HI.out.reader HSV.out).mono ?_
        rintro e w7 ⟨x0, k7, c7, p7, rfl, _, hI7, hB7, hS7⟩
        have h7 := HI.out.but hB7 hI7
        have ho7 := own_but HO.out hB7 hYb
        have hY7 : Y.heap.size ≤ w7.heap.size := h7.size
        have H8 := Lib.hid (h7.alloc (.cells #[.int .i64 x0, .int .i64 0, .int .i64 0] 70))
        have HO8 := Lib.hid (ho7.alloc (.cells #[.int .i64 x0, .int .i64 0, .int .i64 0] 70))
        have HX8 : Hid ((w7.alloc (.cells #[.int .i64 x0, .int .i64 0, .int .i64 0] 70)).heap[w7.heap.size]? = some (.cells #[.int .i64 x0, .int .i64 0, .int .i64 0] 70 (0, 0))) := Lib.hid (MapKept.heap_alloc w7 _).1
        have HVB : Hid (∀ j, v.ownBlock = some j → j < w7.heap.size) := Lib.hid (fun j hj => (ho7.lt j hj).2)
        have HS7 := Lib.hid hS7
        clear hI7 hB7 hS7 h7 ho7 HI HO HSV
        go_wp2_with fail
        generalize w7.alloc (.cells #[.int .i64 x0, .int .i64 0, .int .i64 0] 70) = w8 at *
        generalize w7.heap.size = xb at *
        have hxb : xb ≠ b := by omega
        refine (iint_st _ G b ao ca bs k7 c7 p7 _ H8.out.reader HS7.out).mono ?_
        rintro e w9 ⟨x1, k9, c9, p9, rfl, _, hI9, hB9, hS9⟩
        have h9 := H8.out.but hB9 hI9
        have ho9 := own_but HO8.out hB9 hYb
        have hx9 := (hB9.block xb hxb).trans HX8.out
        have e1 := cell_at hx9 1
        have r1 := free_at hx9 1
        have H10 := Lib.hid (h9.other xb 1 (.int .i64 x1) hY7)
        have HO10 : Hid ((w9.setCell ⟨xb, 1, none⟩ (.int .i64 x1)).ownsRow Y.heap.size 70 3 v l.length (flat var3 l)) := Lib.hid (own_keep ho9 (fun j hj => set_other 1 _ (by have := HVB.out j hj; omega)))
        have HX10 : Hid ((w9.setCell ⟨xb, 1, none⟩ (.int .i64 x1)).heap[xb]? = some (.cells #[.int .i64 x0, .int .i64 x1, .int .i64 0] 70 (0, 0))) := Lib.hid (set_block hx9 1 (.int .i64 x1))
        have HS9 := Lib.hid hS9
        clear hI9 hB9 hS9 h9 ho9 hx9 H8 HO8 HX8 HS7
        go_wp2_with fail
        clear e1 r1
        generalize w9.setCell ⟨xb, 1, none⟩ (.int .i64 x1) = w10 at *
        refine (iint_st _ G b ao ca bs k9 c9 p9 _ H10.out.reader HS9.out).mono ?_
        rintro e w11 ⟨x2, k11, c11, p11, rfl, _, hI11, hB11, hS11⟩
        have h11 := H10.out.but hB11 hI11
        have ho11 := own_but HO10.out hB11 hYb
        have hx11 := (hB11.block xb hxb).trans HX10.out
        have e1 := cell_at hx11 2
        have r1 := free_at hx11 2
        have hxz : xb < w11.heap.size := (Array.getElem?_eq_some_iff.1 hx11).1
        have H12 := Lib.hid (h11.other xb 2 (.int .i64 x2) hY7)
        have HO12 : Hid ((w11.setCell ⟨xb, 2, none⟩ (.int .i64 x2)).ownsRow Y.heap.size 70 3 v l.length (flat var3 l)) := Lib.hid (own_keep ho11 (fun j hj => set_other 2 _ (by have := HVB.out j hj; omega)))
        have hx12 : (w11.setCell ⟨xb, 2, none⟩ (.int .i64 x2)).heap[xb]? = some (.cells #[.int .i64 x0, .int .i64 x1, .int .i64 x2] 70 (0, 0)) := set_block hx11 2 (.int .i64 x2)
        have hz12 : (w11.setCell ⟨xb, 2, none⟩ (.int .i64 x2)).heap.size = w11.heap.size := by simp [World.setCell]
        have f0 := cell_at hx12 0
        have f1 := cell_at hx12 1
        have f2 := cell_at hx12 2
        have c1 : (w11.setCell ⟨xb, 2, none⟩ (.int .i64 x2)).cell? ⟨pb, 1, none⟩ = some v := cell_at H12.out.cells 1
        have hY12 : Y.heap.size ≤ (w11.setCell ⟨xb, 2, none⟩ (.int .i64 x2)).heap.size := H12.out.size
        have HS11 := Lib.hid hS11
        have HZ12 := Lib.hid hz12
        obtain ⟨hi7, hz70, hz71, hz72⟩ := HI7.out
        clear hI11 hB11 hS11 h11 ho11 hx11 H10 HO10 HX10 HS9 hz12 hx12
        go_upto_region 22 with fail
        clear e1 r1
        generalize w11.setCell ⟨xb, 2, none⟩ (.int .i64 x2) = w12 at *
        go_wp2_with (at_builtin; go_loud (refine wpList_append_lies _ rfl _ _ 23 rfl Y.heap.size 70 i70 (.agg #[.int .i64 0, .int .i64 0, .int .i64 0]) 3 24 Tryd.underlying23 hi7 hz70 hz71 hz72 rfl (by omega) v l.length (flat var3 l) rfl (HO12.out.alloc _) ⟨w12.heap.size, 0, none⟩ 1 1 [.int .i64 x0, .int .i64 x1, .int .i64 x2] rfl rfl (World.news_of_block (cs := #[.int .i64 x0, .int .i64 x1, .int .i64 x2]) (t := 70) (fr := (0, 0)) (heap_alloc_new w12 _)) ?v1 (by omega) ?v2 ?v3 ?v4 (w12.heap.size + 1) (by simp) ?_))
        case v1 => exact var3_one [(x0, x1, x2)]
        case v2 => unfold maxLen; omega
        case v3 => omega
        case v4 => first | omega | (simp; omega)
        intro g cap w13 hown13 hgr _ _
        have HI13 := Lib.hid ((H12.out.alloc (.cells #[.int .i64 x0, .int .i64 x1, .int .i64 x2] 70)).push (HO12.out.alloc _) (Nat.le_refl _) hgr)
        have c13 := cell_at HI13.out.cells 1
        have q13 := free_at HI13.out.cells 1
        have HI14 : Hid (ISt Y (w13.setCell ⟨pb, 1, none⟩ (.slice (some ⟨g, 0, none⟩) (l.length + 1) cap)) b pb ao ca bs k11 c11 p11 #[.slice o0 gs.length cap0, .slice (some ⟨g, 0, none⟩) (l.length + 1) cap, .slice none 0 0, .slice none 0 0, .int .i64 0, .slice none 0 0]) := Lib.hid (HI13.out.store 1 _)
        have HO14 : Hid ((w13.setCell ⟨pb, 1, none⟩ (.slice (some ⟨g, 0, none⟩) (l.length + 1) cap)).ownsRow Y.heap.size 70 3 (.slice (some ⟨g, 0, none⟩) (l.length + 1) cap) (l ++ [(x0, x1, x2)]).length (flat var3 (l ++ [(x0, x1, x2)]))) := Lib.hid (by
          have hbl : flat var3 l ++ [.int .i64 x0, .int .i64 x1, .int .i64 x2] = flat var3 (l ++ [(x0, x1, x2)]) := by simp [flat, var3]
          have hln : (l ++ [(x0, x1, x2)]).length = l.length + 1 := by simp
          rw [hln, ← hbl]
          exact push_own hown13 pb 1 _ (by omega))
        clear hown13 hgr c1 f0 f1 f2 H12 HO12 hi7 hz70 hz71 hz72
        go_wp2
        go_roundw
        case rel => exact ⟨j + 1, k11, c11, p11, l ++ [(x0, x1, x2)], _, by omega, by go_num, Lib.hid (by have := HLJ.out; simp; omega), HS11, HI14, HO14⟩
        case measure => simp [intOf]; omega
  clear HS5 HI5
  obtain ⟨vs, v1, k6, c6, p6, hvs, HI6, HO6, HS6⟩ := hcut
  obtain ⟨o1, cap1, rfl⟩ := own_form HO6.out
  have F1 := Lib.hid (ownL_now HO6.out)
  have F0' := Lib.hid (F0.out.since HI6.out (Nat.le_refl _) (by omega) (by omega))
  have HZ := Lib.hid HI6.out.here
  have HYZ := Lib.hid (HXY.out.trans HI6.out)
  have hYZ : Y.heap.size ≤ wc.heap.size := HI6.out.size
  clear HI6 HO6 F0 HXY
  generalize wc = Z at *
  go_wp2_with fail
  refine (imany_st 4 (by omega) _ G b ao ca bs k6 c6 p6 Z HZ.out.reader HS6.out).mono ?_
  rintro e w14 ⟨q3, k7, c7, p7, rfl, hq3, hI7, hB7, hS7⟩
  have HI7 := Lib.hid (HZ.out.but hB7 hI7)
  have HS7 : Hid (Sticks bs (andThen (rReps (rTag bs.length) (q3 - 0) []) (qOn bs.length q gs vs)) G k7 c7 p7) := Lib.hid hS7
  clear hI7 hB7 hS7 HS6 HZ
  go_upto_block 4 with fail
  go_cut [15] (fun _ wx => ∃ (l : List Int) (v : Value) (k : Nat) (c p : Int), l.length ≤ 4 ∧ Hid (ISt Z wx b pb ao ca bs k c p #[.slice o0 gs.length cap0, .slice o1 vs.length cap1, v, .slice none 0 0, .int .i64 0, .slice none 0 0]) ∧ Hid (wx.ownsRow Z.heap.size 3 1 v l.length (nums l)) ∧ Hid (Sticks bs (qOn bs.length q gs vs l) G k c p))
  case first =>
    as_aux_lemma =>
      obtain ⟨i3, hi3, hz30, hz31, hz32⟩ := info_parts info3
      have HI3 := Lib.hid (And.intro hi3 (And.intro hz30 (And.intro hz31 hz32)))
      clear hi3 hz30 hz31 hz32
      go_wp2_with fail
      go_loopw [15] (fun ii wr => ∃ (j k : Nat) (c p : Int) (l : List Int) (v : Value), j ≤ q3 ∧ ii = .int .i64 (j : Int) ∧ Hid (l.length = j) ∧ Hid (Sticks bs (andThen (rReps (rTag bs.length) (q3 - j) l) (qOn bs.length q gs vs)) G k c p) ∧ Hid (ISt Z wr b pb ao ca bs k c p #[.slice o0 gs.length cap0, .slice o1 vs.length cap1, v, .slice none 0 0, .int .i64 0, .slice none 0 0]) ∧ Hid (wr.ownsRow Z.heap.size 3 1 v l.length (nums l))) (fun ii _ => q3 + 1 - (intOf ii).toNat)
      case atStart => exact ⟨0, k7, c7, p7, [], .slice none 0 0, Nat.zero_le _, rfl, Lib.hid rfl, HS7, HI7, Lib.hid (World.ownsRow_nil _ _ _ _)⟩
      case round =>
        clear HS7 HI7
        obtain ⟨j, k, c, p, l, v, hj, rfl, HLJ, HS, HI, HO⟩ := hrel
        have hbd := ibad_any b ao ca bs k c p wr HI.out.reader
        have hl16 : l.length ≤ 4 := by have := HLJ.out; omega
        by_cases hlt : j < q3
        case neg =>
          obtain rfl : j = q3 := by omega
          have HF := Lib.hid (st_done HS.out (fun _ => rfl))
          clear hbd HS
          go_wp2_with fail
          go_meet
          exact ⟨l, v, k, c, p, hl16, HI, HO, HF⟩
        by_cases hc : c = 0
        case neg =>
          rw [show decide (c ≠ 0) = true by simpa using hc] at hbd
          have HF : Hid (Sticks bs (qOn bs.length q gs vs l) G k c p) := Lib.hid (HS.out.bad hc)
          clear hc HS
          go_wp2_with fail
          refine hbd.mono ?_
          rintro e w15 ⟨rfl, rfl⟩
          clear hbd
          go_wp2_with fail
          go_meet
          exact ⟨l, v, k, c, p, hl16, HI, HO, HF⟩
        subst hc
        rw [show decide ((0 : Int) ≠ 0) = false by decide] at hbd
        have HSV := Lib.hid (st_tag HS.out hlt)
        have hBb : b < Z.heap.size := by omega
        clear HS
        go_wp2_with fail
        refine hbd.mono ?_
        rintro e w15 ⟨rfl, rfl⟩
        clear hbd
        go_wp2_with fail
        refine (inum_st _ G b ao ca bs k 0 p _ HI.out.reader HSV.out).mono ?_
        rintro e w16 ⟨u, k9, c9, p9, rfl, hu, hI9, hB9, hS9⟩
        have HI9 := Lib.hid (HI.out.but hB9 hI9)
        have HO9 := Lib.hid (own_but HO.out hB9 hBb)
        have HS9 := Lib.hid hS9
        have hwr : IntKind.i64.wrap (u : Int) = (u : Int) := IntWalk.i64_in _ (by omega)
        have hwq : IntKind.i64.wrap ((u : Int) - 1) = (u : Int) - 1 := IntWalk.i64_in _ (by omega)
        have c2 : w16.cell? ⟨pb, 2, none⟩ = some v := cell_at HI9.out.cells 2
        have hB16 : Z.heap.size ≤ w16.heap.size := HI9.out.size
        obtain ⟨hi3, hz30, hz31, hz32⟩ := HI3.out
        clear hI9 hB9 hS9 HI HO HSV
        go_wp2_with (at_builtin; go_loud (refine wpList_append_lies _ rfl _ _ 24 rfl Z.heap.size 3 i3 (.int .i64 0) 1 8 Tryd.underlying24 hi3 hz30 hz31 hz32 rfl (by omega) v l.length (nums l) rfl (HO9.out.alloc _) ⟨w16.heap.size, 0, none⟩ 1 1 [.int .i64 ((u : Int))] rfl rfl (cell_one_new _ _ _) ?h31 (by omega) ?h32 ?h33 ?h34 (w16.heap.size + 1) (by simp) ?_))
        case h31 => first | rfl | exact nums_one [(u : Int)]
        case h32 => unfold maxLen; omega
        case h33 => omega
        case h34 => first | omega | (simp; omega)
        intro g cap w17 hown17 hgr _ _
        have HI17 := Lib.hid ((HI9.out.alloc (.cells #[.int .i64 ((u : Int))] 3)).push (HO9.out.alloc _) (Nat.le_refl _) hgr)
        have c17 := cell_at HI17.out.cells 2
        have q17 := free_at HI17.out.cells 2
        have HI18 : Hid (ISt Z (w17.setCell ⟨pb, 2, none⟩ (.slice (some ⟨g, 0, none⟩) (l.length + 1) cap)) b pb ao ca bs k9 c9 p9 #[.slice o0 gs.length cap0, .slice o1 vs.length cap1, .slice (some ⟨g, 0, none⟩) (l.length + 1) cap, .slice none 0 0, .int .i64 0, .slice none 0 0]) := Lib.hid (HI17.out.store 2 _)
        have HO18 : Hid ((w17.setCell ⟨pb, 2, none⟩ (.slice (some ⟨g, 0, none⟩) (l.length + 1) cap)).ownsRow Z.heap.size 3 1 (.slice (some ⟨g, 0, none⟩) (l.length + 1) cap) (l ++ [(u : Int)]).length (nums (l ++ [(u : Int)]))) := Lib.hid (by
          have hbl : nums l ++ [.int .i64 ((u : Int))] = nums (l ++ [(u : Int)]) := by simp [nums]
          have hln : (l ++ [(u : Int)]).length = l.length + 1 := by simp
          rw [hln, ← hbl]
          exact push_own hown17 pb 2 _ (by omega))
        clear hown17 hgr c2 HI9 HO9 hi3 hz30 hz31 hz32 hwr hwq
        go_wp2
        go_roundw
        case rel => exact ⟨j + 1, k9, c9, p9, l ++ [(u : Int)], _, by omega, by go_num, Lib.hid (by have := HLJ.out; simp; omega), HS9, HI18, HO18⟩
        case measure => simp [intOf]; omega
  clear HS7 HI7
  obtain ⟨ts, v2, k8, c8, p8, hts, HI8, HO8, HS8⟩ := hcut
  obtain ⟨o2, cap2, rfl⟩ := own_form HO8.out
  have F2 := Lib.hid (ownL_now HO8.out)
  have G0 := Lib.hid (F0'.out.since HI8.out (by omega) (by omega) (by omega))
  have G1 := Lib.hid (F1.out.since HI8.out (Nat.le_refl _) (by omega) (by omega))
  have HI7 := Lib.hid HI8.out.here
  have HZV := Lib.hid (HYZ.out.trans HI8.out)
  have hZV : Z.heap.size ≤ wc.heap.size := HI8.out.size
  have HS7 : Hid (Sticks bs (andThen (rReps (rOn bs.length) (q - 0) []) (kMiss bs.length gs vs ts)) G k8 c8 p8) := Lib.hid HS8.out
  clear HI8 HO8 F0' F1 HYZ HS8
  generalize wc = V at *
  generalize k8 = k7 at *
  generalize c8 = c7 at *
  generalize p8 = p7 at *
  go_upto_block 6 with fail
  go_cut [18] (fun _ wx => ∃ (l : List Int) (v : Value) (k : Nat) (c p : Int), l.length ≤ 16 ∧ Hid (ISt V wx b pb ao ca bs k c p #[.slice o0 gs.length cap0, .slice o1 vs.length cap1, .slice o2 ts.length cap2, v, .int .i64 0, .slice none 0 0]) ∧ Hid (wx.ownsRow V.heap.size 3 1 v l.length (nums l)) ∧ Hid (Sticks bs (kMiss bs.length gs vs ts l) G k c p))
  case first =>
    as_aux_lemma =>
      obtain ⟨i3, hi3, hz30, hz31, hz32⟩ := info_parts info3
      have HI3 := Lib.hid (And.intro hi3 (And.intro hz30 (And.intro hz31 hz32)))
      clear hi3 hz30 hz31 hz32
      go_wp2_with fail
      go_loopw [18] (fun ii wr => ∃ (j k : Nat) (c p : Int) (l : List Int) (v : Value), j ≤ q ∧ ii = .int .i64 (j : Int) ∧ Hid (l.length = j) ∧ Hid (Sticks bs (andThen (rReps (rOn bs.length) (q - j) l) (kMiss bs.length gs vs ts)) G k c p) ∧ Hid (ISt V wr b pb ao ca bs k c p #[.slice o0 gs.length cap0, .slice o1 vs.length cap1, .slice o2 ts.length cap2, v, .int .i64 0, .slice none 0 0]) ∧ Hid (wr.ownsRow V.heap.size 3 1 v l.length (nums l))) (fun ii _ => q + 1 - (intOf ii).toNat)
      case atStart => exact ⟨0, k7, c7, p7, [], .slice none 0 0, Nat.zero_le _, rfl, Lib.hid rfl, HS7, HI7, Lib.hid (World.ownsRow_nil _ _ _ _)⟩
      case round =>
        clear HS7 HI7
        obtain ⟨j, k, c, p, l, v, hj, rfl, HLJ, HS, HI, HO⟩ := hrel
        have hbd := ibad_any b ao ca bs k c p wr HI.out.reader
        have hl16 : l.length ≤ 16 := by have := HLJ.out; omega
        by_cases hlt : j < q
        case neg =>
          obtain rfl : j = q := by omega
          have HF := Lib.hid (st_done HS.out (fun _ => rfl))
          clear hbd HS
          go_wp2_with fail
          go_meet
          exact ⟨l, v, k, c, p, hl16, HI, HO, HF⟩
        by_cases hc : c = 0
        case neg =>
          rw [show decide (c ≠ 0) = true by simpa using hc] at hbd
          have HF : Hid (Sticks bs (kMiss bs.length gs vs ts l) G k c p) := Lib.hid (HS.out.bad hc)
          clear hc HS
          go_wp2_with fail
          refine hbd.mono ?_
          rintro e w15 ⟨rfl, rfl⟩
          clear hbd
          go_wp2_with fail
          go_meet
          exact ⟨l, v, k, c, p, hl16, HI, HO, HF⟩
        subst hc
        rw [show decide ((0 : Int) ≠ 0) = false by decide] at hbd
        have HSV := Lib.hid (st_on HS.out hlt)
        have hBb : b < V.heap.size := by omega
        clear HS
        go_wp2_with fail
        refine hbd.mono ?_
        rintro e w15 ⟨rfl, rfl⟩
        clear hbd
        go_wp2_with fail
        refine (inum_st _ G b ao ca bs k 0 p _ HI.out.reader HSV.out).mono ?_
        rintro e w16 ⟨u, k9, c9, p9, rfl, hu, hI9, hB9, hS9⟩
        have HI9 := Lib.hid (HI.out.but hB9 hI9)
        have HO9 := Lib.hid (own_but HO.out hB9 hBb)
        have HS9 := Lib.hid hS9
        have hwr : IntKind.i64.wrap (u : Int) = (u : Int) := IntWalk.i64_in _ (by omega)
        have hwq : IntKind.i64.wrap ((u : Int) - 1) = (u : Int) - 1 := IntWalk.i64_in _ (by omega)
        have c2 : w16.cell? ⟨pb, 3, none⟩ = some v := cell_at HI9.out.cells 3
        have hB16 : V.heap.size ≤ w16.heap.size := HI9.out.size
        obtain ⟨hi3, hz30, hz31, hz32⟩ := HI3.out
        clear hI9 hB9 hS9 HI HO HSV
        go_wp2_with (at_builtin; go_loud (refine wpList_append_lies _ rfl _ _ 24 rfl V.heap.size 3 i3 (.int .i64 0) 1 8 Tryd.underlying24 hi3 hz30 hz31 hz32 rfl (by omega) v l.length (nums l) rfl (HO9.out.alloc _) ⟨w16.heap.size, 0, none⟩ 1 1 [.int .i64 ((u : Int) - 1)] rfl rfl (cell_one_new _ _ _) ?h41 (by omega) ?h42 ?h43 ?h44 (w16.heap.size + 1) (by simp) ?_))
        case h41 => first | rfl | exact nums_one [(u : Int) - 1]
        case h42 => unfold maxLen; omega
        case h43 => omega
        case h44 => first | omega | (simp; omega)
        intro g cap w17 hown17 hgr _ _
        have HI17 := Lib.hid ((HI9.out.alloc (.cells #[.int .i64 ((u : Int) - 1)] 3)).push (HO9.out.alloc _) (Nat.le_refl _) hgr)
        have c17 := cell_at HI17.out.cells 3
        have q17 := free_at HI17.out.cells 3
        have HI18 : Hid (ISt V (w17.setCell ⟨pb, 3, none⟩ (.slice (some ⟨g, 0, none⟩) (l.length + 1) cap)) b pb ao ca bs k9 c9 p9 #[.slice o0 gs.length cap0, .slice o1 vs.length cap1, .slice o2 ts.length cap2, .slice (some ⟨g, 0, none⟩) (l.length + 1) cap, .int .i64 0, .slice none 0 0]) := Lib.hid (HI17.out.store 3 _)
        have HO18 : Hid ((w17.setCell ⟨pb, 3, none⟩ (.slice (some ⟨g, 0, none⟩) (l.length + 1) cap)).ownsRow V.heap.size 3 1 (.slice (some ⟨g, 0, none⟩) (l.length + 1) cap) (l ++ [(u : Int) - 1]).length (nums (l ++ [(u : Int) - 1]))) := Lib.hid (by
          have hbl : nums l ++ [.int .i64 ((u : Int) - 1)] = nums (l ++ [(u : Int) - 1]) := by simp [nums]
          have hln : (l ++ [(u : Int) - 1]).length = l.length + 1 := by simp
          rw [hln, ← hbl]
          exact push_own hown17 pb 3 _ (by omega))
        clear hown17 hgr c2 HI9 HO9 hi3 hz30 hz31 hz32 hwr hwq
        go_wp2
        go_roundw
        case rel => exact ⟨j + 1, k9, c9, p9, l ++ [(u : Int) - 1], _, by omega, by go_num, Lib.hid (by have := HLJ.out; simp; omega), HS9, HI18, HO18⟩
        case measure => simp [intOf]; omega
  clear HS7 HI7
  obtain ⟨os, v3, k9, c9, p9, hos, HI9, HO9, HS9⟩ := hcut
  obtain ⟨o3, cap3, rfl⟩ := own_form HO9.out
  have F3 := Lib.hid (ownL_now HO9.out)
  have E0 := Lib.hid (G0.out.since HI9.out (by omega) (by omega) (by omega))
  have E1 := Lib.hid (G1.out.since HI9.out (by omega) (by omega) (by omega))
  have E2 := Lib.hid (F2.out.since HI9.out (Nat.le_refl _) (by omega) (by omega))
  have HU := Lib.hid HI9.out.here
  have HXU := Lib.hid (HZV.out.trans HI9.out)
  have hVU : V.heap.size ≤ wc.heap.size := HI9.out.size
  have HSU : Hid (Sticks bs (andThen (rNum bs.length) fun u => kCode bs.length gs vs ts os ((u : Int) - 1)) G k9 c9 p9) := Lib.hid (HS9.out.to (fun _ => by unfold kMiss rOn; rw [andThen_assoc]; rfl))
  clear HI9 HO9 G0 G1 F2 HZV HS9
  generalize wc = U at *
  go_wp2_with fail
  refine (inum_st _ G b ao ca bs k9 c9 p9 _ HU.out.reader HSU.out).mono ?_
  rintro e w20 ⟨u, k10, c10, p10, rfl, hu, hI10, hB10, hS10⟩
  have HI10 := Lib.hid (HU.out.but hB10 hI10)
  obtain ⟨ms, hms⟩ : ∃ ms : Int, ms = (u : Int) - 1 := ⟨_, rfl⟩
  have HS10 : Hid (Sticks bs (andThen (rMany bs.length 262144) fun n => andThen (rReps (rIns bs.length) n []) fun is => told ⟨gs, vs, ts, os, ms, is⟩) G k10 c10 p10) := Lib.hid (by rw [hms]; exact hS10)
  have hwr : IntKind.i64.wrap (u : Int) = (u : Int) := IntWalk.i64_in _ (by omega)
  have hwq : IntKind.i64.wrap ((u : Int) - 1) = ms := by rw [hms]; exact IntWalk.i64_in _ (by omega)
  have hwm : (u : Int) - 1 = ms := hms.symm
  have d4 := cell_at HI10.out.cells 4
  have q4 := free_at HI10.out.cells 4
  have HI11 : Hid (ISt U (w20.setCell ⟨pb, 4, none⟩ (.int .i64 ms)) b pb ao ca bs k10 c10 p10 #[.slice o0 gs.length cap0, .slice o1 vs.length cap1, .slice o2 ts.length cap2, .slice o3 os.length cap3, .int .i64 ms, .slice none 0 0]) := Lib.hid (HI10.out.store 4 _)
  clear hI10 hB10 hS10 HU HSU HI10 hms
  go_wp2_with fail
  clear d4 q4 hwr hwq hwm
  generalize w20.setCell ⟨pb, 4, none⟩ (.int .i64 ms) = w21 at *
  refine (icode_any (fun is => told ⟨gs, vs, ts, os, ms, is⟩) G b pb ao ca bs k10 c10 p10 _ _ _ _ _ w21 HI11.out.here HS10.out).mono ?_
  rintro e w22 ⟨rfl, is, v4, k12, c12, p12, hI12, hO12, hS12⟩
  obtain ⟨o4, cap4, rfl⟩ := own_form hO12
  have hU21 : U.heap.size ≤ w21.heap.size := HI11.out.size
  have HI13 := Lib.hid (HI11.out.trans hI12)
  have E4 := Lib.hid (ownL_now hO12)
  have D0 := Lib.hid (E0.out.since HI13.out (by omega) (by omega) (by omega))
  have D1 := Lib.hid (E1.out.since HI13.out (by omega) (by omega) (by omega))
  have D2 := Lib.hid (E2.out.since HI13.out (by omega) (by omega) (by omega))
  have D3 := Lib.hid (F3.out.since HI13.out (Nat.le_refl _) (by omega) (by omega))
  have HO : Hid (POwn w22 X.heap.size ⟨o0, cap0, o1, cap1, o2, cap2, o3, cap3, o4, cap4⟩ ⟨gs, vs, ts, os, ms, is⟩) := Lib.hid ⟨Y.heap.size, Z.heap.size, V.heap.size, U.heap.size, w22.heap.size, by omega, by omega, by omega, by omega, by have := HI13.out.size; omega, Nat.le_refl _, D0.out, D1.out, D2.out, D3.out, ⟨own_mono E4.out.1 (by omega), E4.out.2⟩⟩
  have HXW := Lib.hid (HXU.out.trans HI13.out)
  have HS12 := Lib.hid hS12
  have hbd := ibad_any b ao ca bs k12 c12 p12 w22 hI12.reader
  have a1 : w22.cell? ⟨b, 1, none⟩ = some (.int .i64 (k12 : Int)) := cell_at hI12.reader.1 1
  have hkb := hI12.reader.2.2.2.2
  obtain ⟨T, hT⟩ : ∃ T : Bool, T = decide (c12 = 0 ∧ k12 < bs.length) := ⟨_, rfl⟩
  have HT := Lib.hid hT
  clear hI12 hO12 hS12 HI11 HI13 E0 E1 E2 E4 F3 D0 D1 D2 D3 HXU HS10 hT hu
  go_upto_region 37 with fail
  go_cut [169] (fun s wx => s = .bool T ∧ wx = w22)
  case first =>
    as_aux_lemma =>
      by_cases hc : c12 = 0
      case neg =>
        rw [show decide (c12 ≠ 0) = true by simpa using hc] at hbd
        go_wp2_with fail
        refine hbd.mono ?_
        rintro e w23 ⟨rfl, rfl⟩
        clear hbd
        go_wp2_with fail
        go_meet
        exact ⟨congrArg Value.bool (by rw [HT.out, decide_eq_false (by simp [hc])]), rfl⟩
      subst hc
      rw [show decide ((0 : Int) ≠ 0) = false by decide] at hbd
      by_cases h1 : k12 < bs.length
      · have h2 : decide ((k12 : Int) < (bs.length : Int)) = true := decide_eq_true (by omega)
        go_wp2_with fail
        refine hbd.mono ?_
        rintro e w23 ⟨rfl, rfl⟩
        clear hbd
        go_wp2_with fail
        go_meet
        exact ⟨congrArg Value.bool (by rw [HT.out, decide_eq_true (by simp [h1])]), rfl⟩
      · have h2 : decide ((k12 : Int) < (bs.length : Int)) = false := decide_eq_false (by omega)
        go_wp2_with fail
        refine hbd.mono ?_
        rintro e w23 ⟨rfl, rfl⟩
        clear hbd
        go_wp2_with fail
        go_meet
        exact ⟨congrArg Value.bool (by rw [HT.out, decide_eq_false (by simp [h1])]), rfl⟩
  obtain ⟨rfl, hwc⟩ := hcut
  obtain rfl : w22 = wc := hwc.symm
  clear hbd
  go_upto_if 169 with fail
  go_cut [169] (fun _ wx => ∃ (c p : Int), Hid (ISt X wx b pb ao ca bs k12 c p #[.slice o0 gs.length cap0, .slice o1 vs.length cap1, .slice o2 ts.length cap2, .slice o3 os.length cap3, .int .i64 ms, .slice o4 is.length cap4]) ∧ Hid (POwn wx X.heap.size ⟨o0, cap0, o1, cap1, o2, cap2, o3, cap3, o4, cap4⟩ ⟨gs, vs, ts, os, ms, is⟩) ∧ Hid (Told (rProg bs) ⟨gs, vs, ts, os, ms, is⟩ c p))
  case first =>
    as_aux_lemma =>
      cases T
      · have HTD : Hid (Told (rProg bs) ⟨gs, vs, ts, os, ms, is⟩ c12 p12) := Lib.hid (by
          rw [dec_shut, ← HG.out]
          by_cases hc : c12 = 0
          · have h := of_decide_eq_false HT.out.symm
            have hk : k12 = bs.length := by
              rcases Nat.lt_or_ge k12 bs.length with h1 | h1
              · exact absurd ⟨hc, h1⟩ h
              · omega
            refine Or.inl ⟨hc, ?_⟩
            rw [(HS12.out.good hc).2, hk]
            show (if bs.drop bs.length = [] then _ else _) = _
            rw [if_pos (by simp)]
          · obtain ⟨c', p', h1, h2, h3, h4⟩ := HS12.out.err hc
            exact Or.inr ⟨c', p', h1, h2, h3, shut_err h4⟩)
        clear a1
        go_wp2_with fail
        go_meet
        exact ⟨c12, p12, HXW, HO, HTD⟩
      · obtain ⟨hc, h1⟩ := of_decide_eq_true HT.out.symm
        subst hc
        have HTD : Hid (Told (rProg bs) ⟨gs, vs, ts, os, ms, is⟩ 84 k12) := Lib.hid (by
          rw [dec_shut, ← HG.out]
          refine Or.inr ⟨84, k12, by decide, rfl, rfl, ?_⟩
          rw [(HS12.out.good rfl).2]
          show (if bs.drop k12 = [] then _ else _) = _
          rw [if_neg (by intro e; have := congrArg List.length e; rw [List.length_drop] at this; simp at this; omega), List.length_drop, show bs.length - (bs.length - k12) = k12 by omega])
        clear h1
        go_wp2_with fail
        refine (ifail_set b ao ca bs k12 p12 84 k12 _ HXW.out.reader).mono ?_
        rintro e w24 ⟨rfl, hI14, hB14⟩
        have H14 := Lib.hid (HXW.out.but hB14 hI14)
        have HO14 := Lib.hid (HO.out.but hB14 (by omega))
        clear hI14 hB14 a1
        go_wp2_with fail
        go_meet
        exact ⟨84, k12, H14, HO14, HTD⟩
  clear HXW HO HS12 HT HG a1
  obtain ⟨c13, p13, HXW, HO, HTD⟩ := hcut
  generalize wc = w25 at *
  have hbd := ibad_any b ao ca bs k12 c13 p13 w25 HXW.out.reader
  obtain ⟨T2, hT2⟩ : ∃ T2 : Bool, T2 = decide (c13 ≠ 0) := ⟨_, rfl⟩
  rw [← hT2] at hbd
  have HT2 := Lib.hid hT2
  clear hT2
  go_wp2_with fail
  refine hbd.mono ?_
  rintro e w26 ⟨rfl, rfl⟩
  clear hbd
  go_upto_if 178 with fail
  go_cut [178] (fun _ wx => ∃ (c p : Int), Hid (ISt X wx b pb ao ca bs k12 c p #[.slice o0 gs.length cap0, .slice o1 vs.length cap1, .slice o2 ts.length cap2, .slice o3 os.length cap3, .int .i64 ms, .slice o4 is.length cap4]) ∧ Hid (POwn wx X.heap.size ⟨o0, cap0, o1, cap1, o2, cap2, o3, cap3, o4, cap4⟩ ⟨gs, vs, ts, os, ms, is⟩) ∧ Hid ((c = 0 ∧ decode bs = .ok ⟨gs, vs, ts, os, ms, is⟩) ∨ (c ≠ 0 ∧ ∃ q : Nat, p = (q : Int) ∧ decode bs = .error (c, q))))
  case first =>
    as_aux_lemma =>
      cases T2
      · have hc : c13 = 0 := by
          rcases Decidable.em (c13 = 0) with h | h
          · exact h
          · have := of_decide_eq_false HT2.out.symm; exact absurd h this
        subst hc
        have HR : Hid (rProg bs = .ok ⟨gs, vs, ts, os, ms, is⟩) := Lib.hid (by
          rcases HTD.out with ⟨_, h⟩ | ⟨c', p', h1, h2, _⟩
          · exact h
          · omega)
        have hck := rcheck_any ⟨o0, cap0, o1, cap1, o2, cap2, o3, cap3, o4, cap4⟩ ⟨gs, vs, ts, os, ms, is⟩ w26 HO.out.at
        unfold pval at hck
        dsimp only at hck
        have d0 := cell_at HXW.out.cells 0
        have d1 := cell_at HXW.out.cells 1
        have d2 := cell_at HXW.out.cells 2
        have d3 := cell_at HXW.out.cells 3
        have d4 := cell_at HXW.out.cells 4
        have d5 := cell_at HXW.out.cells 5
        obtain ⟨er, her⟩ : ∃ er, er = checkErr ⟨gs, vs, ts, os, ms, is⟩ := ⟨_, rfl⟩
        rw [← her] at hck
        have HE := Lib.hid her
        clear her
        go_wp2_with fail
        refine hck.mono ?_
        rintro e w27 ⟨rfl, hb27⟩
        have H27 := Lib.hid (HXW.out.below hb27)
        have HO27 := Lib.hid (HO.out.below hb27)
        clear hck hb27 d0 d1 d2 d3 d4 d5
        go_wp2_with fail
        refine (ifail_set b ao ca bs k12 p13 er 0 _ H27.out.reader).mono ?_
        rintro e w28 ⟨rfl, hI28, hB28⟩
        have H28 := Lib.hid (H27.out.but hB28 hI28)
        have HO28 := Lib.hid (HO27.out.but hB28 (by omega))
        have HF : Hid ((er = 0 ∧ decode bs = .ok ⟨gs, vs, ts, os, ms, is⟩) ∨ (er ≠ 0 ∧ ∃ q : Nat, (0 : Int) = (q : Int) ∧ decode bs = .error (er, q))) := Lib.hid (by
          unfold decode
          rw [HR.out]
          simp only
          rw [← HE.out]
          by_cases h : er = 0
          · exact Or.inl ⟨h, if_pos h⟩
          · exact Or.inr ⟨h, 0, rfl, if_neg h⟩)
        clear hI28 hB28
        go_wp2_with fail
        go_meet
        exact ⟨er, 0, H28, HO28, HF⟩
      · have hc := of_decide_eq_true HT2.out.symm
        have HF : Hid ((c13 = 0 ∧ decode bs = .ok ⟨gs, vs, ts, os, ms, is⟩) ∨ (c13 ≠ 0 ∧ ∃ q : Nat, p13 = (q : Int) ∧ decode bs = .error (c13, q))) := Lib.hid (by
          rcases HTD.out with ⟨h, _⟩ | ⟨c', p', h1, h2, h3, h4⟩
          · exact absurd h hc
          · refine Or.inr ⟨hc, p', h3, ?_⟩
            unfold decode
            rw [h4, h2])
        clear hc
        go_wp2_with fail
        go_meet
        exact ⟨c13, p13, HXW, HO, HF⟩
  clear HXW HO HTD HT2
  obtain ⟨c, p, HXW, HO, HF⟩ := hcut
  have hwX : w.heap.size + 1 < X.heap.size := by omega
  have HBF := Lib.hid (HXW.out.belowB HBX.out (by omega) (by omega) (by omega))
  have hrr := (HXW.out.kept w.heap.size (by omega) (by omega) (by omega)).trans HRX.out
  have hff := (HXW.out.kept (w.heap.size + 1) (by omega) (by omega) (by omega)).trans HFX.out
  have hbd := ibad_any b ao ca bs k12 c p wc HXW.out.reader
  have r0 := cell_at hrr 0
  have r1 := cell_at hrr 1
  have r2 := cell_at hrr 2
  have r3 := cell_at hrr 3
  have r4 := cell_at hrr 4
  have r5 := cell_at hrr 5
  have q0 := free_at hrr 0
  have q1 := free_at hrr 1
  have q2 := free_at hrr 2
  have q3 := free_at hrr 3
  have q4 := free_at hrr 4
  have q5 := free_at hrr 5
  have s0 := cell_at hff 0
  have s1 := cell_at hff 1
  have z0 := free_at hff 0
  have z1 := free_at hff 1
  by_cases hc : c = 0
  · rw [show decide (c ≠ 0) = false by simpa using hc] at hbd
    have hE : decode bs = .ok ⟨gs, vs, ts, os, ms, is⟩ := by
      rcases HF.out with ⟨_, h⟩ | ⟨h, _⟩
      · exact h
      · exact absurd hc h
    have HE := Lib.hid hE
    have d0 := cell_at HXW.out.cells 0
    have d1 := cell_at HXW.out.cells 1
    have d2 := cell_at HXW.out.cells 2
    have d3 := cell_at HXW.out.cells 3
    have d4 := cell_at HXW.out.cells 4
    have d5 := cell_at HXW.out.cells 5
    have HL := Lib.hid (laid8 wc w.heap.size (w.heap.size + 1) _ _ _ _ _ _ (.slice o0 gs.length cap0) (.slice o1 vs.length cap1) (.slice o2 ts.length cap2) (.slice o3 os.length cap3) (.int .i64 ms) (.slice o4 is.length cap4) 0 0 (by omega) hrr hff)
    clear hc hrr hff hE
    go_wp2_with fail
    refine hbd.mono ?_
    rintro e w29 ⟨rfl, rfl⟩
    clear hbd
    go_wp2
    refine bodyPost_ret_by (rdec_results _ _ w.heap.size (w.heap.size + 1) _ _ rfl rfl HL.out.prg rfl HL.out.flt rfl) rfl ?_
    refine Or.inl ⟨⟨gs, vs, ts, os, ms, is⟩, ⟨o0, cap0, o1, cap1, o2, cap2, o3, cap3, o4, cap4⟩, HE.out, rfl, ?_, HBF.out.trans (HL.out.below _ (Nat.le_refl _) (by omega))⟩
    exact (HO.out.stay (fun j hj => HL.out.block j (by omega) (by omega)) (HL.out.below 0 (Nat.zero_le _) (Nat.zero_le _)).size).mono (by omega)
  · rw [show decide (c ≠ 0) = true by simpa using hc] at hbd
    obtain ⟨q, hq, hE⟩ : ∃ q : Nat, p = (q : Int) ∧ decode bs = .error (c, q) := by
      rcases HF.out with ⟨h, _⟩ | ⟨_, h⟩
      · exact absurd h hc
      · exact h
    subst hq
    have HE := Lib.hid hE
    have a2 : wc.cell? ⟨b, 2, none⟩ = some (.int .i64 c) := cell_at HXW.out.reader.1 2
    have a3 : wc.cell? ⟨b, 3, none⟩ = some (.int .i64 (q : Int)) := cell_at HXW.out.reader.1 3
    have HL := Lib.hid (laid8 wc w.heap.size (w.heap.size + 1) _ _ _ _ _ _ (.slice none 0 0) (.slice none 0 0) (.slice none 0 0) (.slice none 0 0) (.int .i64 0) (.slice none 0 0) c (q : Int) (by omega) hrr hff)
    have hbr : w.heap.size ≠ b := by omega
    have hbf : w.heap.size + 1 ≠ b := by omega
    clear hc hrr hff hE
    go_wp2_with fail
    refine hbd.mono ?_
    rintro e w29 ⟨rfl, rfl⟩
    clear hbd
    go_wp2_with fail
    go_region_held3 (fun w' : World => w'.cell? ⟨b, 2, none⟩ = some (.int .i64 c) ∧ w'.cell? ⟨b, 3, none⟩ = some (.int .i64 (q : Int))) (simp only [cell_drew1, World.cell?_setCell_far, ne_eq, hbr, hbf, not_false_eq_true, a2, a3, and_self]) (first | fail)
    generalize ((((((((w29.setCell ⟨w.heap.size, 0, none⟩ (.slice none 0 0)).setCell ⟨w.heap.size, 1, none⟩ (.slice none 0 0)).setCell ⟨w.heap.size, 2, none⟩ (.slice none 0 0)).setCell ⟨w.heap.size, 3, none⟩ (.slice none 0 0)).setCell ⟨w.heap.size, 4, none⟩ (.int .i64 0)).setCell ⟨w.heap.size, 5, none⟩ (.slice none 0 0)).setCell ⟨w.heap.size + 1, 0, none⟩ (.int .i64 c)).setCell ⟨w.heap.size + 1, 1, none⟩ (.int .i64 (q : Int))) = w8 at *
    clear r0 r1 r2 r3 r4 r5 q0 q1 q2 q3 q4 q5 s0 s1 z0 z1 a2 a3
    go_wp2
    have hL1 : w8.drew.heap[w.heap.size]? = some (.cells #[.slice none 0 0, .slice none 0 0, .slice none 0 0, .slice none 0 0, .int .i64 0, .slice none 0 0] 27 (0, 0)) := HL.out.prg
    have hL2 : w8.drew.heap[w.heap.size + 1]? = some (.cells #[.int .i64 c, .int .i64 (q : Int)] 46 (0, 0)) := HL.out.flt
    refine bodyPost_ret_by (rdec_results _ _ w.heap.size (w.heap.size + 1) _ _ rfl rfl hL1 rfl hL2 rfl) rfl ?_
    exact Or.inr ⟨c, q, HE.out, rfl, HBF.out.trans ((HL.out.below _ (Nat.le_refl _) (by omega)).drew)⟩
end Go.Proofs.YtfjiikadnlhekaaDoor
