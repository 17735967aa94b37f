/-
  What is proved here: the reference's code: the instructions are read, or a fault sticks. Conditions: the reader and the program lie in memory.
-/
import Derived.Test.YtfjiikadnlhekaaDoorIn7
import Derived.Test.YtfjiikadnlhekaaDoorRef2
import Derived.Deep.RegionHeld3
import Derived.Deep.AppendLies
namespace Go.Proofs.YtfjiikadnlhekaaDoor
open Go.RowKit

/-- An instruction's operands, four cells. -/
def opc (x : Ins5) : Array Value := #[.int .i64 x.2.1, .int .i64 x.2.2.1, .int .i64 x.2.2.2.1, .int .i64 x.2.2.2.2]
theorem opc_set (op : Nat) (l : List Int) (n : Int) (h : l.length < 4) : (opc (insOf op l)).setIfInBounds l.length (.int .i64 n) = opc (insOf op (l ++ [n])) := by
  match l, h with
  | [], _ => rfl
  | [_], _ => rfl
  | [_, _], _ => rfl
  | [_, _, _], _ => rfl
theorem opc_at (x : Ins5) (i : Nat) (hi : i < 4) : (opc x)[i]? = some (.int .i64 ((opnds x).getD i 0)) := by
  rcases (show i = 0 ∨ i = 1 ∨ i = 2 ∨ i = 3 by omega) with hi | hi | hi | hi <;> (rw [hi]; rfl)
/-- What code leaves. -/
def CodePost {β : Type} (f : List Ins5 → Rd β) (G : Got β) (w : World) (b pb : Nat) (ao : Option Addr) (ca : Nat) (bs : List UInt8) (s0 s1 s2 s3 m : Value) (e : Ending) (w' : World) : Prop :=
  e = .returned (.tuple #[]) ∧ ∃ (is : List Ins5) (v : Value) (k' : Nat) (c' p' : Int), ISt w w' b pb ao ca bs k' c' p' #[s0, s1, s2, s3, m, v] ∧ w'.ownsRow w.heap.size 57 5 v is.length (flat ins5 is) ∧ Sticks bs (f is) G k' c' p'

set_option maxHeartbeats 8000000 in
set_option maxRecDepth 100000 in
theorem icode_any {β : Type} (f : List Ins5 → Rd β) (G : Got β) (b pb : Nat) (ao : Option Addr) (ca : Nat) (bs : List UInt8) (k : Nat) (c p : Int) (s0 s1 s2 s3 m : Value) (w : World)
    (hI : ISt w w b pb ao ca bs k c p #[s0, s1, s2, s3, m, .slice none 0 0]) (hS : Sticks bs (andThen (rMany bs.length 262144) fun n => andThen (rReps (rIns bs.length) n []) f) G k c p) :
    Calls Tryd.prog 58 #[.pointer (some ⟨b, 0, none⟩), .pointer (some ⟨pb, 0, none⟩)] w (CodePost f G w b pb ao ca bs s0 s1 s2 s3 m) := by
  have HI := Lib.hid hI
  have HS := Lib.hid hS
  have hbw := hI.blt
  have hpw := hI.plt
  clear hI hS
  go_enter Tryd.func58, Tryd.ntmps58
  go_wp2_with fail
  refine (imany_st 262144 (by omega) _ G b ao ca bs k c p w HI.out.reader HS.out).mono ?_
  rintro e w1 ⟨n, k1, c1, p1, rfl, hn, hI1, hB1, hS1⟩
  have H1 := Lib.hid (HI.out.but hB1 hI1)
  have HS1 := Lib.hid hS1
  clear hI1 hB1 hS1 HS HI
  go_wp2_with fail
  refine (table_any w1).mono ?_
  rintro e w2 ⟨gt, rfl, hgt, htab, hb2⟩
  have H2 := Lib.hid (H1.out.below hb2)
  have hgt2 : gt < w2.heap.size := (Array.getElem?_eq_some_iff.1 htab).1
  have hgtw : w.heap.size ≤ gt := Nat.le_trans H1.out.size hgt
  have HTAB := Lib.hid htab
  have HH := Lib.hid H2.out.here
  have hw2 := H2.out.size
  obtain ⟨i57, hi5, hz50, hz51, hz52⟩ := info_parts info57
  have HI5 := Lib.hid (And.intro hi5 (And.intro hz50 (And.intro hz51 hz52)))
  clear hi5 hz50 hz51 hz52 hb2 htab H1 hgt
  go_wp2
  go_loopw [6] (fun ii wr => ∃ (j k : Nat) (c p : Int) (l : List Ins5) (v : Value), j ≤ n ∧ ii = .int .i64 (j : Int) ∧ Hid (l.length = j) ∧ Hid (Sticks bs (andThen (rReps (rIns bs.length) (n - j) l) f) G k c p) ∧ Hid (ISt w2 wr b pb ao ca bs k c p #[s0, s1, s2, s3, m, v]) ∧ Hid (wr.ownsRow w2.heap.size 57 5 v l.length (flat ins5 l))) (fun ii _ => n + 1 - (intOf ii).toNat)
  case atStart => exact ⟨0, k1, c1, p1, [], .slice none 0 0, Nat.zero_le _, rfl, Lib.hid rfl, HS1, HH, Lib.hid (World.ownsRow_nil _ _ _ _)⟩
  case round =>
    clear HS1 HH
    obtain ⟨j, k', c, p, l, v, hj, rfl, HLJ, HS, HI, HO⟩ := hrel
    have hbd := ibad_any b ao ca bs k' c p wr HI.out.reader
    by_cases hlt : j < n
    case neg =>
      obtain rfl : j = n := by omega
      have HF := Lib.hid (st_done HS.out (fun _ => rfl))
      have HT := Lib.hid (H2.out.trans HI.out)
      clear hbd HS
      go_wp2
      go_end0
      exact ⟨rfl, l, v, k', c, p, HT.out, own_mono HO.out hw2, HF.out⟩
    by_cases hc : c = 0
    case neg =>
      rw [show decide (c ≠ 0) = true by simpa using hc] at hbd
      have HF : Hid (Sticks bs (f l) G k' c p) := Lib.hid (HS.out.bad hc)
      have HT := Lib.hid (H2.out.trans HI.out)
      clear hc HS
      go_wp2_with fail
      refine hbd.mono ?_
      rintro e w3 ⟨rfl, rfl⟩
      clear hbd
      go_wp2
      go_end0
      exact ⟨rfl, l, v, k', c, p, HT.out, own_mono HO.out hw2, HF.out⟩
    subst hc
    rw [show decide ((0 : Int) ≠ 0) = false by decide] at hbd
    have HSN := Lib.hid (st_ins HS.out hlt HI.out.reader.2.2.2.2)
    clear HS
    go_wp2_with fail
    refine hbd.mono ?_
    rintro e w3 ⟨rfl, rfl⟩
    clear hbd
    go_wp2_with fail
    refine (inum_st _ G b ao ca bs k' 0 p _ HI.out.reader HSN.out).mono ?_
    rintro e w4 ⟨u, k4, c4, p4, rfl, hu, hI4, hB4, hS4⟩
    have H4 := Lib.hid (HI.out.but hB4 hI4)
    have HO4 := Lib.hid (own_but HO.out hB4 (by omega))
    have HS4 := Lib.hid hS4
    have hbd := ibad_any b ao ca bs k4 c4 p4 w4 hI4
    clear HSN HI HO hI4 hB4 hS4
    by_cases hc4 : c4 = 0
    case neg =>
      rw [show decide (c4 ≠ 0) = true by simpa using hc4] at hbd
      have HF : Hid (Sticks bs (f l) G k4 c4 p4) := Lib.hid (HS4.out.bad hc4)
      have HT := Lib.hid (H2.out.trans H4.out)
      clear hc4 HS4
      go_wp2_with fail
      refine hbd.mono ?_
      rintro e w5 ⟨rfl, rfl⟩
      go_wp2_with fail
      refine hbd.mono ?_
      rintro e w6 ⟨rfl, rfl⟩
      clear hbd
      go_wp2
      go_end0
      exact ⟨rfl, l, v, k4, c4, p4, HT.out, own_mono HO4.out hw2, HF.out⟩
    subst hc4
    rw [show decide ((0 : Int) ≠ 0) = false by decide] at hbd
    by_cases h42 : 42 ≤ u
    case pos =>
      have HF : Hid (G = .error (91, k')) := Lib.hid (by rw [(HS4.out.good rfl).2]; dsimp only; rw [if_pos h42]; rfl)
      have hg : decide ((u : Int) ≥ 42) = true := decide_eq_true (by omega)
      clear HS4 h42
      go_wp2_with fail
      refine hbd.mono ?_
      rintro e w5 ⟨rfl, rfl⟩
      clear hbd
      go_wp2_with fail
      refine (ifail_set b ao ca bs k4 p4 91 k' _ H4.out.reader).mono ?_
      rintro e w6 ⟨rfl, hI6, hB6⟩
      have H6 := Lib.hid (H2.out.trans (H4.out.but hB6 hI6))
      have HO6 := Lib.hid (own_but HO4.out hB6 (by omega))
      have hbd := ibad_any b ao ca bs k4 91 k' w6 hI6
      rw [show decide ((91 : Int) ≠ 0) = true by decide] at hbd
      clear H4 HO4 hI6 hB6
      go_wp2_with fail
      refine hbd.mono ?_
      rintro e w7 ⟨rfl, rfl⟩
      clear hbd
      go_wp2
      go_end0
      exact ⟨rfl, l, v, k4, 91, k', H6.out, own_mono HO6.out hw2, Sticks.fault 91 k' (by decide) HF.out⟩
    have hg : decide ((u : Int) ≥ 42) = false := decide_eq_false (by omega)
    have hu42 : u < 42 := by omega
    obtain ⟨F3, hF3⟩ : ∃ F3 : List Int → Rd β, F3 = fun l2 => andThen (rReps (rIns bs.length) (n - (j + 1)) (l ++ [insOf u l2])) f := ⟨_, rfl⟩
    obtain ⟨ks, hks⟩ : ∃ ks, ks = kindsOf (u : Int) := ⟨_, rfl⟩
    have HS5 : Hid (Sticks bs (andThen (rOpnds bs.length (ks.drop 0) []) F3) G k4 0 p4) := Lib.hid (HS4.out.to (fun _ => by dsimp only; rw [if_neg h42, andThen_assoc, hF3, hks]; rfl))
    have HF3 := Lib.hid hF3
    have hks4 : ks.length ≤ 4 := by rw [hks]; exact kinds_short _
    have HK : Hid (∀ i, i < 4 → tabKind u i = (if i < ks.length then kindNo (ks.getD i 0).toNat else 0) ∧ (i < ks.length → kindNo (ks.getD i 0).toNat ≠ 0)) := Lib.hid (fun i hi => by
      have h := kinds_same u hu42 i hi
      rw [← hks] at h
      exact ⟨h.1, h.2.1⟩)
    have H5 := Lib.hid (H4.out.alloc (.cells #[.int .i64 0, .int .i64 0, .int .i64 0, .int .i64 0] 93))
    have HO5 := Lib.hid (HO4.out.alloc (.cells #[.int .i64 0, .int .i64 0, .int .i64 0, .int .i64 0] 93))
    have HX5 : Hid ((w4.alloc (.cells #[.int .i64 0, .int .i64 0, .int .i64 0, .int .i64 0] 93)).heap[w4.heap.size]? = some (.cells (opc (insOf u [])) 93 (0, 0))) := Lib.hid (MapKept.heap_alloc w4 _).1
    have HVB : Hid (∀ j, v.ownBlock = some j → j < w4.heap.size) := Lib.hid (fun j hj => (HO4.out.lt j hj).2)
    have hw4 : w2.heap.size ≤ w4.heap.size := H4.out.size
    clear hF3 hks HS4 HO4 h42
    go_wp2_with fail
    refine hbd.mono ?_
    rintro e w5 ⟨rfl, rfl⟩
    go_wp2_with fail
    refine hbd.mono ?_
    rintro e w6 ⟨rfl, rfl⟩
    clear hbd H4
    go_wp2
    generalize w6.alloc (.cells #[.int .i64 0, .int .i64 0, .int .i64 0, .int .i64 0] 93) = w7 at *
    generalize w6.heap.size = xb at *
    have hk0 : (0 : Int) ≤ (u : Int) := by omega
    have hk1 : (u : Int) < 42 := by omega
    have hk2 : ¬ (u : Int) < 0 := by omega
    have hk3 : ¬ (42 : Int) ≤ (u : Int) := by omega
    go_loopw [10] (fun ii wq => ∃ (i k : Nat) (c p : Int) (l2 : List Int), i ≤ 4 ∧ ii = .int .i64 (i : Int) ∧ Hid (l2.length = min i ks.length) ∧ Hid (Sticks bs (andThen (rOpnds bs.length (ks.drop i) l2) F3) G k c p) ∧ Hid (ISt w2 wq b pb ao ca bs k c p #[s0, s1, s2, s3, m, v]) ∧ Hid (wq.ownsRow w2.heap.size 57 5 v l.length (flat ins5 l)) ∧ Hid (wq.heap[xb]? = some (.cells (opc (insOf u l2)) 93 (0, 0)))) (fun ii _ => 5 - (intOf ii).toNat)
    case atStart => exact ⟨0, k4, 0, p4, [], Nat.zero_le _, rfl, Lib.hid (by simp), HS5, H5, HO5, HX5⟩
    case round =>
      clear HS5 H5 HO5 HX5
      obtain ⟨i, k5, c, p, l2, hi, rfl, HL2, HS, HI, HO, HX⟩ := hrel
      by_cases hi4 : i < 4
      · have hct0 : wr.cell? ⟨gt, u * 5 + 1 + i, none⟩ = some (.int .i64 (tabKind u i : Int)) := by
          rw [cell_at ((HI.out.kept gt hgt2 (by omega) (by omega)).trans HTAB.out) _]
          exact cellInt_some (table_kind u hu42 i hi4)
        obtain ⟨hk, hkn⟩ := HK.out i hi4
        by_cases hik : i < ks.length
        · rw [if_pos hik] at hk
          have hgd : ks.getD i 0 = ks[i] := by rw [List.getD_eq_getElem?_getD, List.getElem?_eq_getElem hik]; rfl
          have hkn2 := hkn hik
          rw [hgd] at hk hkn2
          rw [hk] at hct0
          have HSo := Lib.hid (st_opnd hik HS.out)
          have HLi : Hid (l2.length = i) := Lib.hid (by rw [HL2.out]; omega)
          have hbw2 : b < w2.heap.size := by omega
          clear hk hkn HS HL2
          by_cases h110 : ks[i].toNat = 110
          · have hct : wr.cell? ⟨gt, u * 5 + 1 + i, none⟩ = some (.int .i64 5) := by rw [hct0, h110]; rfl
            have HSi : Hid (Sticks bs (andThen (rInt bs.length) fun n => andThen (rOpnds bs.length (ks.drop (i + 1)) (l2 ++ [n])) F3) G k5 c p) := Lib.hid (by
              have h := HSo.out
              unfold rOpnd at h
              rwa [if_pos h110] at h)
            clear hct0 hgd hkn2 h110 HSo
            go_wp2_with fail
            refine (iint_st _ G b ao ca bs k5 c p _ HI.out.reader HSi.out).mono ?_
            rintro e w8 ⟨nn, k8, c8, p8, rfl, _, hI8, hB8, hS8⟩
            have h8 := HI.out.but hB8 hI8
            have ho8 := own_but HO.out hB8 hbw2
            have hx8 := (hB8.block xb (by omega)).trans HX.out
            have dX := (cell_at hx8 i).trans (opc_at _ i hi4)
            have qX := free_at hx8 i
            have H9 := Lib.hid (h8.other xb i (.int .i64 nn) (by omega))
            have HO9 : Hid ((w8.setCell ⟨xb, i, none⟩ (.int .i64 nn)).ownsRow w2.heap.size 57 5 v l.length (flat ins5 l)) := Lib.hid (own_keep ho8 (fun j hj => set_other i _ (by have := HVB.out j hj; omega)))
            have HX9 : Hid ((w8.setCell ⟨xb, i, none⟩ (.int .i64 nn)).heap[xb]? = some (.cells (opc (insOf u (l2 ++ [nn]))) 93 (0, 0))) := Lib.hid (by
              have hl := HLi.out
              have h := set_block hx8 l2.length (.int .i64 nn)
              rw [opc_set u l2 nn (by omega), hl] at h
              exact h)
            have HS9 := Lib.hid hS8
            have HL9 : Hid ((l2 ++ [nn]).length = min (i + 1) ks.length) := Lib.hid (by have := HLi.out; simp; omega)
            clear hI8 hB8 hS8 h8 ho8 hx8 HI HO HX HSi HLi
            go_wp2
            go_roundw
            case rel => exact ⟨i + 1, k8, c8, p8, l2 ++ [nn], by omega, by go_num, HL9, HS9, H9, HO9, HX9⟩
            case measure => simp [intOf]; omega
          · obtain ⟨tk, htk⟩ : ∃ tk, tk = kindNo ks[i].toNat := ⟨_, rfl⟩
            have htk5 : tk ≠ 5 := by
              rw [htk]
              unfold kindNo
              repeat' split
              all_goals omega
            have htk0 : tk ≠ 0 := by rw [htk]; exact hkn2
            rw [← htk] at hct0
            have e0 : ((tk : Int) == 0) = false := by rw [beq_eq_false_iff_ne]; omega
            have e5 : ((tk : Int) == 5) = false := by rw [beq_eq_false_iff_ne]; omega
            have HSi : Hid (Sticks bs (andThen (rNum bs.length) fun n => andThen (rOpnds bs.length (ks.drop (i + 1)) (l2 ++ [(n : Int)])) F3) G k5 c p) := Lib.hid (by
              have h := HSo.out
              unfold rOpnd at h
              rw [if_neg h110] at h
              unfold rTag at h
              rw [andThen_assoc] at h
              exact h)
            clear hgd hkn2 h110 HSo htk htk5 htk0
            go_wp2_with fail
            refine (inum_st _ G b ao ca bs k5 c p _ HI.out.reader HSi.out).mono ?_
            rintro e w8 ⟨nn, k8, c8, p8, rfl, hnn, hI8, hB8, hS8⟩
            have hwr : IntKind.i64.wrap (nn : Int) = (nn : Int) := IntWalk.i64_in _ (by omega)
            have h8 := HI.out.but hB8 hI8
            have ho8 := own_but HO.out hB8 hbw2
            have hx8 := (hB8.block xb (by omega)).trans HX.out
            have dX := (cell_at hx8 i).trans (opc_at _ i hi4)
            have qX := free_at hx8 i
            have H9 := Lib.hid (h8.other xb i (.int .i64 (nn : Int)) (by omega))
            have HO9 : Hid ((w8.setCell ⟨xb, i, none⟩ (.int .i64 (nn : Int))).ownsRow w2.heap.size 57 5 v l.length (flat ins5 l)) := Lib.hid (own_keep ho8 (fun j hj => set_other i _ (by have := HVB.out j hj; omega)))
            have HX9 : Hid ((w8.setCell ⟨xb, i, none⟩ (.int .i64 (nn : Int))).heap[xb]? = some (.cells (opc (insOf u (l2 ++ [(nn : Int)]))) 93 (0, 0))) := Lib.hid (by
              have hl := HLi.out
              have h := set_block hx8 l2.length (.int .i64 (nn : Int))
              rw [opc_set u l2 nn (by omega), hl] at h
              exact h)
            have HS9 := Lib.hid hS8
            have HL9 : Hid ((l2 ++ [(nn : Int)]).length = min (i + 1) ks.length) := Lib.hid (by have := HLi.out; simp; omega)
            clear hI8 hB8 hS8 h8 ho8 hx8 HI HO HX HSi HLi
            go_wp2
            go_roundw
            case rel => exact ⟨i + 1, k8, c8, p8, l2 ++ [(nn : Int)], by omega, by go_num, HL9, HS9, H9, HO9, HX9⟩
            case measure => simp [intOf]; omega
        · rw [if_neg hik] at hk
          rw [hk] at hct0
          have HS9 : Hid (Sticks bs (andThen (rOpnds bs.length (ks.drop (i + 1)) l2) F3) G k5 c p) := Lib.hid (by
            have h := HS.out
            rw [List.drop_eq_nil_of_le (by omega)] at h
            rw [List.drop_eq_nil_of_le (by omega)]
            exact h)
          have HL9 : Hid (l2.length = min (i + 1) ks.length) := Lib.hid (by rw [HL2.out]; omega)
          clear hk hkn HS HL2
          go_wp2
          go_roundw
          case rel => exact ⟨i + 1, k5, c, p, l2, by omega, by go_num, HL9, HS9, HI, HO, HX⟩
          case measure => simp [intOf]; omega
      · obtain rfl : i = 4 := by omega
        have hlk : l2.length = ks.length := by rw [HL2.out]; omega
        have HS6 : Hid (Sticks bs (F3 l2) G k5 c p) := Lib.hid (HS.out.to (fun _ => by rw [List.drop_eq_nil_of_le hks4]; rfl))
        rw [HF3.out] at HS6
        have hx := HX.out
        obtain ⟨x5, hx5⟩ : ∃ x5, x5 = insOf u l2 := ⟨_, rfl⟩
        have hx50 : x5.1 = (u : Int) := by rw [hx5]; rfl
        rw [← hx5] at hx
        have HS7 : Hid (Sticks bs (andThen (rReps (rIns bs.length) (n - (j + 1)) (l ++ [x5])) f) G k5 c p) := Lib.hid (by rw [hx5]; exact HS6.out)
        obtain ⟨p0, p1, p2, p3, p4⟩ := x5
        obtain rfl : p0 = (u : Int) := hx50
        have f1 : wr.cell? ⟨xb, 0, none⟩ = some (.int .i64 p1) := cell_at hx 0
        have f2 : wr.cell? ⟨xb, 1, none⟩ = some (.int .i64 p2) := cell_at hx 1
        have f3 : wr.cell? ⟨xb, 2, none⟩ = some (.int .i64 p3) := cell_at hx 2
        have f4 : wr.cell? ⟨xb, 3, none⟩ = some (.int .i64 p4) := cell_at hx 3
        have hln : l.length ≤ 262144 := by have := HLJ.out; omega
        have HXW := Lib.hid hx
        clear hlk HS6 hx hx5 HS HL2 HX HF3 HK
        have hiu : IntKind.i64.wrap (u : Int) = (u : Int) := IntWalk.i64_in _ (by omega)
        go_wp2_with fail
        have HD := Lib.hid HI.out.drew
        have HDA := Lib.hid (HI.out.drew.alloc (.cells #[.int .i64 (u : Int), .int .i64 p1, .int .i64 p2, .int .i64 p3, .int .i64 p4] 57))
        have HOD := Lib.hid ((own_keep (w' := wr.drew) HO.out (fun j hj => rfl)).alloc (.cells #[.int .i64 (u : Int), .int .i64 p1, .int .i64 p2, .int .i64 p3, .int .i64 p4] 57))
        have hsx : ∀ w' : World, w'.heap[xb]? = wr.heap[xb]? → w'.cell? ⟨xb, 0, none⟩ = some (.int .i64 p1) ∧ w'.cell? ⟨xb, 1, none⟩ = some (.int .i64 p2) ∧ w'.cell? ⟨xb, 2, none⟩ = some (.int .i64 p3) ∧ w'.cell? ⟨xb, 3, none⟩ = some (.int .i64 p4) := fun w' h => by
          have hw := h.trans HXW.out
          exact ⟨cell_at hw 0, cell_at hw 1, cell_at hw 2, cell_at hw 3⟩
        have HSX := Lib.hid hsx
        have hxa : Hid ((wr.drew.alloc (.cells #[.int .i64 (u : Int), .int .i64 p1, .int .i64 p2, .int .i64 p3, .int .i64 p4] 57)).heap[xb]? = wr.heap[xb]?) := Lib.hid (Below.heap_alloc wr.drew _ _ (by have := (Array.getElem?_eq_some_iff.1 HXW.out).1; exact this))
        have d5 : wr.drew.cell? ⟨pb, 5, none⟩ = some v := cell_at HD.out.cells 5
        have d5a : (wr.drew.alloc (.cells #[.int .i64 (u : Int), .int .i64 p1, .int .i64 p2, .int .i64 p3, .int .i64 p4] 57)).cell? ⟨pb, 5, none⟩ = some v := cell_at HDA.out.cells 5
        have d50 : wr.cell? ⟨pb, 5, none⟩ = some v := cell_at HI.out.cells 5
        have d5b : (wr.alloc (.cells #[.int .i64 (u : Int), .int .i64 p1, .int .i64 p2, .int .i64 p3, .int .i64 p4] 57)).cell? ⟨pb, 5, none⟩ = some v := cell_at (HI.out.alloc (.cells #[.int .i64 (u : Int), .int .i64 p1, .int .i64 p2, .int .i64 p3, .int .i64 p4] 57)).cells 5
        have hwz : w2.heap.size ≤ wr.heap.size := HI.out.size
        have hpz : pb ≠ xb := by omega
        have hmv : l.length + 1 ≤ maxLen := by unfold maxLen; omega
        have hmb : (l.length + 1) * 40 ≤ 140737488355328 := by omega
        have hba : w2.heap.size ≤ (wr.drew.alloc (.cells #[.int .i64 (u : Int), .int .i64 p1, .int .i64 p2, .int .i64 p3, .int .i64 p4] 57)).heap.size := by simp; omega
        obtain ⟨hi5, hz50, hz51, hz52⟩ := HI5.out
        clear hsx HI HO
        refine wp_region_held_drew (S := (fun w' : World => w'.cell? ⟨xb, 0, none⟩ = some (.int .i64 p1) ∧ w'.cell? ⟨xb, 1, none⟩ = some (.int .i64 p2) ∧ w'.cell? ⟨xb, 2, none⟩ = some (.int .i64 p3) ∧ w'.cell? ⟨xb, 3, none⟩ = some (.int .i64 p4))) (by kernel_rfl) ?_ (fun hHeld => ?_)
        · exact HSX.out wr.drew rfl
        refine wpAnyH_take (i := 0) (v := Value.pointer (some ⟨pb, 0, none⟩)) rfl (by kernel_rfl) (by kernel_rfl) (by kernel_rfl) (fun _ _ _ h => h) (Or.inl ⟨by rfl, (by intro w hSw; (try dsimp only at hSw); go_simp)⟩) hHeld ?_
        simp only [Act.put, List.setIfInBounds_toArray]
        refine wpAnyH_take (i := 1) (v := Value.pointer (some ⟨pb, 0, none⟩)) rfl (by kernel_rfl) (by kernel_rfl) (by kernel_rfl) (fun _ _ _ h => h) (Or.inl ⟨by rfl, (by intro w hSw; (try dsimp only at hSw); go_simp)⟩) hHeld ?_
        simp only [Act.put]
        refine wpAnyH_take (i := 2) (v := Value.pointer (some ⟨pb, 0, none⟩)) rfl (by kernel_rfl) (by kernel_rfl) (by kernel_rfl) (fun _ _ _ h => h) (Or.inl ⟨by rfl, (by intro w hSw; (try dsimp only at hSw); go_simp)⟩) hHeld ?_
        simp only [Act.put]
        refine wpAnyH_take (i := 3) (v := Value.pointer (some ⟨pb, 5, none⟩)) rfl (by kernel_rfl) (by kernel_rfl) (by kernel_rfl) (fun _ _ _ h => h) (Or.inl ⟨by rfl, (by intro w hSw; (try dsimp only at hSw); go_simp)⟩) hHeld ?_
        simp only [Act.put]
        refine wpAnyH_take (i := 5) (v := Value.int .u64 (u : Int)) rfl (by kernel_rfl) (by kernel_rfl) (by kernel_rfl) (fun _ _ _ h => h) (Or.inl ⟨by rfl, (by intro w hSw; (try dsimp only at hSw); go_simp)⟩) hHeld ?_
        simp only [Act.put]
        refine wpAnyH_take (i := 6) (v := Value.int .i64 (u : Int)) rfl (by kernel_rfl) (by kernel_rfl) (by kernel_rfl) (fun _ _ _ h => h) (Or.inl ⟨by rfl, (by intro w hSw; (try dsimp only at hSw); go_simp)⟩) hHeld ?_
        simp only [Act.put]
        refine wpAnyH_take (i := 7) (v := Value.pointer (some ⟨xb, 0, none⟩)) rfl (by kernel_rfl) (by kernel_rfl) (by kernel_rfl) (fun _ _ _ h => h) (Or.inl ⟨by rfl, (by intro w hSw; (try dsimp only at hSw); go_simp)⟩) hHeld ?_
        simp only [Act.put]
        refine wpAnyH_take (i := 8) (v := Value.int .i64 p1) rfl (by kernel_rfl) (by kernel_rfl) (by kernel_rfl) (fun _ _ _ h => h) (Or.inl ⟨by rfl, (by intro w hSw; (try dsimp only at hSw); go_simp)⟩) hHeld ?_
        simp only [Act.put]
        refine wpAnyH_take (i := 9) (v := Value.pointer (some ⟨xb, 1, none⟩)) rfl (by kernel_rfl) (by kernel_rfl) (by kernel_rfl) (fun _ _ _ h => h) (Or.inl ⟨by rfl, (by intro w hSw; (try dsimp only at hSw); go_simp)⟩) hHeld ?_
        simp only [Act.put]
        refine wpAnyH_take (i := 10) (v := Value.int .i64 p2) rfl (by kernel_rfl) (by kernel_rfl) (by kernel_rfl) (fun _ _ _ h => h) (Or.inl ⟨by rfl, (by intro w hSw; (try dsimp only at hSw); go_simp)⟩) hHeld ?_
        simp only [Act.put]
        refine wpAnyH_take (i := 11) (v := Value.pointer (some ⟨xb, 2, none⟩)) rfl (by kernel_rfl) (by kernel_rfl) (by kernel_rfl) (fun _ _ _ h => h) (Or.inl ⟨by rfl, (by intro w hSw; (try dsimp only at hSw); go_simp)⟩) hHeld ?_
        simp only [Act.put]
        refine wpAnyH_take (i := 12) (v := Value.int .i64 p3) rfl (by kernel_rfl) (by kernel_rfl) (by kernel_rfl) (fun _ _ _ h => h) (Or.inl ⟨by rfl, (by intro w hSw; (try dsimp only at hSw); go_simp)⟩) hHeld ?_
        simp only [Act.put]
        refine wpAnyH_take (i := 13) (v := Value.pointer (some ⟨xb, 3, none⟩)) rfl (by kernel_rfl) (by kernel_rfl) (by kernel_rfl) (fun _ _ _ h => h) (Or.inl ⟨by rfl, (by intro w hSw; (try dsimp only at hSw); go_simp)⟩) hHeld ?_
        simp only [Act.put]
        refine wpAnyH_take (i := 14) (v := Value.int .i64 p4) rfl (by kernel_rfl) (by kernel_rfl) (by kernel_rfl) (fun _ _ _ h => h) (Or.inl ⟨by rfl, (by intro w hSw; (try dsimp only at hSw); go_simp)⟩) hHeld ?_
        simp only [Act.put]
        refine wpAnyH_take (i := 15) (v := Value.agg #[.int .i64 (u : Int), .int .i64 p1, .int .i64 p2, .int .i64 p3, .int .i64 p4]) rfl (by kernel_rfl) (by kernel_rfl) (by kernel_rfl) (fun _ _ _ h => h) (Or.inl ⟨by rfl, (by intro w hSw; (try dsimp only at hSw); go_simp)⟩) hHeld ?_
        simp only [Act.put]
        refine wpAnyH_ready (rs := [4, 16]) (by kernel_rfl) (by simp) (AllReadyH.cons rfl (fun K hK => ?ra) (AllReadyH.cons rfl (fun K hK => ?rb) AllReadyH.nil))
        case ra =>
          go_simp
          refine hK.out _ _ hHeld (fun hHeld => ?_)
          clear hK K
          refine wpAnyH_ready (rs := [16]) (by kernel_rfl) (by simp) (AllReadyH.cons rfl (fun K hK => ?_) AllReadyH.nil)
          go_simp
          refine hK.out _ _ (HSX.out _ hxa.out) (fun hHeld => ?_)
          clear hK K
          refine wpAnyH_ready (rs := [17]) (by kernel_rfl) (by simp) (AllReadyH.cons rfl (fun K hK => ?_) AllReadyH.nil)
          refine step_append_lies _ (by rfl) _ _ _ (by rfl) w2.heap.size 57 i57 _ 5 40 Tryd.underlying25 hi5 hz50 hz51 hz52 rfl (by omega) v l.length (flat ins5 l) (by rfl) HOD.out ⟨wr.heap.size, 0, none⟩ 1 1 [.int .i64 (u : Int), .int .i64 p1, .int .i64 p2, .int .i64 p3, .int .i64 p4] (by rfl) (by rfl) (World.news_of_block (cs := #[.int .i64 (u : Int), .int .i64 p1, .int .i64 p2, .int .i64 p3, .int .i64 p4]) (t := 57) (fr := (0, 0)) (heap_alloc_new wr.drew _)) (ins5_one [((u : Int), p1, p2, p3, p4)]) (by omega) hmv hmb hba (wr.heap.size + 1) (by simp) ?_
          intro g cap w10 hown10 hgr _ _
          have HI10 := Lib.hid (HDA.out.push HOD.out (Nat.le_refl _) hgr)
          have HX10 : Hid (w10.heap[xb]? = wr.heap[xb]?) := Lib.hid ((hgr.block xb (by simp; have := (Array.getElem?_eq_some_iff.1 HXW.out).1; omega) (fun e => by have := HVB.out xb e.symm; omega)).trans hxa.out)
          have c10 := cell_at HI10.out.cells 5
          have q10 := free_at HI10.out.cells 5
          have HO11 : Hid ((w10.setCell ⟨pb, 5, none⟩ (.slice (some ⟨g, 0, none⟩) (l.length + 1) cap)).ownsRow w2.heap.size 57 5 (.slice (some ⟨g, 0, none⟩) (l.length + 1) cap) (l ++ [((u : Int), p1, p2, p3, p4)]).length (flat ins5 (l ++ [((u : Int), p1, p2, p3, p4)]))) := Lib.hid (by
            have hbl : flat ins5 l ++ [.int .i64 (u : Int), .int .i64 p1, .int .i64 p2, .int .i64 p3, .int .i64 p4] = flat ins5 (l ++ [((u : Int), p1, p2, p3, p4)]) := by simp [flat, ins5]
            have hln : (l ++ [((u : Int), p1, p2, p3, p4)]).length = l.length + 1 := by simp
            rw [hln, ← hbl]
            exact push_own hown10 pb 5 _ (by omega))
          have HI11 : Hid (ISt w2 (w10.setCell ⟨pb, 5, none⟩ (.slice (some ⟨g, 0, none⟩) (l.length + 1) cap)) b pb ao ca bs k5 c p #[s0, s1, s2, s3, m, .slice (some ⟨g, 0, none⟩) (l.length + 1) cap]) := Lib.hid (HI10.out.store 5 _)
          have HX11 : Hid ((w10.setCell ⟨pb, 5, none⟩ (.slice (some ⟨g, 0, none⟩) (l.length + 1) cap)).heap[xb]? = wr.heap[xb]?) := Lib.hid ((set_other 5 _ (by omega)).trans HX10.out)
          clear hown10 hgr
          refine hK.out _ _ (HSX.out _ HX10.out) (fun hHeld => ?_)
          clear hK K
          refine wpAnyH_take (i := 18) (v := Value.pointer (some ⟨pb, 0, none⟩)) rfl (by kernel_rfl) (by kernel_rfl) (by kernel_rfl) (fun _ _ _ h => h) (Or.inl ⟨by rfl, (by intro w hSw; (try dsimp only at hSw); go_simp)⟩) hHeld ?_
          simp only [Act.put]
          refine wpAnyH_take (i := 19) (v := Value.pointer (some ⟨pb, 5, none⟩)) rfl (by kernel_rfl) (by kernel_rfl) (by kernel_rfl) (fun _ _ _ h => h) (Or.inl ⟨by rfl, (by intro w hSw; (try dsimp only at hSw); go_simp)⟩) hHeld ?_
          simp only [Act.put]
          refine wpAnyH_ready (rs := [20]) (by kernel_rfl) (by simp) (AllReadyH.cons rfl (fun K hK => ?_) AllReadyH.nil)
          go_simp
          refine hK.out _ _ (HSX.out _ HX11.out) (fun hHeld => ?_)
          clear hK K
          refine wpAnyH_done (by kernel_rfl) ?_ _
          clear c10 q10 hHeld d5 d5a d5b d50 f1 f2 f3 f4
          go_wp2
          go_roundw
          case rel => exact ⟨j + 1, k5, c, p, l ++ [((u : Int), p1, p2, p3, p4)], _, by omega, by go_num, Lib.hid (by have := HLJ.out; simp; omega), HS7, HI11, HO11⟩
          case measure => simp [intOf]; omega
        case rb =>
          go_simp
          refine hK.out _ _ (HSX.out _ hxa.out) (fun hHeld => ?_)
          clear hK K
          refine wpAnyH_ready (rs := [4]) (by kernel_rfl) (by simp) (AllReadyH.cons rfl (fun K hK => ?_) AllReadyH.nil)
          go_simp
          refine hK.out _ _ (HSX.out _ hxa.out) (fun hHeld => ?_)
          clear hK K
          refine wpAnyH_ready (rs := [17]) (by kernel_rfl) (by simp) (AllReadyH.cons rfl (fun K hK => ?_) AllReadyH.nil)
          refine step_append_lies _ (by rfl) _ _ _ (by rfl) w2.heap.size 57 i57 _ 5 40 Tryd.underlying25 hi5 hz50 hz51 hz52 rfl (by omega) v l.length (flat ins5 l) (by rfl) HOD.out ⟨wr.heap.size, 0, none⟩ 1 1 [.int .i64 (u : Int), .int .i64 p1, .int .i64 p2, .int .i64 p3, .int .i64 p4] (by rfl) (by rfl) (World.news_of_block (cs := #[.int .i64 (u : Int), .int .i64 p1, .int .i64 p2, .int .i64 p3, .int .i64 p4]) (t := 57) (fr := (0, 0)) (heap_alloc_new wr.drew _)) (ins5_one [((u : Int), p1, p2, p3, p4)]) (by omega) hmv hmb hba (wr.heap.size + 1) (by simp) ?_
          intro g cap w10 hown10 hgr _ _
          have HI10 := Lib.hid (HDA.out.push HOD.out (Nat.le_refl _) hgr)
          have HX10 : Hid (w10.heap[xb]? = wr.heap[xb]?) := Lib.hid ((hgr.block xb (by simp; have := (Array.getElem?_eq_some_iff.1 HXW.out).1; omega) (fun e => by have := HVB.out xb e.symm; omega)).trans hxa.out)
          have c10 := cell_at HI10.out.cells 5
          have q10 := free_at HI10.out.cells 5
          have HO11 : Hid ((w10.setCell ⟨pb, 5, none⟩ (.slice (some ⟨g, 0, none⟩) (l.length + 1) cap)).ownsRow w2.heap.size 57 5 (.slice (some ⟨g, 0, none⟩) (l.length + 1) cap) (l ++ [((u : Int), p1, p2, p3, p4)]).length (flat ins5 (l ++ [((u : Int), p1, p2, p3, p4)]))) := Lib.hid (by
            have hbl : flat ins5 l ++ [.int .i64 (u : Int), .int .i64 p1, .int .i64 p2, .int .i64 p3, .int .i64 p4] = flat ins5 (l ++ [((u : Int), p1, p2, p3, p4)]) := by simp [flat, ins5]
            have hln : (l ++ [((u : Int), p1, p2, p3, p4)]).length = l.length + 1 := by simp
            rw [hln, ← hbl]
            exact push_own hown10 pb 5 _ (by omega))
          have HI11 : Hid (ISt w2 (w10.setCell ⟨pb, 5, none⟩ (.slice (some ⟨g, 0, none⟩) (l.length + 1) cap)) b pb ao ca bs k5 c p #[s0, s1, s2, s3, m, .slice (some ⟨g, 0, none⟩) (l.length + 1) cap]) := Lib.hid (HI10.out.store 5 _)
          have HX11 : Hid ((w10.setCell ⟨pb, 5, none⟩ (.slice (some ⟨g, 0, none⟩) (l.length + 1) cap)).heap[xb]? = wr.heap[xb]?) := Lib.hid ((set_other 5 _ (by omega)).trans HX10.out)
          clear hown10 hgr
          refine hK.out _ _ (HSX.out _ HX10.out) (fun hHeld => ?_)
          clear hK K
          refine wpAnyH_take (i := 18) (v := Value.pointer (some ⟨pb, 0, none⟩)) rfl (by kernel_rfl) (by kernel_rfl) (by kernel_rfl) (fun _ _ _ h => h) (Or.inl ⟨by rfl, (by intro w hSw; (try dsimp only at hSw); go_simp)⟩) hHeld ?_
          simp only [Act.put]
          refine wpAnyH_take (i := 19) (v := Value.pointer (some ⟨pb, 5, none⟩)) rfl (by kernel_rfl) (by kernel_rfl) (by kernel_rfl) (fun _ _ _ h => h) (Or.inl ⟨by rfl, (by intro w hSw; (try dsimp only at hSw); go_simp)⟩) hHeld ?_
          simp only [Act.put]
          refine wpAnyH_ready (rs := [20]) (by kernel_rfl) (by simp) (AllReadyH.cons rfl (fun K hK => ?_) AllReadyH.nil)
          go_simp
          refine hK.out _ _ (HSX.out _ HX11.out) (fun hHeld => ?_)
          clear hK K
          refine wpAnyH_done (by kernel_rfl) ?_ _
          clear c10 q10 hHeld d5 d5a d5b d50 f1 f2 f3 f4
          go_wp2
          go_roundw
          case rel => exact ⟨j + 1, k5, c, p, l ++ [((u : Int), p1, p2, p3, p4)], _, by omega, by go_num, Lib.hid (by have := HLJ.out; simp; omega), HS7, HI11, HO11⟩
          case measure => simp [intOf]; omega
end Go.Proofs.YtfjiikadnlhekaaDoor
