/-
  What is proved here: code's Check. Conditions: the program lies in memory.
-/
import Derived.Test.YtfjiikadnlhekaaDoorCheck3
import Derived.Deep.RegionHeld3
namespace Go.Proofs.YtfjiikadnlhekaaDoor
open Go.RowKit

def opnds (x : Ins5) : List Int := [x.2.1, x.2.2.1, x.2.2.2.1, x.2.2.2.2]
def kindsOf (op : Int) : List UInt8 := (shapes.getD op.toNat ([], [])).2
def bndAt (P : Prg) (ks : List UInt8) (i : Nat) : Int × Int := if i < ks.length then bnds P (ks.getD i 0).toNat else (0, 0)
def fitAt (P : Prg) (x : Ins5) (i : Nat) : Bool := decide ((bndAt P (kindsOf x.1) i).1 ≤ (opnds x).getD i 0) && decide ((opnds x).getD i 0 ≤ (bndAt P (kindsOf x.1) i).2)
/-- What is amiss with an instruction. -/
def insErr (P : Prg) (x : Ins5) : Int := if x.1 < 0 ∨ 42 ≤ x.1 then 91 else if (List.range 4).all (fitAt P x) then 0 else 92
def codeErr (P : Prg) : List Ins5 → Int
  | [] => 0
  | x :: l => if insErr P x = 0 then codeErr P l else insErr P x
def checkErr (P : Prg) : Int := if tabOk P then codeErr P P.code else 85

theorem codeErr_at (P : Prg) : ∀ (l : List Ins5) (k : Nat) (h : k < l.length), (∀ j (hj : j < k), insErr P (l[j]'(by omega)) = 0) → insErr P l[k] ≠ 0 → codeErr P l = insErr P l[k]
  | [], k, h, _, _ => by simp at h
  | x :: l, 0, h, _, hn => by
    simp only [List.getElem_cons_zero] at hn ⊢
    unfold codeErr
    rw [if_neg hn]
  | x :: l, k + 1, h, hj, hn => by
    have h0 : insErr P x = 0 := hj 0 (by omega)
    unfold codeErr
    rw [if_pos h0]
    exact codeErr_at P l k (by simpa using h) (fun j hjk => hj (j + 1) (by omega)) (by simpa using hn)
theorem codeErr_none (P : Prg) : ∀ (l : List Ins5), (∀ j (hj : j < l.length), insErr P l[j] = 0) → codeErr P l = 0
  | [], _ => rfl
  | x :: l, h => by
    have h0 : insErr P x = 0 := h 0 (by simp)
    unfold codeErr
    rw [if_pos h0]
    exact codeErr_none P l (fun j hj => h (j + 1) (by simpa using hj))
theorem ret_int {a b : Int} (h : b = a) : Ending.returned (Value.int .i64 a) = .returned (.int .i64 b) := by rw [h]

set_option maxHeartbeats 4000000 in
set_option maxRecDepth 100000 in
theorem check_any (s : Spots) (P : Prg) (w : World) (hP : PAt w s P) :
    Calls Tryd.prog 12 #[pval s P] w fun e w' => e = .returned (.int .i64 (checkErr P)) ∧ Below w.heap.size w w' := by
  obtain ⟨fA, hbA⟩ := one_block w s P 27
  unfold pcells at fA hbA
  have x0 := fA.f0
  have x1 := fA.f1
  have x2 := fA.f2
  have x3 := fA.f3
  have x4 := fA.f4
  have x5 := fA.f5
  generalize hA : w.alloc (.cells #[.slice s.a0 P.ghost.length s.c0, .slice s.a1 P.vars.length s.c1, .slice s.a2 P.tags.length s.c2, .slice s.a3 P.on.length s.c3, .int .i64 P.miss, .slice s.a4 P.code.length s.c4] 27) = wA at *
  have htb := tables_any s P wA (hP.below hbA)
  have hzA := hbA.size
  have l4 := hP.lcode
  unfold pval at htb ⊢
  cases ht : tabOk P
  · have hc : Hid (checkErr P = 85) := Lib.hid (by unfold checkErr; rw [ht]; rfl)
    rw [ht] at htb
    go_enter Tryd.func12, Tryd.ntmps12
    go_wp2_with fail
    refine htb.mono ?_
    rintro e w1 ⟨rfl, hb1⟩
    go_wp2
    go_ret
    exact ⟨ret_int hc.out, hbA.trans (hb1.mono hzA)⟩
  · have hc : Hid (checkErr P = codeErr P P.code) := Lib.hid (by unfold checkErr; rw [ht]; rfl)
    rw [ht] at htb
    go_enter Tryd.func12, Tryd.ntmps12
    go_wp2_with fail
    refine htb.mono ?_
    rintro e w1 ⟨rfl, hb1⟩
    have y5 := (fA.below hb1).f5
    have FA := Lib.hid fA
    have HP := Lib.hid (hP.below hbA)
    have hbw1 := hbA.trans (hb1.mono hzA)
    go_wp2
    clear x0 x1 x2 x3 x4 x5 fA htb hP y5 hA
    go_loopw [17] (fun i wr => ∃ k : Nat, k ≤ P.code.length ∧ i = .int .i64 k ∧ Hid (∀ j (hj : j < P.code.length), j < k → insErr P P.code[j] = 0) ∧ Below w.heap.size w wr ∧ Hid (Below wA.heap.size wA wr)) (fun i _ => P.code.length + 1 - (intOf i).toNat)
    case atStart => exact ⟨0, Nat.zero_le _, rfl, Lib.hid (fun j _ h => by omega), hbw1, Lib.hid hb1⟩
    case round =>
      obtain ⟨k, hk, rfl, hall, hb, hbA2⟩ := hrel
      clear hb1 hbw1
      by_cases hlt : k < P.code.length
      · obtain ⟨a, ha, hca⟩ := (HP.out.below hbA2.out).code.row 5 (fun _ => rfl) (by decide) k hlt
        have HE : Hid (insErr P P.code[k] ≠ 0 → checkErr P = insErr P P.code[k]) := Lib.hid (fun h => hc.out.trans (codeErr_at P P.code k hlt (fun j hj => hall.out j (by omega) hj) h))
        have HN : Hid (insErr P P.code[k] = 0 → ∀ j (hj : j < P.code.length), j < k + 1 → insErr P P.code[j] = 0) := Lib.hid (fun h j hj hjk => by
          rcases Nat.lt_or_ge j k with h1 | h1
          · exact hall.out j hj h1
          · obtain rfl : j = k := by omega
            exact h)
        generalize P.code[k] = v at *
        obtain ⟨p0, p1, p2, p3, p4⟩ := v
        have a0 : wr.cell? (a.add (k * 5)) = some (.int .i64 p0) := by have h := hca 0 _ rfl; rwa [add_zero'] at h
        have a1 : wr.cell? ⟨(a.add (k * 5)).block, (a.add (k * 5)).off + 1, none⟩ = some (.int .i64 p1) := by have h := hca 1 _ rfl; rwa [add_pos' _ _ (by decide)] at h
        have a2 : wr.cell? ⟨(a.add (k * 5)).block, (a.add (k * 5)).off + 2, none⟩ = some (.int .i64 p2) := by have h := hca 2 _ rfl; rwa [add_pos' _ _ (by decide)] at h
        have a3 : wr.cell? ⟨(a.add (k * 5)).block, (a.add (k * 5)).off + 3, none⟩ = some (.int .i64 p3) := by have h := hca 3 _ rfl; rwa [add_pos' _ _ (by decide)] at h
        have a4 : wr.cell? ⟨(a.add (k * 5)).block, (a.add (k * 5)).off + 4, none⟩ = some (.int .i64 p4) := by have h := hca 4 _ rfl; rwa [add_pos' _ _ (by decide)] at h
        have HA := Lib.hid ha
        rw [ha]
        have hle : w.heap.size ≤ wr.heap.size := hb.size
        have hle2 : wA.heap.size ≤ wr.heap.size := hbA2.out.size
        clear hall hca ha
        obtain ⟨wx, hwx⟩ : ∃ wx, wx = wr.alloc (.cells #[.int .i64 p0, .int .i64 p1, .int .i64 p2, .int .i64 p3, .int .i64 p4] 57) := ⟨_, rfl⟩
        have hxb : wx.heap[wr.heap.size]? = some (.cells #[.int .i64 p0, .int .i64 p1, .int .i64 p2, .int .i64 p3, .int .i64 p4] 57 (0, 0)) := by rw [hwx]; exact (MapKept.heap_alloc wr _).1
        have hwb : Below w.heap.size w wx := by rw [hwx]; exact hb.alloc hle _
        have hwb2 : Below wA.heap.size wA wx := by rw [hwx]; exact hbA2.out.alloc hle2 _
        have HXB := Lib.hid hxb
        have HWX := Lib.hid hwx
        clear hwx hxb
        by_cases hop : p0 < 0 ∨ 42 ≤ p0
        · have he := Lib.hid (HE.out (by simp [insErr, hop]))
          have he2 : Hid (insErr P (p0, p1, p2, p3, p4) = 91) := Lib.hid (by simp [insErr, hop])
          clear HE HN
          go_wp2_with fail
          rw [← HWX.out]
          refine (shape_out p0 hop wx).mono ?_
          rintro e w2 ⟨rfl, hb2⟩
          go_wp2
          go_ret
          have hw2 : Below w.heap.size w w2 := hwb.trans (hb2.mono hwb.size)
          exact ⟨ret_int (he.out.trans he2.out), by first | exact hw2.alloc hw2.size _ | exact hw2⟩
        · obtain ⟨kop, rfl⟩ : ∃ kop : Nat, p0 = (kop : Int) := ⟨p0.toNat, by omega⟩
          have hkop : kop < 42 := by omega
          have hks : kindsOf (kop : Int) = (shapes.getD kop ([], [])).2 := by unfold kindsOf; simp
          have hsh := shape_in kop hkop wx
          rw [← hks] at hsh
          have HI : Hid (∀ b, (List.range 4).all (fitAt P ((kop : Int), p1, p2, p3, p4)) = b → insErr P ((kop : Int), p1, p2, p3, p4) = if b then 0 else 92) := Lib.hid (fun b h => by
            unfold insErr
            rw [if_neg (by simpa using hop), h])
          generalize hK : kindsOf (kop : Int) = ks at *
          have HK := Lib.hid hK
          clear hK hks hop
          generalize str (shapes.getD kop ([], [])).1 = nm at *
          go_wp2_with fail
          rw [← HWX.out]
          refine hsh.mono ?_
          rintro e w2 ⟨rfl, hb2⟩
          have hxl : wr.heap.size < wx.heap.size := (Array.getElem?_eq_some_iff.1 HXB.out).1
          have hxb2 : w2.heap[wr.heap.size]? = _ := (hb2.block _ hxl).trans HXB.out
          have hxl2 : wr.heap.size < w2.heap.size := (Array.getElem?_eq_some_iff.1 hxb2).1
          have hxb3 : (w2.alloc (.cells #[.string nm, .string (str ks)] 59)).heap[wr.heap.size]? = _ := (Below.heap_alloc w2 _ _ hxl2).trans hxb2
          have d1 := cell_at hxb3 1
          have d2 := cell_at hxb3 2
          have d3 := cell_at hxb3 3
          have d4 := cell_at hxb3 4
          have hw2 : Below w.heap.size w w2 := hwb.trans (hb2.mono hwb.size)
          have hw2A : Below wA.heap.size wA w2 := hwb2.trans (hb2.mono hwb2.size)
          clear hxb2 hsh hxb3 HXB HWX hwb hwb2 hb2 hxl
          have hz3 : (w2.alloc (.cells #[.string nm, .string (str ks)] 59)).heap.size = w2.heap.size + 1 := by simp
          have hS0 : (w2.alloc (.cells #[.string nm, .string (str ks)] 59)).heap[w2.heap.size]? = some (.cells #[.string nm, .string (str ks)] 59 (0, 0)) := (MapKept.heap_alloc w2 _).1
          have hS3 : ((w2.alloc (.cells #[.string nm, .string (str ks)] 59)).alloc (.cells #[.int .i64 p1, .int .i64 p2, .int .i64 p3, .int .i64 p4] 3)).heap[w2.heap.size]? = _ := (Below.heap_alloc _ _ _ (by omega)).trans hS0
          have hL3 := (MapKept.heap_alloc (w2.alloc (.cells #[.string nm, .string (str ks)] 59)) (.cells #[.int .i64 p1, .int .i64 p2, .int .i64 p3, .int .i64 p4] 3)).1
          rw [hz3] at hL3
          have hw3 : Below w.heap.size w ((w2.alloc (.cells #[.string nm, .string (str ks)] 59)).alloc (.cells #[.int .i64 p1, .int .i64 p2, .int .i64 p3, .int .i64 p4] 3)) := (hw2.alloc hw2.size _).alloc (by have := hw2.size; omega) _
          have hA3 : Below wA.heap.size wA ((w2.alloc (.cells #[.string nm, .string (str ks)] 59)).alloc (.cells #[.int .i64 p1, .int .i64 p2, .int .i64 p3, .int .i64 p4] 3)) := (hw2A.alloc hw2A.size _).alloc (by have := hw2A.size; omega) _
          go_wp2
          clear d1 d2 d3 d4 a0 a1 a2 a3 a4 hz3 hS0
          generalize (w2.alloc (.cells #[.string nm, .string (str ks)] 59)).alloc (.cells #[.int .i64 p1, .int .i64 p2, .int .i64 p3, .int .i64 p4] 3) = W3 at *
          have HS3 := Lib.hid hS3
          have HL3 := Lib.hid hL3
          have hsl : w2.heap.size < W3.heap.size := (Array.getElem?_eq_some_iff.1 hS3).1
          have hll : w2.heap.size + 1 < W3.heap.size := (Array.getElem?_eq_some_iff.1 hL3).1
          clear hS3 hL3
          have hSS : ∀ w' : World, Below W3.heap.size W3 w' → (fun w' : World => w'.cell? ⟨w.heap.size, 0, none⟩ = some (.slice s.a0 P.ghost.length s.c0) ∧ w'.cell? ⟨w.heap.size, 1, none⟩ = some (.slice s.a1 P.vars.length s.c1) ∧ w'.cell? ⟨w.heap.size, 2, none⟩ = some (.slice s.a2 P.tags.length s.c2) ∧ w'.cell? ⟨w.heap.size, 3, none⟩ = some (.slice s.a3 P.on.length s.c3) ∧ w'.cell? ⟨w.heap.size, 4, none⟩ = some (.int .i64 P.miss) ∧ w'.cell? ⟨w.heap.size, 5, none⟩ = some (.slice s.a4 P.code.length s.c4) ∧ w'.cell? ⟨w2.heap.size, 1, none⟩ = some (.string (str ks))) w' := fun w' hb => by
            have f := FA.out.below (hA3.trans (hb.mono hA3.size))
            have c := cell_at ((hb.block _ hsl).trans HS3.out) 1
            exact ⟨f.f0, f.f1, f.f2, f.f3, f.f4, f.f5, c⟩
          go_loopw [39] (fun ii wq => ∃ i : Nat, i ≤ 4 ∧ ii = .int .i64 i ∧ Hid ((List.range i).all (fitAt P ((kop : Int), p1, p2, p3, p4)) = true) ∧ Below w.heap.size w wq ∧ Hid (Below W3.heap.size W3 wq)) (fun ii _ => 5 - (intOf ii).toNat)
          case atStart => exact ⟨0, by omega, rfl, Lib.hid rfl, hw3, Lib.hid (Below.refl _ _)⟩
          case round =>
            obtain ⟨i, hi, rfl, hall, hbq, hbq3⟩ := hrel
            have hq := hbq3.out
            by_cases hi4 : i < 4
            · obtain ⟨n, hn⟩ : ∃ n, (opnds ((kop : Int), p1, p2, p3, p4)).getD i 0 = n := ⟨_, rfl⟩
              have hcn : wr.cell? ⟨w2.heap.size + 1, i, none⟩ = some (.int .i64 n) := by
                rw [cell_at ((hq.block _ hll).trans HL3.out) i, ← hn]
                rcases (show i = 0 ∨ i = 1 ∨ i = 2 ∨ i = 3 by omega) with rfl | rfl | rfl | rfl <;> rfl
              have hcs : wr.cell? ⟨w2.heap.size, 1, none⟩ = some (.string (str ks)) := cell_at ((hq.block _ hsl).trans HS3.out) 1
              have hss : (str ks).size = ks.length := rfl
              have HFIT : Hid (∀ lo hi' : Int, bndAt P ks i = (lo, hi') → fitAt P ((kop : Int), p1, p2, p3, p4) i = (decide (lo ≤ n) && decide (n ≤ hi'))) := Lib.hid (fun lo hi' h => by
                unfold fitAt
                rw [show kindsOf (kop : Int) = ks from HK.out, h, hn])
              have HMORE : Hid (fitAt P ((kop : Int), p1, p2, p3, p4) i = true → (List.range (i + 1)).all (fitAt P ((kop : Int), p1, p2, p3, p4)) = true) := Lib.hid (fun h => by
                rw [List.range_succ, List.all_append, hall.out]; simp [h])
              have HBAD : Hid (fitAt P ((kop : Int), p1, p2, p3, p4) i = false → checkErr P = 92) := Lib.hid (fun h => by
                have h1 : (List.range 4).all (fitAt P ((kop : Int), p1, p2, p3, p4)) = false := by
                  rw [Bool.eq_false_iff]
                  intro e
                  rw [List.all_eq_true] at e
                  rw [e i (List.mem_range.2 hi4)] at h
                  cases h
                have h2 := HI.out _ h1
                exact (HE.out (by rw [h2]; decide)).trans h2)
              clear hall hn hw3 hw2 hw2A hb hbA2 hle hle2
              by_cases hik : i < ks.length
              · have hget : (str ks)[i]'(by rw [hss]; exact hik) = ks.getD i 0 := by
                  have e : ks.getD i 0 = ks[i] := by simp [List.getD, List.getElem?_eq_getElem hik]
                  rw [e]; rfl
                have hbn : Hid (bndAt P ks i = bnds P (ks.getD i 0).toNat) := Lib.hid (by unfold bndAt; rw [if_pos hik])
                have HPq := Lib.hid (HP.out.below (hA3.trans (hq.mono hA3.size)))
                have hbs := fun (wz : World) (h : PAt wz s P) => bounds_any s P (ks.getD i 0).toNat wz h
                unfold pval at hbs
                generalize ks.getD i 0 = c at *
                have HBS := Lib.hid hbs
                clear hbs
                go_wp2_with fail
                go_region_held3 (fun w' : World => w'.cell? ⟨w.heap.size, 0, none⟩ = some (.slice s.a0 P.ghost.length s.c0) ∧ w'.cell? ⟨w.heap.size, 1, none⟩ = some (.slice s.a1 P.vars.length s.c1) ∧ w'.cell? ⟨w.heap.size, 2, none⟩ = some (.slice s.a2 P.tags.length s.c2) ∧ w'.cell? ⟨w.heap.size, 3, none⟩ = some (.slice s.a3 P.on.length s.c3) ∧ w'.cell? ⟨w.heap.size, 4, none⟩ = some (.int .i64 P.miss) ∧ w'.cell? ⟨w.heap.size, 5, none⟩ = some (.slice s.a4 P.code.length s.c4) ∧ w'.cell? ⟨w2.heap.size, 1, none⟩ = some (.string (str ks))) (with_reducible first | exact hSS _ hq2 | exact hSS _ hq2.drew | exact hSS _ hq.drew | exact hSS _ hq) (first | (go_at_call 31; refine (HBS.out _ ?_).mono ?_; (exact HPq.out.below (Below.refl _ _).drew); rintro e wz ⟨rfl, hbz⟩; have hq2 : Below W3.heap.size W3 wz := hq.drew.trans (hbz.mono hq.size)))
                have hbd := HFIT.out (bnds P c.toNat).1 (bnds P c.toNat).2 hbn.out
                generalize (bnds P c.toNat).1 = lo at *
                generalize (bnds P c.toNat).2 = up at *
                have hbqz : Below w.heap.size w wz := hbq.drew.trans (hbz.mono hbq.size)
                have HQ2 := Lib.hid hq2
                clear hbz hq2 hSS HBS hbn hget
                go_wp2_with fail
                refine (from_any n lo up _).mono ?_
                rintro e w' ⟨rfl, rfl⟩
                rw [← hbd]
                have HBD := Lib.hid hbd
                clear hbd
                cases hc : fitAt P ((kop : Int), p1, p2, p3, p4) i
                · have h := Lib.hid (HBAD.out hc)
                  clear HBAD HMORE HFIT HBD hc
                  go_wp2
                  go_ret
                  exact ⟨ret_int h.out, hbqz⟩
                · have h := Lib.hid (HMORE.out hc)
                  clear HBAD HMORE HFIT HBD hc
                  go_wp2
                  go_roundw
                  case rel => exact ⟨i + 1, by omega, by go_num, h, hbqz, HQ2⟩
                  case measure => simp [intOf]; omega
              · have hbd := HFIT.out 0 0 (by unfold bndAt; rw [if_neg hik])
                go_wp2_with fail
                refine (from_any n 0 0 _).mono ?_
                rintro e w' ⟨rfl, rfl⟩
                rw [← hbd]
                have HBD := Lib.hid hbd
                clear hbd
                cases hc : fitAt P ((kop : Int), p1, p2, p3, p4) i
                · have h := Lib.hid (HBAD.out hc)
                  clear HBAD HMORE HFIT HBD hc
                  go_wp2
                  go_ret
                  exact ⟨ret_int h.out, hbq⟩
                · have h := Lib.hid (HMORE.out hc)
                  clear HBAD HMORE HFIT HBD hc
                  go_wp2
                  go_roundw
                  case rel => exact ⟨i + 1, by omega, by go_num, h, hbq, hbq3⟩
                  case measure => simp [intOf]; omega
            · have hi4' : i = 4 := by omega
              have h4 : Hid ((List.range 4).all (fitAt P ((kop : Int), p1, p2, p3, p4)) = true) := Lib.hid (by rw [← hi4']; exact hall.out)
              have hnx := Lib.hid (HN.out (by rw [HI.out _ h4.out]; rfl))
              have hbA9 := Lib.hid (hA3.trans (hq.mono hA3.size))
              subst hi4'
              clear hall hw3 hw2 hw2A hb hbA2 hle hle2 HN HE HI h4 hSS
              go_wp2
              go_roundw
              case rel => exact ⟨k + 1, by omega, by go_num, hnx, hbq, hbA9⟩
              case measure => simp [intOf]; omega
      · obtain rfl : k = P.code.length := by omega
        have hz : Hid (checkErr P = 0) := Lib.hid (hc.out.trans (codeErr_none P P.code (fun j hj => hall.out j hj hj)))
        clear hall
        go_wp2
        go_ret
        exact ⟨ret_int hz.out, hb⟩
end Go.Proofs.YtfjiikadnlhekaaDoor
