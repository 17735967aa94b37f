/-
  What is proved here: code.Decode reads a program ('decode') or tells the first fault. Conditions: the bytes lie in memory; at most 2^40 of them.
-/
import Derived.Test.YtfjiikadnlhekaaDoorBody
import Derived.Test.YtfjiikadnlhekaaDoorDefer
namespace Go.Proofs.YtfjiikadnlhekaaDoor
open Go.RowKit

def noSpots : Spots := ⟨none, 0, none, 0, none, 0, none, 0, none, 0⟩
def noPrg : Prg := ⟨[], [], [], [], 0, []⟩
/-- What Decode tells. -/
def DecPost (w : World) (bs : List UInt8) (e : Ending) (w' : World) : Prop :=
  (∃ P s, decode bs = .ok P ∧ e = .returned (.tuple #[pval s P, .agg #[.int .i64 0, .int .i64 0]]) ∧ POwn w' w.heap.size s P ∧ Below w.heap.size w w') ∨
  (∃ c k, decode bs = .error (c, k) ∧ e = .returned (.tuple #[pval noSpots noPrg, .agg #[.int .i64 c, .int .i64 (k : Int)]]) ∧ Below w.heap.size w w')
theorem dec_shut (bs : List UInt8) : rProg bs = shut bs.length (rBody bs.length (bs.drop 0)) := rfl

theorem dec_blocks (w : World) (ao : Option Addr) (ca : Nat) (bs : List UInt8) (hL : Lies w ao (bcells bs)) (hlen : bs.length ≤ 1099511627776) (hao : ∀ a, ao = some a → a.block < w.heap.size) :
    let W := ((w.alloc (.cells #[.slice none 0 0, .slice none 0 0, .slice none 0 0, .slice none 0 0, .int .i64 0, .slice none 0 0] 27)).alloc (.cells #[.int .i64 0, .int .i64 0] 46)).alloc (.cells #[.slice ao bs.length ca, .int .i64 0] 105)
    RAt W (w.heap.size + 2) ao ca bs 0 ∧ W.heap[w.heap.size]? = some (.cells #[.slice none 0 0, .slice none 0 0, .slice none 0 0, .slice none 0 0, .int .i64 0, .slice none 0 0] 27 (0, 0)) ∧ W.heap[w.heap.size + 1]? = some (.cells #[.int .i64 0, .int .i64 0] 46 (0, 0)) ∧ Below w.heap.size w W ∧ w.heap.size + 2 < W.heap.size := by
  intro W
  have h1 := (MapKept.heap_alloc w (.cells #[.slice none 0 0, .slice none 0 0, .slice none 0 0, .slice none 0 0, .int .i64 0, .slice none 0 0] 27)).1
  have z1 : (w.alloc (.cells #[.slice none 0 0, .slice none 0 0, .slice none 0 0, .slice none 0 0, .int .i64 0, .slice none 0 0] 27)).heap.size = w.heap.size + 1 := by simp
  have b1 := (Below.refl w.heap.size w).alloc (Nat.le_refl _) (.cells #[.slice none 0 0, .slice none 0 0, .slice none 0 0, .slice none 0 0, .int .i64 0, .slice none 0 0] 27)
  generalize hw1 : w.alloc (.cells #[.slice none 0 0, .slice none 0 0, .slice none 0 0, .slice none 0 0, .int .i64 0, .slice none 0 0] 27) = w1 at *
  have h2 := (MapKept.heap_alloc w1 (.cells #[.int .i64 0, .int .i64 0] 46)).1
  have z2 : (w1.alloc (.cells #[.int .i64 0, .int .i64 0] 46)).heap.size = w.heap.size + 2 := by simp [z1]
  have b2 := b1.alloc (by omega) (.cells #[.int .i64 0, .int .i64 0] 46)
  have h12 := (Below.heap_alloc w1 (.cells #[.int .i64 0, .int .i64 0] 46) _ (by omega)).trans h1
  generalize hw2 : w1.alloc (.cells #[.int .i64 0, .int .i64 0] 46) = w2 at *
  have h3 := (MapKept.heap_alloc w2 (.cells #[.slice ao bs.length ca, .int .i64 0] 105)).1
  have b3 := b2.alloc (by omega) (.cells #[.slice ao bs.length ca, .int .i64 0] 105)
  have e1 : W = w2.alloc (.cells #[.slice ao bs.length ca, .int .i64 0] 105) := by show ((w.alloc _).alloc _).alloc _ = _; rw [hw1, hw2]
  rw [e1]
  rw [z2] at h3
  rw [z1] at h2
  exact ⟨⟨h3, hL.below b3, fun a ha => by have := hao a ha; omega, hlen, Nat.zero_le _⟩, (Below.heap_alloc w2 _ _ (by omega)).trans h12, (Below.heap_alloc w2 _ _ (by omega)).trans h2, b3, (Array.getElem?_eq_some_iff.1 h3).1⟩

theorem OwnL.below {W w' : World} {B B' : Nat} {e : TypeId} {sz : Nat} {v : Value} {n : Nat} {xs : List Value} (h : OwnL W B B' e sz v n xs) (hb : Below W.heap.size W w') : OwnL w' B B' e sz v n xs :=
  ⟨own_keep h.1 (fun j hj => hb.block j (h.1.lt j hj).2), h.2⟩
theorem POwn.below {w w' : World} {B : Nat} {s : Spots} {P : Prg} (h : POwn w B s P) (hb : Below w.heap.size w w') : POwn w' B s P := by
  obtain ⟨B1, B2, B3, B4, B5, h1, h2, h3, h4, h5, h6, f0, f1, f2, f3, f4⟩ := h
  exact ⟨B1, B2, B3, B4, B5, h1, h2, h3, h4, h5, Nat.le_trans h6 hb.size, f0.below hb, f1.below hb, f2.below hb, f3.below hb, f4.below hb⟩
/-- What became of a world: the two results are laid. -/
structure Laid8 (W X : World) (r f : Nat) (cs : Array Value) (c k : Int) : Prop where
  below : ∀ B, B ≤ r → B ≤ f → Below B W X
  prg : X.heap[r]? = some (.cells cs 27 (0, 0))
  flt : X.heap[f]? = some (.cells #[.int .i64 c, .int .i64 k] 46 (0, 0))
  block : ∀ j, j ≠ r → j ≠ f → X.heap[j]? = W.heap[j]?
theorem laid8 (W : World) (r f : Nat) (z0 z1 z2 z3 z4 z5 v0 v1 v2 v3 v4 v5 : Value) (c k : Int) (hne : r ≠ f) (hr : W.heap[r]? = some (.cells #[z0, z1, z2, z3, z4, z5] 27 (0, 0))) (hf : W.heap[f]? = some (.cells #[.int .i64 0, .int .i64 0] 46 (0, 0))) :
    Laid8 W ((((((((W.setCell ⟨r, 0, none⟩ v0).setCell ⟨r, 1, none⟩ v1).setCell ⟨r, 2, none⟩ v2).setCell ⟨r, 3, none⟩ v3).setCell ⟨r, 4, none⟩ v4).setCell ⟨r, 5, none⟩ v5).setCell ⟨f, 0, none⟩ (.int .i64 c)).setCell ⟨f, 1, none⟩ (.int .i64 k)) r f #[v0, v1, v2, v3, v4, v5] c k := by
  have h6 := six_set hr v0 v1 v2 v3 v4 v5
  have h7 := fun j h => six_other W r j h v0 v1 v2 v3 v4 v5
  have hb := fun B (hB : B ≤ r) => six_below (Below.refl B W) r hB v0 v1 v2 v3 v4 v5
  generalize ((((((W.setCell ⟨r, 0, none⟩ v0).setCell ⟨r, 1, none⟩ v1).setCell ⟨r, 2, none⟩ v2).setCell ⟨r, 3, none⟩ v3).setCell ⟨r, 4, none⟩ v4).setCell ⟨r, 5, none⟩ v5) = W6 at *
  obtain ⟨k1, k2, k3⟩ := caught_world W6 f c k ((h7 f (fun e => hne e.symm)).trans hf)
  exact ⟨fun B hB hB2 => ((hb B hB).setCell (p := ⟨f, 0, none⟩) hB2 _).setCell (p := ⟨f, 1, none⟩) hB2 _, (k3 r hne).trans h6, k1, fun j h1 h2 => (k3 j h2).trans (h7 j h1)⟩
theorem dec_results (tmps : Array Value) (w : World) (r f : Nat) (c1 c2 : Array Value) (h2 : tmps.getD 2 undef = .pointer (some ⟨r, 0, none⟩)) (h3 : tmps.getD 3 undef = .pointer (some ⟨f, 0, none⟩))
    (hr : w.heap[r]? = some (.cells c1 27 (0, 0))) (z1 : c1.size = 6) (hf : w.heap[f]? = some (.cells c2 46 (0, 0))) (z2 : c2.size = 2) :
    (results Tryd.f20 tmps).run Tryd.prog w = .ok (.tuple #[.agg c1, .agg c2]) w := by
  have l1 := run_loadVar_row (P := Tryd.prog) w r 27 27 c1 (0, 0) _ hr Tryd.underlying27 rfl (by rw [z1]; kernel_rfl)
  have l2 := run_loadVar_row (P := Tryd.prog) w f 46 46 c2 (0, 0) _ hf Tryd.underlying46 rfl (by rw [z2]; kernel_rfl)
  have h2' : tmps[2]?.getD undef = .pointer (some ⟨r, 0, none⟩) := by simpa using h2
  have h3' : tmps[3]?.getD undef = .pointer (some ⟨f, 0, none⟩) := by simpa using h3
  simp [results, h2', h3', asAddr, l1, l2, Result.andThen]

set_option maxHeartbeats 4000000 in
set_option maxRecDepth 100000 in
theorem decode_any (ao : Option Addr) (ca : Nat) (bs : List UInt8) (w : World) (hL : Lies w ao (bcells bs)) (hlen : bs.length ≤ 1099511627776) (hao : ∀ a, ao = some a → a.block < w.heap.size) :
    Calls Tryd.prog 20 #[.slice ao bs.length ca] w (DecPost w bs) := by
  obtain ⟨hR, hr, hf, hb, hlt⟩ := dec_blocks w ao ca bs hL hlen hao
  have HR := Lib.hid hR
  have HRB := Lib.hid hr
  have HFB := Lib.hid hf
  have HB := Lib.hid hb
  have HLT := Lib.hid hlt
  have hmf : ∀ (fn : Fn) (first cap : Array Value) (w : World), (Instr.makeFunc fn first cap).run Tryd.prog w = .ok (.func fn first cap) w := fun _ _ _ _ => rfl
  clear hR hr hf hb hlt hL
  go_enter_defers Tryd.func20, Tryd.ntmps20
  go_wp2_with fail
  generalize ((w.alloc (.cells #[.slice none 0 0, .slice none 0 0, .slice none 0 0, .slice none 0 0, .int .i64 0, .slice none 0 0] 27)).alloc (.cells #[.int .i64 0, .int .i64 0] 46)).alloc (.cells #[.slice ao bs.length ca, .int .i64 0] 105) = W at *
  refine (program_any (w.heap.size + 2) ao ca bs 0 W HR.out (fun a ha _ => by have := hao a ha; have := HLT.out; omega)).mono ?_
  rw [← dec_shut]
  rintro e w1 (⟨P, s, hG, rfl, hO, hg⟩ | ⟨c, p, hG, rfl, hg⟩)
  · have hlt := HLT.out
    have hr1 := (hg.block w.heap.size (by omega) (by simp)).trans HRB.out
    have hf1 := (hg.block (w.heap.size + 1) (by omega) (by simp)).trans HFB.out
    have hr1l := (Array.getElem?_eq_some_iff.1 hr1).1
    have hf1l := (Array.getElem?_eq_some_iff.1 hf1).1
    have c0 := cell_at hr1 0
    have c1 := cell_at hr1 1
    have c2 := cell_at hr1 2
    have c3 := cell_at hr1 3
    have c4 := cell_at hr1 4
    have c5 := cell_at hr1 5
    have q0 := free_at hr1 0
    have q1 := free_at hr1 1
    have q2 := free_at hr1 2
    have q3 := free_at hr1 3
    have q4 := free_at hr1 4
    have q5 := free_at hr1 5
    have hS6 := six_set hr1 (.slice s.a0 P.ghost.length s.c0) (.slice s.a1 P.vars.length s.c1) (.slice s.a2 P.tags.length s.c2) (.slice s.a3 P.on.length s.c3) (.int .i64 P.miss) (.slice s.a4 P.code.length s.c4)
    have ho6 := fun j h => six_other w1 w.heap.size j h (.slice s.a0 P.ghost.length s.c0) (.slice s.a1 P.vars.length s.c1) (.slice s.a2 P.tags.length s.c2) (.slice s.a3 P.on.length s.c3) (.int .i64 P.miss) (.slice s.a4 P.code.length s.c4)
    have hz6 := six_size w1 w.heap.size (.slice s.a0 P.ghost.length s.c0) (.slice s.a1 P.vars.length s.c1) (.slice s.a2 P.tags.length s.c2) (.slice s.a3 P.on.length s.c3) (.int .i64 P.miss) (.slice s.a4 P.code.length s.c4)
    have hb6 := six_below ((HB.out.grown hg (by omega) (fun k hk => by have := Option.some.inj hk; omega))) w.heap.size (Nat.le_refl _) (.slice s.a0 P.ghost.length s.c0) (.slice s.a1 P.vars.length s.c1) (.slice s.a2 P.tags.length s.c2) (.slice s.a3 P.on.length s.c3) (.int .i64 P.miss) (.slice s.a4 P.code.length s.c4)
    have HS6 := Lib.hid hS6
    have HO6 := Lib.hid ho6
    have HZ6 := Lib.hid hz6
    have HB6 := Lib.hid hb6
    have HO := Lib.hid hO
    have HG := Lib.hid hG
    have HF1 := Lib.hid hf1
    clear hr1 hf1 hS6 ho6 hz6 hb6 hO hG
    unfold pval
    go_wp2_with fail
    clear c0 c1 c2 c3 c4 c5 q0 q1 q2 q3 q4 q5
    generalize ((((((w1.setCell ⟨w.heap.size, 0, none⟩ (.slice s.a0 P.ghost.length s.c0)).setCell ⟨w.heap.size, 1, none⟩ (.slice s.a1 P.vars.length s.c1)).setCell ⟨w.heap.size, 2, none⟩ (.slice s.a2 P.tags.length s.c2)).setCell ⟨w.heap.size, 3, none⟩ (.slice s.a3 P.on.length s.c3)).setCell ⟨w.heap.size, 4, none⟩ (.int .i64 P.miss)).setCell ⟨w.heap.size, 5, none⟩ (.slice s.a4 P.code.length s.c4)) = ws at *
    have hzs := HZ6.out
    have HOs := Lib.hid (HO.out.stay (w' := ws) (fun j hj => HO6.out j (by omega)) (by omega))
    have hck := check_any s P ws HOs.out.at
    have HFs := Lib.hid ((HO6.out (w.heap.size + 1) (by omega)).trans HF1.out)
    unfold pval at hck
    generalize hce : checkErr P = er at *
    have HCE := Lib.hid hce
    clear hce
    by_cases her : er = 0
    · subst her
      refine hck.mono ?_
      rintro e w2 ⟨rfl, hb2⟩
      have hz2 := hb2.size
      have hr2 := (hb2.block _ (by omega)).trans HS6.out
      have hf2 := (hb2.block _ (by omega)).trans HFs.out
      have c0 := cell_at hr2 0
      have c1 := cell_at hr2 1
      have c2 := cell_at hr2 2
      have c3 := cell_at hr2 3
      have c4 := cell_at hr2 4
      have c5 := cell_at hr2 5
      have q0 := free_at hr2 0
      have q1 := free_at hr2 1
      have q2 := free_at hr2 2
      have q3 := free_at hr2 3
      have q4 := free_at hr2 4
      have q5 := free_at hr2 5
      have d0 := cell_at hf2 0
      have d1 := cell_at hf2 1
      have p0 := free_at hf2 0
      have p1 := free_at hf2 1
      have HL := Lib.hid (laid8 w2 w.heap.size (w.heap.size + 1) _ _ _ _ _ _ (.slice s.a0 P.ghost.length s.c0) (.slice s.a1 P.vars.length s.c1) (.slice s.a2 P.tags.length s.c2) (.slice s.a3 P.on.length s.c3) (.int .i64 P.miss) (.slice s.a4 P.code.length s.c4) 0 0 (by omega) hr2 hf2)
      have HB2 := Lib.hid (HB6.out.trans (hb2.mono (by omega)))
      have HO2 := Lib.hid (HOs.out.below hb2)
      clear hr2 hf2 hck hb2
      go_wp2
      refine leaves_cons (f := 50) (args := #[.pointer (some ⟨w.heap.size, 0, none⟩), .pointer (some ⟨w.heap.size + 1, 0, none⟩)]) (by simp) (by simp [go_sem]) ?_
      refine (idle_any _ _ _).mono ?_
      rintro e u' w'' ⟨rfl, rfl, rfl⟩
      have hE : decode bs = .ok P := by unfold decode; rw [HG.out]; simp only; rw [HCE.out]; rfl
      simp only [Leaves, settle]
      refine ⟨_, dec_results _ _ w.heap.size (w.heap.size + 1) _ _ rfl rfl HL.out.prg rfl HL.out.flt rfl, Or.inl ⟨P, s, hE, rfl, ?_, HB2.out.trans (HL.out.below _ (Nat.le_refl _) (by omega))⟩⟩
      exact (HO2.out.stay (fun j hj => HL.out.block j (by omega) (by omega)) (HL.out.below 0 (Nat.zero_le _) (Nat.zero_le _)).size).mono (by omega)
    · have hne : (er == 0) = false := by rw [beq_eq_false_iff_ne]; exact her
      refine hck.mono ?_
      rintro e w2 ⟨rfl, hb2⟩
      have hz2 := hb2.size
      have hr2 := (hb2.block _ (by omega)).trans HS6.out
      have hf2 := (hb2.block _ (by omega)).trans HFs.out
      have c0 := cell_at hr2 0
      have c1 := cell_at hr2 1
      have c2 := cell_at hr2 2
      have c3 := cell_at hr2 3
      have c4 := cell_at hr2 4
      have c5 := cell_at hr2 5
      have q0 := free_at hr2 0
      have q1 := free_at hr2 1
      have q2 := free_at hr2 2
      have q3 := free_at hr2 3
      have q4 := free_at hr2 4
      have q5 := free_at hr2 5
      have d0 := cell_at hf2 0
      have d1 := cell_at hf2 1
      have p0 := free_at hf2 0
      have p1 := free_at hf2 1
      have HL := Lib.hid (laid8 w2 w.heap.size (w.heap.size + 1) _ _ _ _ _ _ (.slice none 0 0) (.slice none 0 0) (.slice none 0 0) (.slice none 0 0) (.int .i64 0) (.slice none 0 0) er 0 (by omega) hr2 hf2)
      have HB2 := Lib.hid (HB6.out.trans (hb2.mono (by omega)))
      have hE : Hid (decode bs = .error (er, 0)) := Lib.hid (by unfold decode; rw [HG.out]; simp only; rw [HCE.out, if_neg her])
      clear hr2 hf2 hck hb2 her
      go_wp2
      refine leaves_cons (f := 50) (args := #[.pointer (some ⟨w.heap.size, 0, none⟩), .pointer (some ⟨w.heap.size + 1, 0, none⟩)]) (by simp) (by simp [go_sem]) ?_
      refine (idle_any _ _ _).mono ?_
      rintro e u' w'' ⟨rfl, rfl, rfl⟩
      simp only [Leaves, settle]
      exact ⟨_, dec_results _ _ w.heap.size (w.heap.size + 1) _ _ rfl rfl HL.out.prg rfl HL.out.flt rfl, Or.inr ⟨er, 0, hE.out, rfl, HB2.out.trans (HL.out.below _ (Nat.le_refl _) (by omega))⟩⟩
  · have hlt := HLT.out
    have hr1 := (hg.block w.heap.size (by omega) (by simp)).trans HRB.out
    have hf1 := (hg.block (w.heap.size + 1) (by omega) (by simp)).trans HFB.out
    refine leaves_cons (f := 50) (args := #[.pointer (some ⟨w.heap.size, 0, none⟩), .pointer (some ⟨w.heap.size + 1, 0, none⟩)]) (by simp) (by simp [go_sem]) ?_
    refine (caught_any w.heap.size (w.heap.size + 1) c p w1 (by omega) hr1 hf1).mono ?_
    rintro e u' w2 ⟨rfl, rfl, hT⟩
    have hE : Hid (decode bs = .error ((c : Int), p)) := Lib.hid (by unfold decode; rw [hG])
    have hbl : Below w.heap.size w w2 := by
      have h1 := HB.out.grown hg (by omega) (fun k hk => by have := Option.some.inj hk; omega)
      have hz := hg.size
      exact h1.trans ⟨hT.os, hT.tape, hT.output, hT.size, fun k hk => hT.block k (by omega) (by omega) (by omega)⟩
    simp only [Leaves, settle, List.dropWhile_nil]
    exact ⟨_, dec_results _ w2 w.heap.size (w.heap.size + 1) _ _ rfl rfl hT.prg rfl hT.flt rfl, Or.inr ⟨c, p, hE.out, rfl, hbl⟩⟩
end Go.Proofs.YtfjiikadnlhekaaDoor
