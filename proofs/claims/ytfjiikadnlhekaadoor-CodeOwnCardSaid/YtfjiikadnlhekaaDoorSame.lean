/-
  What is proved here: code.Same and the reference's Same tell whether two programs are the same ('prgEq'). Conditions: the programs lie in memory.
-/
import Derived.Test.YtfjiikadnlhekaaDoorEq1
import Derived.Test.YtfjiikadnlhekaaDoorEq2
namespace Go.Proofs.YtfjiikadnlhekaaDoor
open Go.RowKit

/-- A program as plain data. -/
structure Prg where
  ghost : List Bool
  vars : List Var3
  tags : List Int
  on : List Int
  miss : Int
  code : List Ins5

def prgEq (P Q : Prg) : Bool := P.ghost == Q.ghost && (P.vars == Q.vars && (P.tags == Q.tags && (P.on == Q.on && (P.miss == Q.miss && P.code == Q.code))))
theorem prgEq_self (P : Prg) : prgEq P P = true := by simp [prgEq]

/-- Where a program's lists lie. -/
structure Spots where
  a0 : Option Addr
  c0 : Nat
  a1 : Option Addr
  c1 : Nat
  a2 : Option Addr
  c2 : Nat
  a3 : Option Addr
  c3 : Nat
  a4 : Option Addr
  c4 : Nat
def pval (s : Spots) (P : Prg) : Value := .agg #[.slice s.a0 P.ghost.length s.c0, .slice s.a1 P.vars.length s.c1, .slice s.a2 P.tags.length s.c2, .slice s.a3 P.on.length s.c3, .int .i64 P.miss, .slice s.a4 P.code.length s.c4]

/-- A program lies in memory. -/
structure PAt (w : World) (s : Spots) (P : Prg) : Prop where
  ghost : Lies w s.a0 (bools P.ghost)
  vars : Lies w s.a1 (flat var3 P.vars)
  tags : Lies w s.a2 (nums P.tags)
  on : Lies w s.a3 (nums P.on)
  code : Lies w s.a4 (flat ins5 P.code)
  lghost : P.ghost.length ≤ 9223372036854775807
  lvars : P.vars.length ≤ 9223372036854775807
  ltags : P.tags.length ≤ 9223372036854775807
  lon : P.on.length ≤ 9223372036854775807
  lcode : P.code.length ≤ 9223372036854775807
  n0 : s.a0 = none → s.c0 = 0
  n1 : s.a1 = none → s.c1 = 0
  n2 : s.a2 = none → s.c2 = 0
  n3 : s.a3 = none → s.c3 = 0
  n4 : s.a4 = none → s.c4 = 0

/-- Each of a program's lists takes at most 2^47 bytes. -/
structure Small (P : Prg) : Prop where
  ghost : P.ghost.length * 1 ≤ 140737488355328
  vars : P.vars.length * 24 ≤ 140737488355328
  tags : P.tags.length * 8 ≤ 140737488355328
  on : P.on.length * 8 ≤ 140737488355328
  code : P.code.length * 40 ≤ 140737488355328

theorem PAt.below {w w' : World} {s : Spots} {P : Prg} (h : PAt w s P) (hb : Below w.heap.size w w') : PAt w' s P :=
  ⟨h.ghost.below hb, h.vars.below hb, h.tags.below hb, h.on.below hb, h.code.below hb, h.lghost, h.lvars, h.ltags, h.lon, h.lcode, h.n0, h.n1, h.n2, h.n3, h.n4⟩

/-- A program's cells. -/
def pcells (s : Spots) (P : Prg) : Array Value := #[.slice s.a0 P.ghost.length s.c0, .slice s.a1 P.vars.length s.c1, .slice s.a2 P.tags.length s.c2, .slice s.a3 P.on.length s.c3, .int .i64 P.miss, .slice s.a4 P.code.length s.c4]

/-- What the walk reads of a program in a block. -/
structure Fields (w : World) (b : Nat) (s : Spots) (P : Prg) : Prop where
  f0 : w.cell? ⟨b, 0, none⟩ = some (.slice s.a0 P.ghost.length s.c0)
  f1 : w.cell? ⟨b, 1, none⟩ = some (.slice s.a1 P.vars.length s.c1)
  f2 : w.cell? ⟨b, 2, none⟩ = some (.slice s.a2 P.tags.length s.c2)
  f3 : w.cell? ⟨b, 3, none⟩ = some (.slice s.a3 P.on.length s.c3)
  f4 : w.cell? ⟨b, 4, none⟩ = some (.int .i64 P.miss)
  f5 : w.cell? ⟨b, 5, none⟩ = some (.slice s.a4 P.code.length s.c4)
theorem fields_of {w : World} {b : Nat} {s : Spots} {P : Prg} {T : TypeId} {fz : Nat × Nat} (h : w.heap[b]? = some (.cells (pcells s P) T fz)) : Fields w b s P := by
  constructor <;> simp [World.cell?, h, pcells]
theorem Fields.below {w w' : World} {b : Nat} {s : Spots} {P : Prg} (h : Fields w b s P) (hb : Below w.heap.size w w') : Fields w' b s P := by
  have hlt := World.block_lt_of_cell? w _ h.f0
  exact ⟨(hb.cell (p := ⟨b, 0, none⟩) hlt).trans h.f0, (hb.cell (p := ⟨b, 1, none⟩) hlt).trans h.f1, (hb.cell (p := ⟨b, 2, none⟩) hlt).trans h.f2, (hb.cell (p := ⟨b, 3, none⟩) hlt).trans h.f3, (hb.cell (p := ⟨b, 4, none⟩) hlt).trans h.f4, (hb.cell (p := ⟨b, 5, none⟩) hlt).trans h.f5⟩

/-- Two programs, handed in by value, lie in two new blocks. -/
theorem two_blocks (w : World) (s r : Spots) (P Q : Prg) (T : TypeId) :
    let wA := (w.alloc (.cells (pcells s P) T)).alloc (.cells (pcells r Q) T)
    Fields wA w.heap.size s P ∧ Fields wA (w.heap.size + 1) r Q ∧ Below w.heap.size w wA := by
  intro wA
  have h1 : (w.alloc (.cells (pcells s P) T)).heap[w.heap.size]? = some (.cells (pcells s P) T) := (MapKept.heap_alloc w _).1
  have hz : (w.alloc (.cells (pcells s P) T)).heap.size = w.heap.size + 1 := by simp
  refine ⟨fields_of ((Below.heap_alloc _ _ _ (by omega)).trans h1), ?_, ((Below.refl _ w).alloc (Nat.le_refl _) _).alloc (by omega) _⟩
  have h2 := (MapKept.heap_alloc (w.alloc (.cells (pcells s P) T)) (.cells (pcells r Q) T)).1
  rw [hz] at h2
  exact fields_of h2

set_option maxHeartbeats 4000000 in
set_option maxRecDepth 100000 in
theorem same_any (s r : Spots) (P Q : Prg) (w : World) (hP : PAt w s P) (hQ : PAt w r Q) :
    Calls Tryd.prog 24 #[pval s P, pval r Q] w fun e w' => e = .returned (.bool (prgEq P Q)) ∧ Below w.heap.size w w' := by
  obtain ⟨fA, fB, hbA⟩ := two_blocks w s r P Q 27
  unfold pcells at fA fB hbA
  generalize hA : (w.alloc (.cells #[.slice s.a0 P.ghost.length s.c0, .slice s.a1 P.vars.length s.c1, .slice s.a2 P.tags.length s.c2, .slice s.a3 P.on.length s.c3, .int .i64 P.miss, .slice s.a4 P.code.length s.c4] 27)).alloc (.cells #[.slice r.a0 Q.ghost.length r.c0, .slice r.a1 Q.vars.length r.c1, .slice r.a2 Q.tags.length r.c2, .slice r.a3 Q.on.length r.c3, .int .i64 Q.miss, .slice r.a4 Q.code.length r.c4] 27) = wA at fA fB hbA
  have HP := Lib.hid (hP.below hbA)
  have HQ := Lib.hid (hQ.below hbA)
  have FA := Lib.hid fA
  have FB := Lib.hid fB
  have hbA' : Below wA.heap.size wA wA := Below.refl _ _
  have hzA := hbA.size
  clear hP hQ fA fB
  go_enter Tryd.func24, Tryd.ntmps24
  unfold pval
  have xa0 := (FA.out.below hbA').f0
  have xb0 := (FB.out.below hbA').f0
  go_wp2_with fail
  refine (equal_bool _ _ _ _ P.ghost Q.ghost wA (HP.out.below hbA').ghost (HQ.out.below hbA').ghost (by have := HP.out.lghost; omega)).mono ?_
  rintro e w0 ⟨rfl, hb0⟩
  replace hb0 := hbA'.trans (hb0.mono hbA'.size)
  clear xa0 xb0
  cases h0 : (P.ghost == Q.ghost)
  · go_wp2
    go_ret
    exact ⟨ret_bool (by simp [prgEq, h0]), hbA.trans (hb0.mono hzA)⟩
  have xa1 := (FA.out.below hb0).f1
  have xb1 := (FB.out.below hb0).f1
  go_wp2_with fail
  refine (equal_var3 _ _ _ _ P.vars Q.vars w0 (HP.out.below hb0).vars (HQ.out.below hb0).vars (by have := HP.out.lvars; omega)).mono ?_
  rintro e w1 ⟨rfl, hb1⟩
  replace hb1 := hb0.trans (hb1.mono hb0.size)
  clear xa1 xb1
  cases h1 : (P.vars == Q.vars)
  · go_wp2
    go_ret
    exact ⟨ret_bool (by simp [prgEq, h0, h1]), hbA.trans (hb1.mono hzA)⟩
  have xa2 := (FA.out.below hb1).f2
  have xb2 := (FB.out.below hb1).f2
  go_wp2_with fail
  refine (equal_int _ _ _ _ P.tags Q.tags w1 (HP.out.below hb1).tags (HQ.out.below hb1).tags (by have := HP.out.ltags; omega)).mono ?_
  rintro e w2 ⟨rfl, hb2⟩
  replace hb2 := hb1.trans (hb2.mono hb1.size)
  clear xa2 xb2
  cases h2 : (P.tags == Q.tags)
  · go_wp2
    go_ret
    exact ⟨ret_bool (by simp [prgEq, h0, h1, h2]), hbA.trans (hb2.mono hzA)⟩
  have xa3 := (FA.out.below hb2).f3
  have xb3 := (FB.out.below hb2).f3
  go_wp2_with fail
  refine (equal_int _ _ _ _ P.on Q.on w2 (HP.out.below hb2).on (HQ.out.below hb2).on (by have := HP.out.lon; omega)).mono ?_
  rintro e w3 ⟨rfl, hb3⟩
  replace hb3 := hb2.trans (hb3.mono hb2.size)
  clear xa3 xb3
  cases h3 : (P.on == Q.on)
  · go_wp2
    go_ret
    exact ⟨ret_bool (by simp [prgEq, h0, h1, h2, h3]), hbA.trans (hb3.mono hzA)⟩
  have xm := (FA.out.below hb3).f4
  have xn := (FB.out.below hb3).f4
  have ym := (FA.out.below hb3).f5
  have yn := (FB.out.below hb3).f5
  cases h4 : (P.miss == Q.miss)
  · go_wp2
    go_ret
    exact ⟨ret_bool (by simp [prgEq, h0, h1, h2, h3, h4]), hbA.trans (hb3.mono hzA)⟩
  have xa5 := (FA.out.below hb3).f5
  have xb5 := (FB.out.below hb3).f5
  go_wp2_with fail
  refine (equal_ins5 _ _ _ _ P.code Q.code w3 (HP.out.below hb3).code (HQ.out.below hb3).code (by have := HP.out.lcode; omega)).mono ?_
  rintro e w5 ⟨rfl, hb5⟩
  replace hb5 := hb3.trans (hb5.mono hb3.size)
  clear xa5 xb5
  go_wp2
  go_ret
  exact ⟨ret_bool (by simp [prgEq, h0, h1, h2, h3, h4]), hbA.trans (hb5.mono hzA)⟩
end Go.Proofs.YtfjiikadnlhekaaDoor
