/-
  What is proved here: the reference's Twin makes a program of its own, the same as the one handed in. Conditions: the program lies in memory, each list within 2^47 bytes.
-/
import Derived.Test.YtfjiikadnlhekaaDoorAny
import Derived.Test.YtfjiikadnlhekaaDoorEnc
import Derived.StillTail
namespace Go.Proofs.YtfjiikadnlhekaaDoor
open Go.RowKit

/-- What an operation has left in its slot. -/
inductive Kd where
  | emp (e : TypeId)
  | val (v : Value)
  | row (n : Nat) (xs : List Value)
  | agg
def Kd.ok (B : Nat) (P : Prg) (k : Kd) (v : Value) (w : World) : Prop := match k with
  | .emp e => ∃ g, v = .slice (some ⟨g, 0, none⟩) 0 0 ∧ B ≤ g ∧ w.heap[g]? = some (.cells #[] e (0, 0))
  | .val u => v = u
  | .row n xs => ∃ b d, v = .slice b n d ∧ Lies w b xs ∧ (b = none → d = 0) ∧ ∀ a, b = some a → B ≤ a.block ∧ a.block < w.heap.size
  | .agg => ∃ r : Spots, v = pval r P ∧ PAt w r P ∧ (∀ a, r.a0 = some a → B ≤ a.block) ∧ (∀ a, r.a1 = some a → B ≤ a.block) ∧ (∀ a, r.a2 = some a → B ≤ a.block) ∧ (∀ a, r.a3 = some a → B ≤ a.block) ∧ (∀ a, r.a4 = some a → B ≤ a.block)
theorem Kd.ok.below {B : Nat} {P : Prg} {k : Kd} {v : Value} {w w' : World} (h : k.ok B P v w) (hb : Below w.heap.size w w') : k.ok B P v w' := by
  cases k with
  | emp e =>
    obtain ⟨g, h1, h2, h3⟩ := h
    exact ⟨g, h1, h2, (hb.block g (Array.getElem?_eq_some_iff.1 h3).1).trans h3⟩
  | val u => exact h
  | row n xs =>
    obtain ⟨b, d, h1, h2, h3, h4⟩ := h
    exact ⟨b, d, h1, h2.below hb, h3, fun a ha => ⟨(h4 a ha).1, Nat.lt_of_lt_of_le (h4 a ha).2 hb.size⟩⟩
  | agg =>
    obtain ⟨r, h1, h2, h3⟩ := h
    exact ⟨r, h1, h2.below hb, h3⟩
/-- A program's lists lie from block B on. -/
structure SpotsGe (B : Nat) (r : Spots) : Prop where
  s0 : ∀ a, r.a0 = some a → B ≤ a.block
  s1 : ∀ a, r.a1 = some a → B ≤ a.block
  s2 : ∀ a, r.a2 = some a → B ≤ a.block
  s3 : ∀ a, r.a3 = some a → B ≤ a.block
  s4 : ∀ a, r.a4 = some a → B ≤ a.block
theorem SpotsGe.mono {B B' : Nat} {r : Spots} (h : SpotsGe B r) (hb : B' ≤ B) : SpotsGe B' r := ⟨fun a ha => Nat.le_trans hb (h.s0 a ha), fun a ha => Nat.le_trans hb (h.s1 a ha), fun a ha => Nat.le_trans hb (h.s2 a ha), fun a ha => Nat.le_trans hb (h.s3 a ha), fun a ha => Nat.le_trans hb (h.s4 a ha)⟩
theorem Lies.stay2 {w1 w' : World} {ao : Option Addr} {xs : List Value} {B : Nat} (h : Lies w1 ao xs) (hge : ∀ a, ao = some a → B ≤ a.block) (hk : ∀ b, B ≤ b → b < w1.heap.size → w'.heap[b]? = w1.heap[b]?) : Lies w' ao xs := by
  intro i v hv
  obtain ⟨a, ha, hc⟩ := h i v hv
  refine ⟨a, ha, ?_⟩
  have hlt := World.block_lt_of_cell? w1 _ hc
  rw [add_block] at hlt
  have hb := hk a.block (hge a ha) hlt
  rw [← add_block a i] at hb
  exact (World.cell?_of_block hb).trans hc
theorem PAt.stay2 {w1 w' : World} {r : Spots} {P : Prg} {B : Nat} (h : PAt w1 r P) (hge : SpotsGe B r) (hk : ∀ b, B ≤ b → b < w1.heap.size → w'.heap[b]? = w1.heap[b]?) : PAt w' r P :=
  ⟨h.ghost.stay2 hge.s0 hk, h.vars.stay2 hge.s1 hk, h.tags.stay2 hge.s2 hk, h.on.stay2 hge.s3 hk, h.code.stay2 hge.s4 hk, h.lghost, h.lvars, h.ltags, h.lon, h.lcode, h.n0, h.n1, h.n2, h.n3, h.n4⟩
def tk (s : Spots) (P : Prg) (wb : Nat) (k : Nat) : Kd := [.emp 4, .val (.pointer (some ⟨wb, 0, none⟩)), .val (.slice s.a0 P.ghost.length s.c0), .row P.ghost.length (bools P.ghost), .emp 70, .val (.pointer (some ⟨wb, 1, none⟩)), .val (.slice s.a1 P.vars.length s.c1), .row P.vars.length (flat var3 P.vars), .emp 3, .val (.pointer (some ⟨wb, 2, none⟩)), .val (.slice s.a2 P.tags.length s.c2), .row P.tags.length (nums P.tags), .emp 3, .val (.pointer (some ⟨wb, 3, none⟩)), .val (.slice s.a3 P.on.length s.c3), .row P.on.length (nums P.on), .val (.pointer (some ⟨wb, 4, none⟩)), .val (.int .i64 P.miss), .emp 57, .val (.pointer (some ⟨wb, 5, none⟩)), .val (.slice s.a4 P.code.length s.c4), .row P.code.length (flat ins5 P.code), .agg].getD k .agg
def TPre (s : Spots) (P : Prg) (wA : World) (wb : Nat) (x0 : Value) (l : Array Bool) (a : Act) (w : World) : Prop :=
  ∃ f : Nat → Value, a = ⟨#[x0, .pointer (some ⟨wb, 0, none⟩), .pointer (some ⟨wb + 1, 0, none⟩), f 0, f 1, f 2, f 3, f 4, f 5, f 6, f 7, f 8, f 9, f 10, f 11, f 12, f 13, f 14, f 15, f 16, f 17, f 18, f 19, f 20, f 21, f 22], []⟩ ∧ Below wA.heap.size wA w ∧ ∀ k, k < 23 → l.getD k false = true → (tk s P wb k).ok wA.heap.size P (f k) w
def TFin (P : Prg) (wA : World) (wb : Nat) (x0 : Value) (a : Act) (w : World) : Prop :=
  ∃ f : Nat → Value, a = ⟨#[x0, .pointer (some ⟨wb, 0, none⟩), .pointer (some ⟨wb + 1, 0, none⟩), f 0, f 1, f 2, f 3, f 4, f 5, f 6, f 7, f 8, f 9, f 10, f 11, f 12, f 13, f 14, f 15, f 16, f 17, f 18, f 19, f 20, f 21, f 22], []⟩ ∧ ∃ r : Spots, PAt w r P ∧ w.heap[wb + 1]? = some (.cells #[.slice r.a0 P.ghost.length r.c0, .slice r.a1 P.vars.length r.c1, .slice r.a2 P.tags.length r.c2, .slice r.a3 P.on.length r.c3, .int .i64 P.miss, .slice r.a4 P.code.length r.c4] 27 (0, 0)) ∧ Below wb wA w ∧ SpotsGe wA.heap.size r
def TInv (s : Spots) (P : Prg) (wA : World) (wb : Nat) (x0 : Value) (l : Array Bool) (a : Act) (w : World) : Prop :=
  l.size = 24 ∧ ((l.getD 23 false = false ∧ TPre s P wA wb x0 l a w) ∨ ((∀ k, k < 24 → l.getD k false = true) ∧ TFin P wA wb x0 a w))
theorem getD_put {l : Array Bool} {i j : Nat} (h : (l.setIfInBounds i true).getD j false = true) : j = i ∨ l.getD j false = true := by
  by_cases e : i = j
  · exact Or.inl e.symm
  · rw [getD_set_ne false e] at h; exact Or.inr h
theorem step_ok {s : Spots} {P : Prg} {wA : World} {wb : Nat} {x0 : Value} {l : Array Bool} {f : Nat → Value} {w1 w2 : World} (k : Nat) (hk : k < 23) (v : Value) (hsz : l.size = 24) (h23 : l.getD 23 false = false) (hb : Below wA.heap.size wA w1)
    (hok : ∀ k, k < 23 → l.getD k false = true → (tk s P wb k).ok wA.heap.size P (f k) w1) (hb2 : Below w1.heap.size w1 w2) (hv : (tk s P wb k).ok wA.heap.size P v w2) :
    TInv s P wA wb x0 (l.setIfInBounds k true) ⟨#[x0, .pointer (some ⟨wb, 0, none⟩), .pointer (some ⟨wb + 1, 0, none⟩), (if 0 = k then v else f 0), (if 1 = k then v else f 1), (if 2 = k then v else f 2), (if 3 = k then v else f 3), (if 4 = k then v else f 4), (if 5 = k then v else f 5), (if 6 = k then v else f 6), (if 7 = k then v else f 7), (if 8 = k then v else f 8), (if 9 = k then v else f 9), (if 10 = k then v else f 10), (if 11 = k then v else f 11), (if 12 = k then v else f 12), (if 13 = k then v else f 13), (if 14 = k then v else f 14), (if 15 = k then v else f 15), (if 16 = k then v else f 16), (if 17 = k then v else f 17), (if 18 = k then v else f 18), (if 19 = k then v else f 19), (if 20 = k then v else f 20), (if 21 = k then v else f 21), (if 22 = k then v else f 22)], []⟩ w2 := by
  refine ⟨by simp [hsz], Or.inl ⟨?_, fun i => if i = k then v else f i, rfl, hb.trans (hb2.mono hb.size), fun j hj hl => ?_⟩⟩
  · rw [getD_set_ne false (by omega)]; exact h23
  · by_cases e : j = k
    · subst e
      simp only [if_true]
      exact hv
    · simp only [if_neg e]
      rcases getD_put hl with h | h
      · exact absurd h e
      · exact (hok j hj h).below hb2

set_option maxHeartbeats 8000000 in
set_option maxRecDepth 100000 in
theorem rtwin_any (s : Spots) (P : Prg) (w : World) (hP : PAt w s P) (hs : Small P) :
    Calls Tryd.prog 26 #[pval s P] w fun e w' => ∃ r, e = .returned (pval r P) ∧ PAt w' r P ∧ Below w.heap.size w w' ∧ SpotsGe w.heap.size r := by
  obtain ⟨fA, hR, hbA, hlt⟩ := twin_blocks w s P
  unfold pcells at fA hR hbA hlt
  generalize hA : (w.alloc (.cells #[.slice s.a0 P.ghost.length s.c0, .slice s.a1 P.vars.length s.c1, .slice s.a2 P.tags.length s.c2, .slice s.a3 P.on.length s.c3, .int .i64 P.miss, .slice s.a4 P.code.length s.c4] 27)).alloc (.cells #[.slice none 0 0, .slice none 0 0, .slice none 0 0, .slice none 0 0, .int .i64 0, .slice none 0 0] 27) = wA at fA hR hbA hlt
  have HP := Lib.hid (hP.below hbA)
  have HS := Lib.hid hs
  have FA := Lib.hid fA
  have hbA' : Below wA.heap.size wA wA := Below.refl _ _
  have hzA := hbA.size
  have HR := Lib.hid hR
  have HBA := Lib.hid hbA
  have HLT := Lib.hid hlt
  clear hP fA hR hs hbA hlt
  obtain ⟨i4, hi4, hz40, hz41, hz42⟩ := info_parts info4
  obtain ⟨i70, hi70, hz700, hz701, hz702⟩ := info_parts info70
  obtain ⟨i3, hi3, hz30, hz31, hz32⟩ := info_parts info3
  obtain ⟨i57, hi57, hz570, hz571, hz572⟩ := info_parts info57
  go_enter Tryd.func26, Tryd.ntmps26
  unfold pval
  go_wp2_with fail
  try rw [hA]
  clear hA
  obtain ⟨x0, hx0⟩ : ∃ x0 : Value, x0 = .agg #[.slice s.a0 P.ghost.length s.c0, .slice s.a1 P.vars.length s.c1, .slice s.a2 P.tags.length s.c2, .slice s.a3 P.on.length s.c3, .int .i64 P.miss, .slice s.a4 P.code.length s.c4] := ⟨_, rfl⟩
  rw [← hx0]
  clear hx0
  generalize hwb : w.heap.size = wb at *
  have HWB := Lib.hid hwb
  clear hwb
  refine wp_region_any (by kernel_rfl) ?_
  try (change wpAny _ _ _ _ _ _ _ (World.drew _))
  refine wpAny_inv (TInv s P wA wb x0) ?hstep ?hdone _ _ _ _ ?hstart ?hleft
  case hleft => decide
  case hstart =>
    refine ⟨rfl, Or.inl ⟨rfl, fun _ => undef, rfl, hbA'.drew, fun k hk hl => ?_⟩⟩
    have h0 : ∀ j, (Array.replicate 24 false).getD j false = false := getD_replicate_false 24
    rw [show (#[_, _, _, _, _, _, _, _, _, _, _, _, _, _, _, _, _, _, _, _, _, _, _, _] : Array Oper).size = 24 from rfl, h0] at hl
    cases hl
  case hdone =>
    intro l a w1 hI hr
    have hl := all_listed (by kernel_rfl) (by rw [hI.1]; rfl) hr 23 (by decide)
    obtain ⟨_, ⟨h23, _⟩ | ⟨_, f, rfl, r, hP', hblk, hb, hge⟩⟩ := hI
    · rw [h23] at hl; cases hl
    clear hr hl
    go_wp2
    refine bodyPost_ret_by (results_cell_row (p := 2) (ty := 27) (by kernel_rfl) _ _ (wb + 1) 27 _ (0, 0) _ rfl hblk Tryd.underlying27 rfl (by kernel_rfl)) rfl ?_
    exact ⟨r, rfl, hP', by rw [HWB.out]; exact HBA.out.trans hb, hge.mono HBA.out.size⟩
  case hstep =>
    intro l a w1 i hI hi
    obtain ⟨hun, o, ho, hdeps⟩ := mem_ready.1 hi
    have hi24 : i < 24 := (Array.getElem?_eq_some_iff.1 ho).1
    obtain ⟨hsz, ⟨h23, f, rfl, hb, hok⟩ | ⟨hall, _⟩⟩ := hI
    case inr =>
      have h1 := hall i hi24
      rw [getD_both hun] at h1
      cases h1
    have hd : ∀ j, (∃ e, e ∈ o.after ∧ Region.binds .any e = true ∧ e.on = j) → l.getD j false = true := fun j ⟨e, he, hbd, hj⟩ => by rw [← hj]; exact hdeps e he hbd
    clear hdeps hi
    have FF := FA.out.below hb
    have HP1 := HP.out.below hb
    rcases (show i = 0 ∨ i = 1 ∨ i = 2 ∨ i = 3 ∨ i = 4 ∨ i = 5 ∨ i = 6 ∨ i = 7 ∨ i = 8 ∨ i = 9 ∨ i = 10 ∨ i = 11 ∨ i = 12 ∨ i = 13 ∨ i = 14 ∨ i = 15 ∨ i = 16 ∨ i = 17 ∨ i = 18 ∨ i = 19 ∨ i = 20 ∨ i = 21 ∨ i = 22 ∨ i = 23 by omega) with rfl | rfl | rfl | rfl | rfl | rfl | rfl | rfl | rfl | rfl | rfl | rfl | rfl | rfl | rfl | rfl | rfl | rfl | rfl | rfl | rfl | rfl | rfl | rfl
    · cases ho
      refine wpOp_step rfl (fun K hK => ?_)
      go_simp
      refine hK _ _ ?_
      exact step_ok 0 (by decide) _ hsz h23 hb hok ((Below.refl _ w1).alloc (Nat.le_refl _) _) ⟨w1.heap.size, rfl, hb.size, (MapKept.heap_alloc w1 (.cells #[] 4)).1⟩
    · cases ho
      refine wpOp_step rfl (fun K hK => ?_)
      go_simp
      refine hK _ _ ?_
      exact step_ok 1 (by decide) _ hsz h23 hb hok (Below.refl _ _) rfl
    · cases ho
      have e1 : f 1 = .pointer (some ⟨wb, 0, none⟩) := hok 1 (by decide) (hd 1 ⟨⟨1, .data⟩, by simp, rfl, rfl⟩)
      have c1 := FF.f0
      refine wpOp_step rfl (fun K hK => ?_)
      go_simp
      refine hK _ _ ?_
      have h9 : TInv s P wA wb x0 (l.setIfInBounds 2 true) ⟨#[x0, .pointer (some ⟨wb, 0, none⟩), .pointer (some ⟨wb + 1, 0, none⟩), f 0, f 1, .slice s.a0 P.ghost.length s.c0, f 3, f 4, f 5, f 6, f 7, f 8, f 9, f 10, f 11, f 12, f 13, f 14, f 15, f 16, f 17, f 18, f 19, f 20, f 21, f 22], []⟩ w1 := step_ok 2 (by decide) _ hsz h23 hb hok (Below.refl _ _) rfl
      rw [e1] at h9
      exact h9
    · cases ho
      have e0 := hok 0 (by decide) (hd 0 ⟨⟨0, .data⟩, by simp, rfl, rfl⟩)
      have e2 : f 2 = .slice s.a0 P.ghost.length s.c0 := hok 2 (by decide) (hd 2 ⟨⟨2, .data⟩, by simp, rfl, rfl⟩)
      obtain ⟨g, hg1, hg2, hg3⟩ := e0
      refine wpOp_step rfl (fun K hK => ?_)
      refine step_app0 (by rfl) (Operand.tmp 3) (Operand.tmp 5) 22 (by rfl) 4 i4 (.bool false) 1 1 Tryd.underlying22 hi4 hz40 hz41 hz42 (by omega) g (Array.getElem?_eq_some_iff.1 hg3).1 hg1 s.a0 P.ghost.length s.c0 (bools P.ghost) e2 ((bools_length _).trans (Nat.mul_one _).symm) HP1.ghost (bools_one P.ghost) (by have := HP.out.lghost; unfold maxLen; omega) HS.out.ghost ?_
      intro b d w2 hL hn hbk hb2
      refine hK _ _ ?_
      exact step_ok 3 (by decide) _ hsz h23 hb hok hb2 ⟨b, d, rfl, hL, hn, fun a ha => ⟨by rcases (hbk a ha).1 with h | h <;> (have := hb.size; omega), (hbk a ha).2⟩⟩
    · cases ho
      refine wpOp_step rfl (fun K hK => ?_)
      go_simp
      refine hK _ _ ?_
      exact step_ok 4 (by decide) _ hsz h23 hb hok ((Below.refl _ w1).alloc (Nat.le_refl _) _) ⟨w1.heap.size, rfl, hb.size, (MapKept.heap_alloc w1 (.cells #[] 70)).1⟩
    · cases ho
      refine wpOp_step rfl (fun K hK => ?_)
      go_simp
      refine hK _ _ ?_
      exact step_ok 5 (by decide) _ hsz h23 hb hok (Below.refl _ _) rfl
    · cases ho
      have e1 : f 5 = .pointer (some ⟨wb, 1, none⟩) := hok 5 (by decide) (hd 5 ⟨⟨5, .data⟩, by simp, rfl, rfl⟩)
      have c1 := FF.f1
      refine wpOp_step rfl (fun K hK => ?_)
      go_simp
      refine hK _ _ ?_
      have h9 : TInv s P wA wb x0 (l.setIfInBounds 6 true) ⟨#[x0, .pointer (some ⟨wb, 0, none⟩), .pointer (some ⟨wb + 1, 0, none⟩), f 0, f 1, f 2, f 3, f 4, f 5, .slice s.a1 P.vars.length s.c1, f 7, f 8, f 9, f 10, f 11, f 12, f 13, f 14, f 15, f 16, f 17, f 18, f 19, f 20, f 21, f 22], []⟩ w1 := step_ok 6 (by decide) _ hsz h23 hb hok (Below.refl _ _) rfl
      rw [e1] at h9
      exact h9
    · cases ho
      have e0 := hok 4 (by decide) (hd 4 ⟨⟨4, .data⟩, by simp, rfl, rfl⟩)
      have e2 : f 6 = .slice s.a1 P.vars.length s.c1 := hok 6 (by decide) (hd 6 ⟨⟨6, .data⟩, by simp, rfl, rfl⟩)
      obtain ⟨g, hg1, hg2, hg3⟩ := e0
      refine wpOp_step rfl (fun K hK => ?_)
      refine step_app0 (by rfl) (Operand.tmp 7) (Operand.tmp 9) 23 (by rfl) 70 i70 (.agg #[.int .i64 0, .int .i64 0, .int .i64 0]) 3 24 Tryd.underlying23 hi70 hz700 hz701 hz702 (by omega) g (Array.getElem?_eq_some_iff.1 hg3).1 hg1 s.a1 P.vars.length s.c1 (flat var3 P.vars) e2 (flat_length _ 3 (fun _ => rfl) _) HP1.vars (var3_one P.vars) (by have := HP.out.lvars; unfold maxLen; omega) HS.out.vars ?_
      intro b d w2 hL hn hbk hb2
      refine hK _ _ ?_
      exact step_ok 7 (by decide) _ hsz h23 hb hok hb2 ⟨b, d, rfl, hL, hn, fun a ha => ⟨by rcases (hbk a ha).1 with h | h <;> (have := hb.size; omega), (hbk a ha).2⟩⟩
    · cases ho
      refine wpOp_step rfl (fun K hK => ?_)
      go_simp
      refine hK _ _ ?_
      exact step_ok 8 (by decide) _ hsz h23 hb hok ((Below.refl _ w1).alloc (Nat.le_refl _) _) ⟨w1.heap.size, rfl, hb.size, (MapKept.heap_alloc w1 (.cells #[] 3)).1⟩
    · cases ho
      refine wpOp_step rfl (fun K hK => ?_)
      go_simp
      refine hK _ _ ?_
      exact step_ok 9 (by decide) _ hsz h23 hb hok (Below.refl _ _) rfl
    · cases ho
      have e1 : f 9 = .pointer (some ⟨wb, 2, none⟩) := hok 9 (by decide) (hd 9 ⟨⟨9, .data⟩, by simp, rfl, rfl⟩)
      have c1 := FF.f2
      refine wpOp_step rfl (fun K hK => ?_)
      go_simp
      refine hK _ _ ?_
      have h9 : TInv s P wA wb x0 (l.setIfInBounds 10 true) ⟨#[x0, .pointer (some ⟨wb, 0, none⟩), .pointer (some ⟨wb + 1, 0, none⟩), f 0, f 1, f 2, f 3, f 4, f 5, f 6, f 7, f 8, f 9, .slice s.a2 P.tags.length s.c2, f 11, f 12, f 13, f 14, f 15, f 16, f 17, f 18, f 19, f 20, f 21, f 22], []⟩ w1 := step_ok 10 (by decide) _ hsz h23 hb hok (Below.refl _ _) rfl
      rw [e1] at h9
      exact h9
    · cases ho
      have e0 := hok 8 (by decide) (hd 8 ⟨⟨8, .data⟩, by simp, rfl, rfl⟩)
      have e2 : f 10 = .slice s.a2 P.tags.length s.c2 := hok 10 (by decide) (hd 10 ⟨⟨10, .data⟩, by simp, rfl, rfl⟩)
      obtain ⟨g, hg1, hg2, hg3⟩ := e0
      refine wpOp_step rfl (fun K hK => ?_)
      refine step_app0 (by rfl) (Operand.tmp 11) (Operand.tmp 13) 24 (by rfl) 3 i3 (.int .i64 0) 1 8 Tryd.underlying24 hi3 hz30 hz31 hz32 (by omega) g (Array.getElem?_eq_some_iff.1 hg3).1 hg1 s.a2 P.tags.length s.c2 (nums P.tags) e2 ((nums_length _).trans (Nat.mul_one _).symm) HP1.tags (nums_one P.tags) (by have := HP.out.ltags; unfold maxLen; omega) HS.out.tags ?_
      intro b d w2 hL hn hbk hb2
      refine hK _ _ ?_
      exact step_ok 11 (by decide) _ hsz h23 hb hok hb2 ⟨b, d, rfl, hL, hn, fun a ha => ⟨by rcases (hbk a ha).1 with h | h <;> (have := hb.size; omega), (hbk a ha).2⟩⟩
    · cases ho
      refine wpOp_step rfl (fun K hK => ?_)
      go_simp
      refine hK _ _ ?_
      exact step_ok 12 (by decide) _ hsz h23 hb hok ((Below.refl _ w1).alloc (Nat.le_refl _) _) ⟨w1.heap.size, rfl, hb.size, (MapKept.heap_alloc w1 (.cells #[] 3)).1⟩
    · cases ho
      refine wpOp_step rfl (fun K hK => ?_)
      go_simp
      refine hK _ _ ?_
      exact step_ok 13 (by decide) _ hsz h23 hb hok (Below.refl _ _) rfl
    · cases ho
      have e1 : f 13 = .pointer (some ⟨wb, 3, none⟩) := hok 13 (by decide) (hd 13 ⟨⟨13, .data⟩, by simp, rfl, rfl⟩)
      have c1 := FF.f3
      refine wpOp_step rfl (fun K hK => ?_)
      go_simp
      refine hK _ _ ?_
      have h9 : TInv s P wA wb x0 (l.setIfInBounds 14 true) ⟨#[x0, .pointer (some ⟨wb, 0, none⟩), .pointer (some ⟨wb + 1, 0, none⟩), f 0, f 1, f 2, f 3, f 4, f 5, f 6, f 7, f 8, f 9, f 10, f 11, f 12, f 13, .slice s.a3 P.on.length s.c3, f 15, f 16, f 17, f 18, f 19, f 20, f 21, f 22], []⟩ w1 := step_ok 14 (by decide) _ hsz h23 hb hok (Below.refl _ _) rfl
      rw [e1] at h9
      exact h9
    · cases ho
      have e0 := hok 12 (by decide) (hd 12 ⟨⟨12, .data⟩, by simp, rfl, rfl⟩)
      have e2 : f 14 = .slice s.a3 P.on.length s.c3 := hok 14 (by decide) (hd 14 ⟨⟨14, .data⟩, by simp, rfl, rfl⟩)
      obtain ⟨g, hg1, hg2, hg3⟩ := e0
      refine wpOp_step rfl (fun K hK => ?_)
      refine step_app0 (by rfl) (Operand.tmp 15) (Operand.tmp 17) 24 (by rfl) 3 i3 (.int .i64 0) 1 8 Tryd.underlying24 hi3 hz30 hz31 hz32 (by omega) g (Array.getElem?_eq_some_iff.1 hg3).1 hg1 s.a3 P.on.length s.c3 (nums P.on) e2 ((nums_length _).trans (Nat.mul_one _).symm) HP1.on (nums_one P.on) (by have := HP.out.lon; unfold maxLen; omega) HS.out.on ?_
      intro b d w2 hL hn hbk hb2
      refine hK _ _ ?_
      exact step_ok 15 (by decide) _ hsz h23 hb hok hb2 ⟨b, d, rfl, hL, hn, fun a ha => ⟨by rcases (hbk a ha).1 with h | h <;> (have := hb.size; omega), (hbk a ha).2⟩⟩
    · cases ho
      refine wpOp_step rfl (fun K hK => ?_)
      go_simp
      refine hK _ _ ?_
      exact step_ok 16 (by decide) _ hsz h23 hb hok (Below.refl _ _) rfl
    · cases ho
      have e1 : f 16 = .pointer (some ⟨wb, 4, none⟩) := hok 16 (by decide) (hd 16 ⟨⟨16, .data⟩, by simp, rfl, rfl⟩)
      have c1 := FF.f4
      refine wpOp_step rfl (fun K hK => ?_)
      go_simp
      refine hK _ _ ?_
      have h9 : TInv s P wA wb x0 (l.setIfInBounds 17 true) ⟨#[x0, .pointer (some ⟨wb, 0, none⟩), .pointer (some ⟨wb + 1, 0, none⟩), f 0, f 1, f 2, f 3, f 4, f 5, f 6, f 7, f 8, f 9, f 10, f 11, f 12, f 13, f 14, f 15, f 16, .int .i64 P.miss, f 18, f 19, f 20, f 21, f 22], []⟩ w1 := step_ok 17 (by decide) _ hsz h23 hb hok (Below.refl _ _) rfl
      rw [e1] at h9
      exact h9
    · cases ho
      refine wpOp_step rfl (fun K hK => ?_)
      go_simp
      refine hK _ _ ?_
      exact step_ok 18 (by decide) _ hsz h23 hb hok ((Below.refl _ w1).alloc (Nat.le_refl _) _) ⟨w1.heap.size, rfl, hb.size, (MapKept.heap_alloc w1 (.cells #[] 57)).1⟩
    · cases ho
      refine wpOp_step rfl (fun K hK => ?_)
      go_simp
      refine hK _ _ ?_
      exact step_ok 19 (by decide) _ hsz h23 hb hok (Below.refl _ _) rfl
    · cases ho
      have e1 : f 19 = .pointer (some ⟨wb, 5, none⟩) := hok 19 (by decide) (hd 19 ⟨⟨19, .data⟩, by simp, rfl, rfl⟩)
      have c1 := FF.f5
      refine wpOp_step rfl (fun K hK => ?_)
      go_simp
      refine hK _ _ ?_
      have h9 : TInv s P wA wb x0 (l.setIfInBounds 20 true) ⟨#[x0, .pointer (some ⟨wb, 0, none⟩), .pointer (some ⟨wb + 1, 0, none⟩), f 0, f 1, f 2, f 3, f 4, f 5, f 6, f 7, f 8, f 9, f 10, f 11, f 12, f 13, f 14, f 15, f 16, f 17, f 18, f 19, .slice s.a4 P.code.length s.c4, f 21, f 22], []⟩ w1 := step_ok 20 (by decide) _ hsz h23 hb hok (Below.refl _ _) rfl
      rw [e1] at h9
      exact h9
    · cases ho
      have e0 := hok 18 (by decide) (hd 18 ⟨⟨18, .data⟩, by simp, rfl, rfl⟩)
      have e2 : f 20 = .slice s.a4 P.code.length s.c4 := hok 20 (by decide) (hd 20 ⟨⟨20, .data⟩, by simp, rfl, rfl⟩)
      obtain ⟨g, hg1, hg2, hg3⟩ := e0
      refine wpOp_step rfl (fun K hK => ?_)
      refine step_app0 (by rfl) (Operand.tmp 21) (Operand.tmp 23) 25 (by rfl) 57 i57 (.agg #[.int .i64 0, .int .i64 0, .int .i64 0, .int .i64 0, .int .i64 0]) 5 40 Tryd.underlying25 hi57 hz570 hz571 hz572 (by omega) g (Array.getElem?_eq_some_iff.1 hg3).1 hg1 s.a4 P.code.length s.c4 (flat ins5 P.code) e2 (flat_length _ 5 (fun _ => rfl) _) HP1.code (ins5_one P.code) (by have := HP.out.lcode; unfold maxLen; omega) HS.out.code ?_
      intro b d w2 hL hn hbk hb2
      refine hK _ _ ?_
      exact step_ok 21 (by decide) _ hsz h23 hb hok hb2 ⟨b, d, rfl, hL, hn, fun a ha => ⟨by rcases (hbk a ha).1 with h | h <;> (have := hb.size; omega), (hbk a ha).2⟩⟩
    · cases ho
      obtain ⟨b0, d0, v0, l0, m0, k0⟩ := hok 3 (by decide) (hd 3 ⟨⟨3, .data⟩, by simp, rfl, rfl⟩)
      obtain ⟨b1, d1, v1, l1, m1, k1⟩ := hok 7 (by decide) (hd 7 ⟨⟨7, .data⟩, by simp, rfl, rfl⟩)
      obtain ⟨b2, d2, v2, l2, m2, k2⟩ := hok 11 (by decide) (hd 11 ⟨⟨11, .data⟩, by simp, rfl, rfl⟩)
      obtain ⟨b3, d3, v3, l3, m3, k3⟩ := hok 15 (by decide) (hd 15 ⟨⟨15, .data⟩, by simp, rfl, rfl⟩)
      obtain ⟨b4, d4, v4, l4, m4, k4⟩ := hok 21 (by decide) (hd 21 ⟨⟨21, .data⟩, by simp, rfl, rfl⟩)
      have vm : f 17 = .int .i64 P.miss := hok 17 (by decide) (hd 17 ⟨⟨17, .data⟩, by simp, rfl, rfl⟩)
      refine wpOp_step rfl (fun K hK => ?_)
      have HV : (tk s P wb 22).ok wA.heap.size P (.agg #[f 3, f 7, f 11, f 15, f 17, f 21]) w1 := by
        rw [v0, v1, v2, v3, vm, v4]
        exact ⟨⟨b0, d0, b1, d1, b2, d2, b3, d3, b4, d4⟩, rfl, ⟨l0, l1, l2, l3, l4, HP.out.lghost, HP.out.lvars, HP.out.ltags, HP.out.lon, HP.out.lcode, m0, m1, m2, m3, m4⟩, fun a ha => (k0 a ha).1, fun a ha => (k1 a ha).1, fun a ha => (k2 a ha).1, fun a ha => (k3 a ha).1, fun a ha => (k4 a ha).1⟩
      have h9 : TInv s P wA wb x0 (l.setIfInBounds 22 true) ⟨#[x0, .pointer (some ⟨wb, 0, none⟩), .pointer (some ⟨wb + 1, 0, none⟩), f 0, f 1, f 2, f 3, f 4, f 5, f 6, f 7, f 8, f 9, f 10, f 11, f 12, f 13, f 14, f 15, f 16, f 17, f 18, f 19, f 20, f 21, .agg #[f 3, f 7, f 11, f 15, f 17, f 21]], []⟩ w1 := step_ok 22 (by decide) _ hsz h23 hb hok (Below.refl _ _) HV
      rw [v0, v1, v2, v3, vm, v4] at h9
      have H9 := Lib.hid h9
      clear h9 HV
      go_simp
      refine hK _ _ ?_
      exact H9.out
    · cases ho
      obtain ⟨r, hr, hPr, q0, q1, q2, q3, q4⟩ := hok 22 (by decide) (hd 22 ⟨⟨22, .data⟩, by simp, rfl, rfl⟩)
      have hallp : ∀ k, k < 23 → l.getD k false = true := fun k hk => by
        refine hd k ?_
        rcases (show k = 0 ∨ k = 1 ∨ k = 2 ∨ k = 3 ∨ k = 4 ∨ k = 5 ∨ k = 6 ∨ k = 7 ∨ k = 8 ∨ k = 9 ∨ k = 10 ∨ k = 11 ∨ k = 12 ∨ k = 13 ∨ k = 14 ∨ k = 15 ∨ k = 16 ∨ k = 17 ∨ k = 18 ∨ k = 19 ∨ k = 20 ∨ k = 21 ∨ k = 22 by omega) with rfl | rfl | rfl | rfl | rfl | rfl | rfl | rfl | rfl | rfl | rfl | rfl | rfl | rfl | rfl | rfl | rfl | rfl | rfl | rfl | rfl | rfl | rfl
        all_goals first | exact ⟨⟨_, .phase⟩, by simp; done, rfl, rfl⟩ | exact ⟨⟨_, .data⟩, by simp; done, rfl, rfl⟩
      refine wpOp_step rfl (fun K hK => ?_)
      have hr5 := (hb.block _ HLT.out).trans HR.out
      have r0 := cell_at hr5 0
      have r1 := cell_at hr5 1
      have r2 := cell_at hr5 2
      have r3 := cell_at hr5 3
      have r4 := cell_at hr5 4
      have r5 := cell_at hr5 5
      have z0 := free_at hr5 0
      have z1 := free_at hr5 1
      have z2 := free_at hr5 2
      have z3 := free_at hr5 3
      have z4 := free_at hr5 4
      have z5 := free_at hr5 5
      have hwA : wb + 1 < wA.heap.size := HLT.out
      have so := fun k h => six_other w1 (wb + 1) k h (.slice r.a0 P.ghost.length r.c0) (.slice r.a1 P.vars.length r.c1) (.slice r.a2 P.tags.length r.c2) (.slice r.a3 P.on.length r.c3) (.int .i64 P.miss) (.slice r.a4 P.code.length r.c4)
      have sb := six_set hr5 (.slice r.a0 P.ghost.length r.c0) (.slice r.a1 P.vars.length r.c1) (.slice r.a2 P.tags.length r.c2) (.slice r.a3 P.on.length r.c3) (.int .i64 P.miss) (.slice r.a4 P.code.length r.c4)
      have sw := six_below (hb.mono (show wb ≤ wA.heap.size by omega)) (wb + 1) (by omega) (.slice r.a0 P.ghost.length r.c0) (.slice r.a1 P.vars.length r.c1) (.slice r.a2 P.tags.length r.c2) (.slice r.a3 P.on.length r.c3) (.int .i64 P.miss) (.slice r.a4 P.code.length r.c4)
      have KK : PAt ((((((w1.setCell ⟨wb + 1, 0, none⟩ (.slice r.a0 P.ghost.length r.c0)).setCell ⟨wb + 1, 1, none⟩ (.slice r.a1 P.vars.length r.c1)).setCell ⟨wb + 1, 2, none⟩ (.slice r.a2 P.tags.length r.c2)).setCell ⟨wb + 1, 3, none⟩ (.slice r.a3 P.on.length r.c3)).setCell ⟨wb + 1, 4, none⟩ (.int .i64 P.miss)).setCell ⟨wb + 1, 5, none⟩ (.slice r.a4 P.code.length r.c4)) r P := ⟨hPr.ghost.kept (fun a ha => so _ (by have := q0 a ha; omega)), hPr.vars.kept (fun a ha => so _ (by have := q1 a ha; omega)), hPr.tags.kept (fun a ha => so _ (by have := q2 a ha; omega)), hPr.on.kept (fun a ha => so _ (by have := q3 a ha; omega)), hPr.code.kept (fun a ha => so _ (by have := q4 a ha; omega)), hPr.lghost, hPr.lvars, hPr.ltags, hPr.lon, hPr.lcode, hPr.n0, hPr.n1, hPr.n2, hPr.n3, hPr.n4⟩
      have HK := Lib.hid KK
      have HSB := Lib.hid sb
      have HSW := Lib.hid sw
      unfold pval at hr
      clear KK sb sw so hr5
      go_simp
      refine hK _ _ ?_
      refine ⟨by simp [hsz], Or.inr ⟨fun k hk => ?_, fun j => if j = 22 then pval r P else f j, rfl, r, HK.out, HSB.out, HSW.out, ⟨q0, q1, q2, q3, q4⟩⟩⟩
      by_cases e : k = 23
      · subst e
        simp [hsz]
      · exact getD_set_true (hallp k (by omega))
end Go.Proofs.YtfjiikadnlhekaaDoor
