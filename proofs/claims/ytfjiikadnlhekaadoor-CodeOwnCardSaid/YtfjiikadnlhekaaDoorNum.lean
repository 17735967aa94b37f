/-
  What is proved here: a writer's number lays a number's bytes behind what it holds. Conditions: the writer lies in memory; fewer than 2^40 bytes.
-/
import Derived.Test.YtfjiikadnlhekaaDoorCheck4
import Derived.Maps.AppendAt
import Derived.OwnWalk
import Derived.Laws.BitsAllLaws
namespace Go.Proofs.YtfjiikadnlhekaaDoor
open Go.RowKit

/-- An owned slice that is not empty: its shape. -/
theorem own_shape {w : World} {base : Nat} {e : TypeId} {v : Value} {n : Nat} {xs : List Value} (h : w.ownsRow base e 1 v n xs) (hn : 0 < n) :
    ∃ g cap, v = .slice (some ⟨g, 0, none⟩) n cap ∧ base ≤ g ∧ g < w.heap.size ∧ n ≤ cap ∧ cap ≤ maxLen := by
  rcases h.2 with ⟨_, h0⟩ | ⟨g, cap, cur, hv, hg, hh, hc, hm, _⟩
  · omega
  · exact ⟨g, cap, hv, hg, (Array.getElem?_eq_some_iff.1 hh).1, hc, hm⟩

/-- The law on 'append(v, u)', v the call's own, elements of one cell: u has just been laid in a block of its own. -/
theorem wpList_append1 {P : Program} {w : World} {ops : Array Oper} {rest : List Oper} {o : Oper} {a : Act} {Q : Exit → Act → World → Prop} (hgd : o.guard = none) (s x : Operand) (t : TypeId)
    (ho : o.op = .call { callee := .builtin .append, args := #[s, x], argTypes := #[t, t] })
    (base : Nat) (e : TypeId) (z : Value) (bytes : Nat) (ht : P.underlying t = some (.slice e)) (hinfo : (P.info? e).map (fun i => (i.zero, i.size, i.bytes)) = some (some z, 1, bytes)) (hzs : z.cells.size = 1)
    (v : Value) (n : Nat) (xs : List Value) (hs : a.eval s = v) (hown : w.ownsRow base e 1 v n xs)
    (N : Nat) (hN : N = w.heap.size) (u : Value) (hx : a.eval x = .slice (some ⟨N, 0, none⟩) 1 1) (h1 : u.oneCell' = true)
    (h63 : n + 1 ≤ maxLen) (hbytes : (n + 1) * bytes ≤ 140737488355328) (hbase : base ≤ w.heap.size)
    (h : ∀ g cap w', w'.ownsRow base e 1 (.slice (some ⟨g, 0, none⟩) (n + 1) cap) (n + 1) (xs ++ [u]) → w.grownBy w' v.ownBlock → base ≤ g → (v.ownBlock = some g ∨ w.heap.size ≤ g) → wpList P ops Q rest (a.put o.dst (.slice (some ⟨g, 0, none⟩) (n + 1) cap)) w') :
    wpList P ops Q (o :: rest) a (w.alloc (.cells #[u] e)) := by
  subst hN
  obtain ⟨i, hi, hz0, hz1, hz2⟩ := info_parts hinfo
  refine wpList_append_own_at _ hgd s x t ho base e i z 1 bytes ht hi hz0 hz1 hz2 hzs (by omega) v n xs hs (hown.alloc _) ⟨w.heap.size, 0, none⟩ 1 1 [u] hx rfl (cell_one_new _ _ _) (by intro y hy; simp at hy; subst hy; exact h1) h63 hbytes (by simp; omega) ?_
  intro v' w' hown' hgrow _ hloc
  obtain ⟨g, cap, rfl, hg, _⟩ := own_shape hown' (by omega)
  refine h g cap w' hown' ⟨hgrow.os, hgrow.tape, hgrow.output, Nat.le_trans (by simp) hgrow.size, fun k hk hne => ?_⟩ hg ?_
  · rw [hgrow.block k (by simp; omega) hne]
    exact Below.heap_alloc w _ k hk
  · rcases hloc with h1 | h1
    · exact Or.inl h1.symm
    · right
      simp [Value.ownBlock] at h1
      omega

/-- Bytes as cells. -/
def bcells (l : List UInt8) : List Value := l.map fun c => Value.int .u8 (c.toNat : Int)
theorem bcells_length (l : List UInt8) : (bcells l).length = l.length := by simp [bcells]
theorem bcells_app (l : List UInt8) (c : UInt8) : bcells l ++ [.int .u8 (c.toNat : Int)] = bcells (l ++ [c]) := by simp [bcells]

/-- A number's bytes. -/
def numF : Nat → Nat → List UInt8
  | 0, u => [UInt8.ofNat u]
  | f + 1, u => if u < 128 then [UInt8.ofNat u] else UInt8.ofNat (u % 128 + 128) :: numF f (u / 128)
def num (u : Nat) : List UInt8 := numF 10 u

/-- A writer lies in block b, its bytes in row g, the call's own. -/
def WG (w : World) (B b g : Nat) (l : List UInt8) : Prop :=
  B ≤ b ∧ B ≤ g ∧ g ≠ b ∧ ∃ cap, w.heap[b]? = some (.cells #[.slice (some ⟨g, 0, none⟩) l.length cap] 67 (0, 0)) ∧ w.ownsRow B 5 1 (.slice (some ⟨g, 0, none⟩) l.length cap) l.length (bcells l)

/-- Nothing but the writer in block b and its row has turned; its row is the same or a new one. -/
structure WMoved (w w' : World) (b g g' : Nat) : Prop where
  os : w'.os = w.os
  tape : w'.tape = w.tape
  output : w'.output = w.output
  size : w.heap.size ≤ w'.heap.size
  row : g' = g ∨ w.heap.size ≤ g'
  block : ∀ k, k < w.heap.size → k ≠ b → k ≠ g → w'.heap[k]? = w.heap[k]?
theorem WMoved.refl (w : World) (b g : Nat) : WMoved w w b g g := ⟨rfl, rfl, rfl, Nat.le_refl _, Or.inl rfl, fun _ _ _ _ => rfl⟩
theorem WMoved.trans {w w1 w2 : World} {b g g1 g2 : Nat} (h : WMoved w w1 b g g1) (k : WMoved w1 w2 b g1 g2) : WMoved w w2 b g g2 := by
  have s1 := h.size
  have r1 := h.row
  have r2 := k.row
  exact ⟨k.os.trans h.os, k.tape.trans h.tape, k.output.trans h.output, Nat.le_trans s1 k.size, by omega, fun j hj hb hg => (k.block j (by omega) hb (by omega)).trans (h.block j hj hb hg)⟩
theorem WMoved.below {B : Nat} {w w' : World} {b g g' : Nat} (h : WMoved w w' b g g') (hb : B ≤ b) (hg : B ≤ g) (hB : B ≤ w.heap.size) : Below B w w' :=
  ⟨h.os, h.tape, h.output, h.size, fun k hk => h.block k (by omega) (by omega) (by omega)⟩
theorem WMoved.alloc {w w' : World} {b g g' : Nat} (h : WMoved w w' b g g') (o : Obj) : WMoved w (w'.alloc o) b g g' :=
  ⟨h.os, h.tape, h.output, by have := h.size; simp; omega, h.row, fun k hk h1 h2 => (Below.heap_alloc w' o k (by have := h.size; omega)).trans (h.block k hk h1 h2)⟩
/-- What only makes memory leaves a writer as it was. -/
theorem WMoved.of_below {w w' w2 : World} {b g g' : Nat} (h : WMoved w w' b g g') (hb : Below w'.heap.size w' w2) : WMoved w w2 b g g' :=
  ⟨hb.os.trans h.os, hb.tape.trans h.tape, hb.output.trans h.output, Nat.le_trans h.size hb.size, h.row, fun k hk h1 h2 => (hb.block k (by have := h.size; omega)).trans (h.block k hk h1 h2)⟩
theorem WG.below {w w' : World} {B b g : Nat} {l : List UInt8} (h : WG w B b g l) (hb : Below w.heap.size w w') : WG w' B b g l := by
  obtain ⟨h1, h2, h3, cap, hv, hown⟩ := h
  have hlt := (Array.getElem?_eq_some_iff.1 hv).1
  exact ⟨h1, h2, h3, cap, (hb.block b hlt).trans hv, hown.kept (row := none) ⟨hb.os, hb.tape, hb.output, hb.size, fun k hk _ => hb.block k hk⟩ (Or.inr (by simp [Value.ownBlock]))⟩
theorem WG.lt {w : World} {B b g : Nat} {l : List UInt8} (h : WG w B b g l) : b < w.heap.size ∧ g < w.heap.size := by
  obtain ⟨_, _, _, cap, hv, hown⟩ := h
  exact ⟨(Array.getElem?_eq_some_iff.1 hv).1, (hown.lt g rfl).2⟩

theorem or128 : ∀ x : Fin 256, x.val ||| 128 = x.val % 128 + 128 := by decide +kernel
theorem WG.set {w : World} {B b g cap : Nat} {v : Value} {l : List UInt8} (hBb : B ≤ b) (hBg : B ≤ g) (hv : w.heap[b]? = some (.cells #[v] 67 (0, 0))) (h : w.ownsRow B 5 1 (.slice (some ⟨g, 0, none⟩) l.length cap) l.length (bcells l)) :
    WG (w.setCell ⟨b, 0, none⟩ (.slice (some ⟨g, 0, none⟩) l.length cap)) B b g l := by
  have hgb : g ≠ b := by
    rcases h.2 with ⟨h1, _⟩ | ⟨g', cap', cur, h1, _, hg, _⟩
    · simp at h1
    · simp only [Value.slice.injEq, Option.some.injEq, Addr.mk.injEq] at h1
      intro e
      rw [← h1.1.1, e, hv] at hg
      cases hg
  refine ⟨hBb, hBg, hgb, cap, set_block hv 0 _, ?_⟩
  exact h.kept (row := some b) ⟨rfl, rfl, rfl, by simp [World.setCell], fun k _ hk => set_other 0 _ (fun e => hk (by rw [e]))⟩ (Or.inr (by simp [Value.ownBlock, hgb]))
theorem WMoved.step {w wr w3 : World} {b g g' g3 : Nat} (h : WMoved w wr b g g') (hgr : wr.grownBy w3 (some g')) (hl : g3 = g' ∨ wr.heap.size ≤ g3) (v : Value) : WMoved w (w3.setCell ⟨b, 0, none⟩ v) b g g3 := by
  refine h.trans (g2 := g3) ⟨hgr.os, hgr.tape, hgr.output, ?_, hl, fun k hk h1 h2 => ?_⟩
  · have := hgr.size
    simpa [World.setCell] using this
  · rw [set_other 0 v h1]
    exact hgr.block k hk (by simp; exact h2)

theorem infoB : (Tryd.prog.info? 5).map (fun i => (i.zero, i.size, i.bytes)) = some (some (.int .u8 0), 1, 1) := by kernel_rfl

set_option maxHeartbeats 2000000 in
set_option maxRecDepth 100000 in
theorem number_any (B b g : Nat) (l : List UInt8) (n : Nat) (w : World) (hW : WG w B b g l) (hn : n ≤ 9223372036854775807) (hl : l.length ≤ 1099511627776) :
    Calls Tryd.prog 33 #[.pointer (some ⟨b, 0, none⟩), .int .i64 (n : Int)] w fun e w' => e = .returned (.tuple #[]) ∧ ∃ g', WG w' B b g' (l ++ num n) ∧ WMoved w w' b g g' := by
  go_enter Tryd.func33, Tryd.ntmps33
  go_wp2
  go_loopw [4] (fun uu wr => ∃ (u f : Nat) (l' : List UInt8) (g' : Nat), uu = .int .u64 (u : Int) ∧ u ≤ 9223372036854775807 ∧ Hid (u < 128 ^ (f + 1)) ∧ Hid (l' ++ numF f u = l ++ num n) ∧ l'.length + f ≤ l.length + 10 ∧ WG wr B b g' l' ∧ WMoved w wr b g g') (fun uu _ => (intOf uu).toNat)
  case atStart => exact ⟨n, 10, l, g, by simp, hn, Lib.hid (by omega), Lib.hid rfl, Nat.le_refl _, hW, WMoved.refl _ _ _⟩
  case round =>
    obtain ⟨u, f, l', g', rfl, hu, huf, hnf, hl', hWr, hM⟩ := hrel
    obtain ⟨hBb, hBg, hgb, cap, hv, hown⟩ := hWr
    have HM := Lib.hid hM
    clear hM
    have hc := cell_at hv 0
    have hbl : b < wr.heap.size := (Array.getElem?_eq_some_iff.1 hv).1
    have hBr : B ≤ wr.heap.size := by omega
    have HV := Lib.hid hv
    clear hW hv
    by_cases hlt : u < 128
    · have hnum : Hid (l' ++ [UInt8.ofNat u] = l ++ num n) := Lib.hid (by
        rw [← hnf.out]
        cases f with
        | zero => rfl
        | succ f => rw [numF, if_pos hlt])
      have e1 : ((UInt8.ofNat u).toNat : Int) = (u : Int) := by
        have : (UInt8.ofNat u).toNat = u := by simp; omega
        rw [this]
      have E1 := Lib.hid e1
      clear e1 hnf huf
      go_wp2_with (at_builtin; go_loud (refine wpList_append1 rfl _ _ 32 rfl B 5 (.int .u8 0) 1 Tryd.underlying32 infoB rfl _ _ _ rfl hown wr.heap.size rfl _ rfl rfl ?e1 ?e2 ?e3 ?_))
      case e1 => unfold maxLen; omega
      case e2 => omega
      case e3 => exact hBr
      intro g3 cp w3 hown3 hgr hBg3 hloc
      rw [← E1.out, bcells_app] at hown3
      have hv3 : w3.heap[b]? = some (.cells #[.slice (some ⟨g', 0, none⟩) l'.length cap] 67 (0, 0)) := (hgr.block b hbl (by simp [Value.ownBlock]; omega)).trans HV.out
      have hl3 : g3 = g' ∨ wr.heap.size ≤ g3 := by
        rcases hloc with h | h
        · left; simpa [Value.ownBlock] using h.symm
        · exact Or.inr h
      have c0 := cell_at hv3 0
      have q0 := free_at hv3 0
      have HW3 : Hid (WG (w3.setCell ⟨b, 0, none⟩ (.slice (some ⟨g3, 0, none⟩) (l'.length + 1) cp)) B b g3 (l' ++ [UInt8.ofNat u])) := Lib.hid (by
        have e : (l' ++ [UInt8.ofNat u]).length = l'.length + 1 := by simp
        rw [← e]
        exact WG.set hBb hBg3 hv3 (by rw [e]; exact hown3))
      have hbs := Lib.hid (HM.out.step hgr hl3 (.slice (some ⟨g3, 0, none⟩) (l'.length + 1) cp))
      clear hown hown3 hgr hv3 hl3 hloc hc E1
      go_wp2
      go_end0
      exact ⟨rfl, g3, by rw [← hnum.out]; exact HW3.out, hbs.out⟩
    · have hf1 : 1 ≤ f := by
        rcases Nat.eq_zero_or_pos f with h | h
        · have := huf.out; rw [h] at this; simp at this; omega
        · exact h
      obtain ⟨f', rfl⟩ : ∃ f', f = f' + 1 := ⟨f - 1, by omega⟩
      have hbyte : Hid (bits BinOp.or IntKind.u8 ((u : Int) % 256) 128 = ((UInt8.ofNat (u % 128 + 128)).toNat : Int)) := Lib.hid (by
        have h := u8_or_nat (u % 256) 128 (Nat.mod_lt _ (by decide)) (by decide)
        have h2 := or128 ⟨u % 256, Nat.mod_lt _ (by decide)⟩
        simp only at h2
        rw [h2] at h
        have e1 : ((u : Int) % 256) = ((u % 256 : Nat) : Int) := by omega
        have e2 : (UInt8.ofNat (u % 128 + 128)).toNat = u % 128 + 128 := by simp; omega
        rw [e1, e2]
        have e3 : u % 256 % 128 = u % 128 := by omega
        rw [e3] at h
        exact h)
      have hnum : Hid ((l' ++ [UInt8.ofNat (u % 128 + 128)]) ++ numF f' (u / 128) = l ++ num n) := Lib.hid (by
        rw [← hnf.out]
        conv => rhs; rw [numF, if_neg hlt]
        simp)
      have huf2 : Hid (u / 128 < 128 ^ (f' + 1)) := Lib.hid (by
        have := huf.out
        rw [Nat.pow_succ] at this
        exact Nat.div_lt_of_lt_mul (by omega))
      go_wp2_with (at_builtin; go_loud (refine wpList_append1 rfl _ _ 32 rfl B 5 (.int .u8 0) 1 Tryd.underlying32 infoB rfl _ _ _ rfl hown wr.heap.size rfl _ rfl rfl ?c1 ?c2 ?c3 ?_))
      case c1 => unfold maxLen; omega
      case c2 => omega
      case c3 => exact hBr
      intro g3 cp w3 hown3 hgr hBg3 hloc
      rw [hbyte.out, bcells_app] at hown3
      have hv3 : w3.heap[b]? = some (.cells #[.slice (some ⟨g', 0, none⟩) l'.length cap] 67 (0, 0)) := (hgr.block b hbl (by simp [Value.ownBlock]; omega)).trans HV.out
      have hl3 : g3 = g' ∨ wr.heap.size ≤ g3 := by
        rcases hloc with h | h
        · left; simpa [Value.ownBlock] using h.symm
        · exact Or.inr h
      have c0 := cell_at hv3 0
      have q0 := free_at hv3 0
      have HW3 : Hid (WG (w3.setCell ⟨b, 0, none⟩ (.slice (some ⟨g3, 0, none⟩) (l'.length + 1) cp)) B b g3 (l' ++ [UInt8.ofNat (u % 128 + 128)])) := Lib.hid (by
        have e : (l' ++ [UInt8.ofNat (u % 128 + 128)]).length = l'.length + 1 := by simp
        rw [← e]
        exact WG.set hBb hBg3 hv3 (by rw [e]; exact hown3))
      have hbs := Lib.hid (HM.out.step hgr hl3 (.slice (some ⟨g3, 0, none⟩) (l'.length + 1) cp))
      clear hown hown3 hgr hv3 hl3 hloc hc hnf huf
      go_wp2
      go_roundw
      case rel => exact ⟨u / 128, f', l' ++ [UInt8.ofNat (u % 128 + 128)], g3, by simp, by omega, huf2, hnum, by simp; omega, HW3.out, hbs.out⟩
      case measure => simp [intOf]; omega

/-- An int as a number. -/
def sgn (n : Int) : Nat := if n < 0 then (-2 * n - 1).toNat else (2 * n).toNat

set_option maxHeartbeats 1000000 in
set_option maxRecDepth 100000 in
theorem wint_any (B b g : Nat) (l : List UInt8) (n : Int) (w : World) (hW : WG w B b g l) (hn : -1073741824 ≤ n ∧ n ≤ 1073741824) (hl : l.length ≤ 1099511627776) :
    Calls Tryd.prog 34 #[.pointer (some ⟨b, 0, none⟩), .int .i64 n] w fun e w' => e = .returned (.tuple #[]) ∧ ∃ g', WG w' B b g' (l ++ num (sgn n)) ∧ WMoved w w' b g g' := by
  by_cases h : n < 0
  · obtain ⟨u, hu⟩ : ∃ u : Nat, (u : Int) = -2 * n - 1 := ⟨(-2 * n - 1).toNat, by omega⟩
    have hs : sgn n = u := by unfold sgn; rw [if_pos h]; omega
    have hnu := number_any B b g l u w hW (by omega) hl
    rw [hu] at hnu
    rw [hs]
    clear hu hs
    go_enter Tryd.func34, Tryd.ntmps34
    go_wp2_with fail
    refine hnu.mono ?_
    rintro e w1 ⟨rfl, g1, hw1, hb1⟩
    go_wp2
    go_end0
    exact ⟨rfl, g1, hw1, hb1⟩
  · obtain ⟨u, hu⟩ : ∃ u : Nat, (u : Int) = 2 * n := ⟨(2 * n).toNat, by omega⟩
    have hs : sgn n = u := by unfold sgn; rw [if_neg h]; omega
    have hnu := number_any B b g l u w hW (by omega) hl
    rw [hu] at hnu
    rw [hs]
    clear hu hs
    go_enter Tryd.func34, Tryd.ntmps34
    go_wp2_with fail
    refine hnu.mono ?_
    rintro e w1 ⟨rfl, g1, hw1, hb1⟩
    go_wp2
    go_end0
    exact ⟨rfl, g1, hw1, hb1⟩

/-- Two functions, laid into a form. -/
theorem form_stored (w : World) (f g : Nat) : ∃ W2 W1 : World,
    (store ⟨w.heap.size, 0, none⟩ (.func (Fn.func f) #[] #[])).run Tryd.prog (w.alloc (.cells #[.nilFunc, .nilFunc] 74)) = .ok () W1 ∧
    (store ⟨w.heap.size, 1, none⟩ (.func (Fn.func g) #[] #[])).run Tryd.prog W1 = .ok () W2 ∧
    W2.heap[w.heap.size]? = some (.cells #[.func (Fn.func f) #[] #[], .func (Fn.func g) #[] #[]] 74 (0, 0)) ∧ Below w.heap.size w W2 := by
  have h0 : (w.alloc (.cells #[.nilFunc, .nilFunc] 74)).heap[w.heap.size]? = some (.cells #[.nilFunc, .nilFunc] 74 (0, 0)) := (MapKept.heap_alloc w _).1
  have hb0 : Below w.heap.size w (w.alloc (.cells #[.nilFunc, .nilFunc] 74)) := (Below.refl _ w).alloc (Nat.le_refl _) _
  generalize w.alloc (.cells #[.nilFunc, .nilFunc] 74) = W0 at *
  have h1 := set_block h0 0 (.func (Fn.func f) #[] #[])
  refine ⟨_, W0.setCell ⟨w.heap.size, 0, none⟩ (.func (Fn.func f) #[] #[]), ?_, ?_, set_block h1 1 (.func (Fn.func g) #[] #[]), (hb0.setCell (p := ⟨w.heap.size, 0, none⟩) (Nat.le_refl _) _).setCell (p := ⟨w.heap.size, 1, none⟩) (Nat.le_refl _) _⟩
  · rw [run_store Tryd.prog W0 _ _ _ rfl, cell_at h0 0]
    simp [free_at h0 0]
  · rw [run_store Tryd.prog _ _ _ _ rfl, cell_at h1 1]
    simp [free_at h1 1]

def formF (c : Nat) : Nat := if c = 110 then 34 else 33
def formG (c : Nat) : Nat := if c = 110 then 67 else 68

set_option maxHeartbeats 1000000 in
set_option maxRecDepth 100000 in
theorem form_any (c : Nat) (w : World) : Calls Tryd.prog 35 #[.int .u8 (c : Int)] w fun e w' => e = .returned (.agg #[.func (Fn.func (formF c)) #[] #[], .func (Fn.func (formG c)) #[] #[]]) ∧ Below w.heap.size w w' := by
  by_cases h : c = 110
  · subst h
    obtain ⟨W2, W1, h1, h2, h3, h4⟩ := form_stored w 34 67
    have H3 := Lib.hid h3
    clear h3
    go_enter Tryd.func35, Tryd.ntmps35
    go_wp2
    refine bodyPost_ret_by (results_cell_row (p := 2) (ty := 74) (by kernel_rfl) _ _ w.heap.size 74 _ (0, 0) _ rfl H3.out Tryd.underlying74 rfl (by kernel_rfl)) rfl ?_
    exact ⟨rfl, h4⟩
  · obtain ⟨W2, W1, h1, h2, h3, h4⟩ := form_stored w 33 68
    have H3 := Lib.hid h3
    have e1 : (((c : Int) == 110) = false) := by rw [beq_eq_false_iff_ne]; omega
    have hf : Hid (formF c = 33 ∧ formG c = 68) := Lib.hid ⟨if_neg h, if_neg h⟩
    clear h3 h
    go_enter Tryd.func35, Tryd.ntmps35
    go_wp2
    refine bodyPost_ret_by (results_cell_row (p := 2) (ty := 74) (by kernel_rfl) _ _ w.heap.size 74 _ (0, 0) _ rfl H3.out Tryd.underlying74 rfl (by kernel_rfl)) rfl ?_
    exact ⟨by rw [hf.out.1, hf.out.2], h4⟩
end Go.Proofs.YtfjiikadnlhekaaDoor
