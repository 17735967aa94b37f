/-
  What is proved here: the frame of the walk of a reader's program: what a half built program is, how each step keeps it; the spec cut into its phases. Conditions: none beyond each lemma's own.
-/
import Derived.Test.YtfjiikadnlhekaaDoorEnc
import Derived.Deep.RegionHeld3
import Derived.Deep.AppendLies
namespace Go.Proofs.YtfjiikadnlhekaaDoor
open Go.RowKit

/-! The spec in its phases. -/
def kCode (N : Nat) (gs : List Bool) (vs : List Var3) (ts os : List Int) (m : Int) : Rd Prg := andThen (rMany N 262144) fun c => andThen (rReps (rIns N) c []) fun is => told ⟨gs, vs, ts, os, m, is⟩
def kMiss (N : Nat) (gs : List Bool) (vs : List Var3) (ts os : List Int) : Rd Prg := andThen (rOn N) fun m => kCode N gs vs ts os m
def kOn (N : Nat) (gs : List Bool) (vs : List Var3) (ts : List Int) : Rd Prg := andThen (rReps (rOn N) gs.length []) fun os => kMiss N gs vs ts os
def kTags (N : Nat) (gs : List Bool) (vs : List Var3) : Rd Prg := andThen (rMany N 4) fun t => andThen (rReps (rTag N) t []) fun ts => kOn N gs vs ts
def kVars (N : Nat) (gs : List Bool) : Rd Prg := andThen (rMany N 16) fun v => andThen (rReps (rVar N) v []) fun vs => kTags N gs vs
def kGhost (N : Nat) : Rd Prg := andThen (rMany N 16) fun q => andThen (rReps (rFlag N) q []) fun gs => kVars N gs
theorem rBody_eq (N : Nat) : rBody N = andThen (rByte N) fun c => if c.toNat ≠ 87 then flaw 83 0 else kGhost N := rfl

theorem andThen_two {α β γ : Type} {m : Rd α} {g : α → Rd γ} {f : γ → Rd β} {r r' : List UInt8} {a : α} (h : m r = .ok (a, r')) : andThen (andThen m g) f r = andThen (g a) f r' := by simp only [andThen, h]
theorem andThen_two_err {α β γ : Type} {m : Rd α} {g : α → Rd γ} {f : γ → Rd β} {r : List UInt8} {e : Nat × Nat} (h : m r = .error e) : andThen (andThen m g) f r = .error e := by simp only [andThen, h]
theorem reps_step {α β : Type} {m : Rd α} {n : Nat} {l : List α} {f : List α → Rd β} {r r' : List UInt8} {a : α} (h : m r = .ok (a, r')) : andThen (rReps m (n + 1) l) f r = andThen (rReps m n (l ++ [a])) f r' := by
  exact andThen_two h
theorem reps_err {α β : Type} {m : Rd α} {n : Nat} {l : List α} {f : List α → Rd β} {r : List UInt8} {e : Nat × Nat} (h : m r = .error e) : andThen (rReps m (n + 1) l) f r = .error e := by
  exact andThen_two_err h
theorem reps_zero {α β : Type} {m : Rd α} {l : List α} {f : List α → Rd β} {r : List UInt8} : andThen (rReps m 0 l) f r = f l r := rfl
theorem placed_at {α : Type} {N k : Nat} {bs : List UInt8} (f : Nat → Rd α) (hN : N = bs.length) (hk : k ≤ bs.length) : placed N f (bs.drop k) = f k (bs.drop k) := by
  unfold placed
  rw [List.length_drop, hN, show bs.length - (bs.length - k) = k by omega]
theorem opnds_step {β : Type} {N : Nat} {ks : List UInt8} {i : Nat} (hi : i < ks.length) {l : List Int} {f : List Int → Rd β} {r r' : List UInt8} {n : Int} (h : rOpnd N ks[i] r = .ok (n, r')) :
    andThen (rOpnds N (ks.drop i) l) f r = andThen (rOpnds N (ks.drop (i + 1)) (l ++ [n])) f r' := by
  rw [List.drop_eq_getElem_cons hi]
  exact andThen_two h
theorem opnds_err {β : Type} {N : Nat} {ks : List UInt8} {i : Nat} (hi : i < ks.length) {l : List Int} {f : List Int → Rd β} {r : List UInt8} {e : Nat × Nat} (h : rOpnd N ks[i] r = .error e) :
    andThen (rOpnds N (ks.drop i) l) f r = .error e := by
  rw [List.drop_eq_getElem_cons hi]
  exact andThen_two_err h

/-! Memory. -/
theorem RAt.stay {w w' : World} {b : Nat} {ao : Option Addr} {ca : Nat} {bs : List UInt8} {k : Nat} (h : RAt w b ao ca bs k) (hb : w'.heap[b]? = w.heap[b]?) (ha : ∀ a, ao = some a → bs ≠ [] → w'.heap[a.block]? = w.heap[a.block]?) : RAt w' b ao ca bs k := by
  obtain ⟨h1, h2, h3, h4, h5⟩ := h
  refine ⟨hb.trans h1, ?_, h3, h4, h5⟩
  by_cases he : bs = []
  · subst he
    intro i v hv
    simp [bcells] at hv
  · exact h2.kept fun a hao => ha a hao he

def zcells : Array Value := #[.slice none 0 0, .slice none 0 0, .slice none 0 0, .slice none 0 0, .int .i64 0, .slice none 0 0]

/-- A program half built: the reader has come to place k, the program's own variable holds cs. -/
structure Mid (w wr : World) (b : Nat) (ao : Option Addr) (ca : Nat) (bs : List UInt8) (k : Nat) (cs : Array Value) : Prop where
  grown : w.grownBy wr (some b)
  reader : RAt wr b ao ca bs k
  cells : wr.heap[w.heap.size + 1]? = some (.cells cs 27 (0, 0))
  zero : wr.heap[w.heap.size]? = some (.cells #[.slice none 0 0, .slice none 0 0, .slice none 0 0, .slice none 0 0, .int .i64 0, .slice none 0 0] 27 (0, 0))
  old : ∀ a, ao = some a → bs ≠ [] → a.block < w.heap.size
  blt : b < w.heap.size

variable {w wr w' : World} {b : Nat} {ao : Option Addr} {ca : Nat} {bs : List UInt8} {k : Nat} {cs : Array Value}

theorem Mid.lt (h : Mid w wr b ao ca bs k cs) : w.heap.size + 1 < wr.heap.size := (Array.getElem?_eq_some_iff.1 h.cells).1
theorem Mid.read (h : Mid w wr b ao ca bs k cs) {k' : Nat} (hg : wr.grownBy w' (some b)) (hR : RAt w' b ao ca bs k') : Mid w w' b ao ca bs k' cs := by
  have h1 := h.blt
  have h2 := h.lt
  exact ⟨h.grown.trans hg, hR, (hg.block _ h2 (by simp; omega)).trans h.cells, (hg.block _ (by omega) (by simp; omega)).trans h.zero, h.old, h1⟩
/-- Whatever turns blocks of the call's own, other than its two variables. -/
theorem Mid.turn (h : Mid w wr b ao ca bs k cs) {row : Option Nat} (hg : wr.grownBy w' row) (hr : ∀ j, row = some j → w.heap.size + 2 ≤ j) : Mid w w' b ao ca bs k cs := by
  have h1 := h.blt
  have h2 := h.lt
  have hne : ∀ j, j < w.heap.size + 2 → some j ≠ row := fun j hj e => by have := hr j e.symm; omega
  refine ⟨⟨hg.os.trans h.grown.os, hg.tape.trans h.grown.tape, hg.output.trans h.grown.output, Nat.le_trans h.grown.size hg.size, fun j hj hb => (hg.block j (by omega) (hne j (by omega))).trans (h.grown.block j hj hb)⟩,
    h.reader.stay (hg.block _ (by omega) (hne _ (by omega))) (fun a ha hb => hg.block _ (by have := h.old a ha hb; omega) (hne _ (by have := h.old a ha hb; omega))), (hg.block _ h2 (hne _ (by omega))).trans h.cells, (hg.block _ (by omega) (hne _ (by omega))).trans h.zero, h.old, h1⟩
theorem Mid.alloc (h : Mid w wr b ao ca bs k cs) (o : Obj) : Mid w (wr.alloc o) b ao ca bs k cs := h.turn (World.grownBy_alloc wr o none) (fun j hj => by cases hj)
theorem Mid.below (h : Mid w wr b ao ca bs k cs) (hb : Below wr.heap.size wr w') : Mid w w' b ao ca bs k cs := h.turn (row := none) ⟨hb.os, hb.tape, hb.output, hb.size, fun k hk _ => hb.block k hk⟩ (fun j hj => by cases hj)
theorem grown_set (w : World) (c i : Nat) (v : Value) : w.grownBy (w.setCell ⟨c, i, none⟩ v) (some c) := ⟨rfl, rfl, rfl, by simp [World.setCell], fun k _ hk => set_other i v (fun e => hk (by rw [e]))⟩
theorem Mid.other (h : Mid w wr b ao ca bs k cs) (c i : Nat) (v : Value) (hc : w.heap.size + 2 ≤ c) : Mid w (wr.setCell ⟨c, i, none⟩ v) b ao ca bs k cs := h.turn (grown_set wr c i v) (fun j hj => by have := Option.some.inj hj; omega)
/-- A store into the program's variable. -/
theorem Mid.store (h : Mid w wr b ao ca bs k cs) (i : Nat) (v : Value) : Mid w (wr.setCell ⟨w.heap.size + 1, i, none⟩ v) b ao ca bs k (cs.setIfInBounds i v) := by
  have h1 := h.blt
  have hg := grown_set wr (w.heap.size + 1) i v
  have h2 := h.lt
  refine ⟨⟨hg.os.trans h.grown.os, hg.tape.trans h.grown.tape, hg.output.trans h.grown.output, Nat.le_trans h.grown.size hg.size, fun j hj hb => (hg.block j (by omega) (by simp; omega)).trans (h.grown.block j hj hb)⟩,
    h.reader.stay (hg.block _ (by omega) (by simp; omega)) (fun a ha hb => hg.block _ (by have := h.old a ha hb; omega) (by have := h.old a ha hb; simp; omega)), set_block h.cells i v, (hg.block _ (by omega) (by simp)).trans h.zero, h.old, h1⟩

/-- Below L nothing but the reader and the program's variable has turned. -/
structure Chg (L b pb : Nat) (w w' : World) : Prop where
  size : w.heap.size ≤ w'.heap.size
  block : ∀ k, k < L → k ≠ b → k ≠ pb → w'.heap[k]? = w.heap[k]?
variable {L pb : Nat} {W : World}
theorem Chg.refl (L b pb : Nat) (w : World) : Chg L b pb w w := ⟨Nat.le_refl _, fun _ _ _ _ => rfl⟩
theorem Chg.read (h : Chg L b pb W wr) (hL : L ≤ W.heap.size) (hg : wr.grownBy w' (some b)) : Chg L b pb W w' :=
  ⟨Nat.le_trans h.size hg.size, fun k hk h1 h2 => (hg.block k (by have := h.size; omega) (by simp; exact h1)).trans (h.block k hk h1 h2)⟩
theorem Chg.turn (h : Chg L b pb W wr) (hL : L ≤ W.heap.size) {row : Option Nat} (hg : wr.grownBy w' row) (hr : ∀ j, row = some j → L ≤ j) : Chg L b pb W w' :=
  ⟨Nat.le_trans h.size hg.size, fun k hk h1 h2 => (hg.block k (by have := h.size; omega) (fun e => by have := hr k e.symm; omega)).trans (h.block k hk h1 h2)⟩
theorem Chg.alloc (h : Chg L b pb W wr) (hL : L ≤ W.heap.size) (o : Obj) : Chg L b pb W (wr.alloc o) := h.turn hL (World.grownBy_alloc wr o none) (fun j hj => by cases hj)
theorem Chg.below (h : Chg L b pb W wr) (hL : L ≤ W.heap.size) (hb : Below wr.heap.size wr w') : Chg L b pb W w' := h.turn hL (row := none) ⟨hb.os, hb.tape, hb.output, hb.size, fun k hk _ => hb.block k hk⟩ (fun j hj => by cases hj)
theorem Chg.store (h : Chg L b pb W wr) (i : Nat) (v : Value) : Chg L b pb W (wr.setCell ⟨pb, i, none⟩ v) :=
  ⟨by have := h.size; simpa [World.setCell] using this, fun k hk h1 h2 => (set_other i v h2).trans (h.block k hk h1 h2)⟩
theorem Chg.other (h : Chg L b pb W wr) (hL : L ≤ W.heap.size) (c i : Nat) (v : Value) (hc : L ≤ c) : Chg L b pb W (wr.setCell ⟨c, i, none⟩ v) := h.turn hL (grown_set wr c i v) (fun j hj => by have := Option.some.inj hj; omega)

/-- A list that is whole: it owns a row between two marks. -/
def OwnL (w : World) (B B' : Nat) (e : TypeId) (sz : Nat) (v : Value) (n : Nat) (xs : List Value) : Prop := w.ownsRow B e sz v n xs ∧ ∀ j, v.ownBlock = some j → j < B'
theorem own_keep {B : Nat} {e : TypeId} {sz : Nat} {v : Value} {n : Nat} {xs : List Value} (h : w.ownsRow B e sz v n xs) (hs : ∀ j, v.ownBlock = some j → w'.heap[j]? = w.heap[j]?) : w'.ownsRow B e sz v n xs := by
  refine ⟨h.1, ?_⟩
  rcases h.2 with hn | ⟨g, cap, cur, rfl, hb, hgg, rest⟩
  · exact .inl hn
  · exact .inr ⟨g, cap, cur, rfl, hb, (hs g rfl).trans hgg, rest⟩
theorem OwnL.chg {B B' : Nat} {e : TypeId} {sz : Nat} {v : Value} {n : Nat} {xs : List Value} (h : OwnL W B B' e sz v n xs) (hc : Chg L b pb W w') (hL : B' ≤ L) (hb : b < B) (hp : pb < B) : OwnL w' B B' e sz v n xs :=
  ⟨own_keep h.1 (fun j hj => hc.block j (by have := h.2 j hj; omega) (by have := h.1.lt j hj; omega) (by have := h.1.lt j hj; omega)), h.2⟩
theorem OwnL.stay {B B' : Nat} {e : TypeId} {sz : Nat} {v : Value} {n : Nat} {xs : List Value} (h : OwnL W B B' e sz v n xs) (hs : ∀ j, B ≤ j → w'.heap[j]? = W.heap[j]?) : OwnL w' B B' e sz v n xs :=
  ⟨own_keep h.1 (fun j hj => hs j (h.1.lt j hj).1), h.2⟩
/-- A program whose lists are the call's own, each in a row of its own. -/
def POwn (w : World) (B : Nat) (s : Spots) (P : Prg) : Prop := ∃ B1 B2 B3 B4 B5, B ≤ B1 ∧ B1 ≤ B2 ∧ B2 ≤ B3 ∧ B3 ≤ B4 ∧ B4 ≤ B5 ∧ B5 ≤ w.heap.size ∧
  OwnL w B B1 4 1 (.slice s.a0 P.ghost.length s.c0) P.ghost.length (bools P.ghost) ∧ OwnL w B1 B2 70 3 (.slice s.a1 P.vars.length s.c1) P.vars.length (flat var3 P.vars) ∧
  OwnL w B2 B3 3 1 (.slice s.a2 P.tags.length s.c2) P.tags.length (nums P.tags) ∧ OwnL w B3 B4 3 1 (.slice s.a3 P.on.length s.c3) P.on.length (nums P.on) ∧ OwnL w B4 B5 57 5 (.slice s.a4 P.code.length s.c4) P.code.length (flat ins5 P.code)
theorem own_len {B : Nat} {e : TypeId} {sz : Nat} {v : Value} {n : Nat} {xs : List Value} (h : w.ownsRow B e sz v n xs) : n ≤ 9223372036854775807 := by
  rcases h.2 with ⟨_, hn⟩ | ⟨g, cap, cur, _, _, _, h1, h2, _⟩
  · omega
  · unfold maxLen at h2; omega
theorem own_at {B : Nat} {e : TypeId} {sz : Nat} {o : Option Addr} {n cap : Nat} {xs : List Value} (h : w.ownsRow B e sz (.slice o n cap) n xs) : Lies w o xs ∧ (o = none → cap = 0) := by
  obtain ⟨o', c, h1, h2, h3, _⟩ := own_lies h
  cases h1
  exact ⟨h2, h3⟩
theorem POwn.at {B : Nat} {s : Spots} {P : Prg} (h : POwn w B s P) : PAt w s P := by
  obtain ⟨B1, B2, B3, B4, B5, _, _, _, _, _, _, h0, h1, h2, h3, h4⟩ := h
  exact ⟨(own_at h0.1).1, (own_at h1.1).1, (own_at h2.1).1, (own_at h3.1).1, (own_at h4.1).1, own_len h0.1, own_len h1.1, own_len h2.1, own_len h3.1, own_len h4.1, (own_at h0.1).2, (own_at h1.1).2, (own_at h2.1).2, (own_at h3.1).2, (own_at h4.1).2⟩

/-- What a reader's program leaves. -/
def ProgPost (w : World) (b : Nat) (G : Except (Nat × Nat) Prg) (e : Ending) (w' : World) : Prop :=
  (∃ P s, G = .ok P ∧ e = .returned (pval s P) ∧ POwn w' w.heap.size s P ∧ w.grownBy w' (some b)) ∨ (∃ c p, G = .error (c, p) ∧ e = .panicked [{ v := faultV c p, recovered := false }] ∧ w.grownBy w' (some b))
/-- What is told behind a program's bytes. -/
def shut (N : Nat) (G : Got Prg) : Except (Nat × Nat) Prg := match G with
  | .error e => .error e
  | .ok (P, r) => if r = [] then .ok P else .error (84, N - r.length)
theorem shut_err {N : Nat} {G : Got Prg} {c p : Nat} (h : G = .error (c, p)) : shut N G = .error (c, p) := by rw [h]; rfl

theorem rbyte_any (b : Nat) (ao : Option Addr) (ca : Nat) (bs : List UInt8) (k : Nat) (w : World) (hR : RAt w b ao ca bs k) :
    Calls Tryd.prog 74 #[.pointer (some ⟨b, 0, none⟩)] w (RPost (fun c : UInt8 => .int .u8 (c.toNat : Int)) (rByte bs.length (bs.drop k)) w b ao ca bs) := by
  by_cases h : k < bs.length
  · exact (byte_in b ao ca bs k h w hR).mono fun e w' ⟨he, hR', hg⟩ => Or.inl ⟨bs[k], k + 1, rByte_in _ _ _ h, he, hR', hg⟩
  · obtain rfl : k = bs.length := by have := hR.2.2.2.2; omega
    exact (byte_out b ao ca bs w hR).mono fun e w' ⟨he, hg⟩ => Or.inr ⟨81, bs.length, rByte_out _ _, he, hg.but _⟩

/-- The two variables at the beginning. -/
theorem mid_new (hR : RAt w b ao ca bs k) (hao : ∀ a, ao = some a → bs ≠ [] → a.block < w.heap.size) :
    Mid w ((w.alloc (.cells #[.slice none 0 0, .slice none 0 0, .slice none 0 0, .slice none 0 0, .int .i64 0, .slice none 0 0] 27)).alloc (.cells #[.slice none 0 0, .slice none 0 0, .slice none 0 0, .slice none 0 0, .int .i64 0, .slice none 0 0] 27)) b ao ca bs k #[.slice none 0 0, .slice none 0 0, .slice none 0 0, .slice none 0 0, .int .i64 0, .slice none 0 0] := by
  have hz : (w.alloc (.cells #[.slice none 0 0, .slice none 0 0, .slice none 0 0, .slice none 0 0, .int .i64 0, .slice none 0 0] 27)).heap.size = w.heap.size + 1 := by simp
  have h1 := (MapKept.heap_alloc w (.cells #[.slice none 0 0, .slice none 0 0, .slice none 0 0, .slice none 0 0, .int .i64 0, .slice none 0 0] 27)).1
  have h2 := (MapKept.heap_alloc (w.alloc (.cells #[.slice none 0 0, .slice none 0 0, .slice none 0 0, .slice none 0 0, .int .i64 0, .slice none 0 0] 27)) (.cells #[.slice none 0 0, .slice none 0 0, .slice none 0 0, .slice none 0 0, .int .i64 0, .slice none 0 0] 27)).1
  rw [hz] at h2
  have hg := (World.grownBy_alloc w (.cells #[.slice none 0 0, .slice none 0 0, .slice none 0 0, .slice none 0 0, .int .i64 0, .slice none 0 0] 27) (some b)).trans (World.grownBy_alloc _ (.cells #[.slice none 0 0, .slice none 0 0, .slice none 0 0, .slice none 0 0, .int .i64 0, .slice none 0 0] 27) (some b))
  have hb : Below w.heap.size w ((w.alloc (.cells #[.slice none 0 0, .slice none 0 0, .slice none 0 0, .slice none 0 0, .int .i64 0, .slice none 0 0] 27)).alloc (.cells #[.slice none 0 0, .slice none 0 0, .slice none 0 0, .slice none 0 0, .int .i64 0, .slice none 0 0] 27)) := ((Below.refl _ w).alloc (Nat.le_refl _) _).alloc (by omega) _
  have hbl := (Array.getElem?_eq_some_iff.1 hR.1).1
  exact ⟨hg, hR.stay (hb.block _ hbl) (fun a ha he => hb.block _ (hao a ha he)), h2, (Below.heap_alloc _ _ _ (by omega)).trans h1, hao, hbl⟩

theorem many_le {N most u : Nat} {r r' : List UInt8} (h0 : rMany N most r = .ok (u, r')) : u ≤ most := by
  have h : andThen (rNum N) (fun u => if most < u then flaw 85 (N - r.length) else told u) r = .ok (u, r') := h0
  cases hn : rNum N r with
  | error e => rw [andThen_err hn] at h; cases h
  | ok x =>
    obtain ⟨v, r1⟩ := x
    rw [andThen_ok hn] at h
    by_cases hm : most < v
    · rw [if_pos hm] at h; cases h
    · rw [if_neg hm] at h
      have := congrArg Prod.fst (Except.ok.inj h)
      simp only at this
      omega
theorem flag_err {N : Nat} {r : List UInt8} {e : Nat × Nat} (h : rByte N r = .error e) : rFlag N r = .error e := by unfold rFlag placed; exact andThen_err h
theorem flag_ok {N : Nat} {r r' : List UInt8} {c : UInt8} (h : rByte N r = .ok (c, r')) (hc : c.toNat ≤ 1) : rFlag N r = .ok (c.toNat == 1, r') := by
  show andThen (rByte N) (fun c => if 1 < c.toNat then flaw 82 (N - r.length) else told (c.toNat == 1)) r = _
  rw [andThen_ok h, if_neg (by omega)]; rfl
theorem flag_big {N k : Nat} {bs r' : List UInt8} {c : UInt8} (hN : N = bs.length) (hk : k ≤ bs.length) (h : rByte N (bs.drop k) = .ok (c, r')) (hc : 1 < c.toNat) : rFlag N (bs.drop k) = .error (82, k) := by
  unfold rFlag
  rw [placed_at _ hN hk, andThen_ok h, if_pos hc]; rfl

/-- Behind an append to one of the program's lists. -/
theorem push_mid (hM : Mid w wr b ao ca bs k cs) {B : Nat} {e : TypeId} {sz : Nat} {v : Value} {n : Nat} {xs : List Value} (hown : wr.ownsRow B e sz v n xs) (hB : w.heap.size + 2 ≤ B) (hgr : wr.grownBy w' v.ownBlock) : Mid w w' b ao ca bs k cs :=
  hM.turn hgr (fun j hj => by have := (hown.lt j hj).1; omega)
theorem push_own {B : Nat} {e : TypeId} {sz g cap n : Nat} {xs : List Value} (hown : w'.ownsRow B e sz (.slice (some ⟨g, 0, none⟩) n cap) n xs) (c i : Nat) (u : Value) (hc : c < B) : (w'.setCell ⟨c, i, none⟩ u).ownsRow B e sz (.slice (some ⟨g, 0, none⟩) n cap) n xs :=
  ownsRow_setCell_below hown hc u
theorem push_chg {B : Nat} {e : TypeId} {sz : Nat} {v : Value} {n : Nat} {xs : List Value} (hc : Chg L b pb W wr) (hL : L ≤ W.heap.size) (hown : wr.ownsRow B e sz v n xs) (hB : L ≤ B) (hgr : wr.grownBy w' v.ownBlock) (i : Nat) (u : Value) : Chg L b pb W (w'.setCell ⟨pb, i, none⟩ u) :=
  (hc.turn hL hgr (fun j hj => by have := (hown.lt j hj).1; omega)).store i u
theorem var_ok {N : Nat} {r r1 r2 r3 : List UInt8} {x y z : Int} (h1 : rInt N r = .ok (x, r1)) (h2 : rInt N r1 = .ok (y, r2)) (h3 : rInt N r2 = .ok (z, r3)) : rVar N r = .ok ((x, y, z), r3) := by
  unfold rVar
  rw [andThen_ok h1, andThen_ok h2, andThen_ok h3]; rfl
theorem var_err1 {N : Nat} {r : List UInt8} {e : Nat × Nat} (h1 : rInt N r = .error e) : rVar N r = .error e := andThen_err h1
theorem var_err2 {N : Nat} {r r1 : List UInt8} {x : Int} {e : Nat × Nat} (h1 : rInt N r = .ok (x, r1)) (h2 : rInt N r1 = .error e) : rVar N r = .error e := by
  unfold rVar
  rw [andThen_ok h1, andThen_err h2]
theorem var_err3 {N : Nat} {r r1 r2 : List UInt8} {x y : Int} {e : Nat × Nat} (h1 : rInt N r = .ok (x, r1)) (h2 : rInt N r1 = .ok (y, r2)) (h3 : rInt N r2 = .error e) : rVar N r = .error e := by
  unfold rVar
  rw [andThen_ok h1, andThen_ok h2, andThen_err h3]
/-- A list that grows: it is whole now. -/
theorem ownL_of {B : Nat} {e : TypeId} {sz : Nat} {v : Value} {n : Nat} {xs : List Value} (h : wr.ownsRow B e sz v n xs) (hg : wr.grownBy w' (some b)) (hb : b < B) : OwnL w' B w'.heap.size e sz v n xs :=
  ⟨own_keep h (fun j hj => hg.block j (h.lt j hj).2 (by have := (h.lt j hj).1; simp; omega)), fun j hj => by have := (h.lt j hj).2; have := hg.size; omega⟩
theorem own_form {B : Nat} {e : TypeId} {sz : Nat} {v : Value} {n : Nat} {xs : List Value} (h : wr.ownsRow B e sz v n xs) : ∃ o cap, v = .slice o n cap := by
  obtain ⟨o, c, h1, _⟩ := own_lies h
  exact ⟨o, c, h1⟩
theorem Mid.drew (h : Mid w wr b ao ca bs k cs) : Mid w wr.drew b ao ca bs k cs := h.turn (row := none) ⟨rfl, rfl, rfl, Nat.le_refl _, fun _ _ _ => rfl⟩ (fun j hj => by cases hj)
theorem Chg.drew (h : Chg L b pb W wr) : Chg L b pb W wr.drew := ⟨h.size, h.block⟩
theorem rnum_ok {b : Nat} {ao : Option Addr} {ca : Nat} {bs : List UInt8} {k u : Nat} {r' : List UInt8} {w : World} (hG : rNum bs.length (bs.drop k) = .ok (u, r')) (hR : RAt w b ao ca bs k) :
    Calls Tryd.prog 68 #[.pointer (some ⟨b, 0, none⟩)] w fun e w' => e = .returned (.int .i64 (u : Int)) ∧ ∃ k', r' = bs.drop k' ∧ RAt w' b ao ca bs k' ∧ w.grownBy w' (some b) := by
  refine (rnumber_any b ao ca bs k w hR).mono ?_
  rintro e w' (⟨u', k', hG', rfl, hR', hg'⟩ | ⟨c, p, hG', rfl, hg'⟩)
  · rw [hG] at hG'
    cases hG'
    exact ⟨rfl, k', rfl, hR', hg'⟩
  · rw [hG] at hG'; cases hG'
theorem rnum_err {b : Nat} {ao : Option Addr} {ca : Nat} {bs : List UInt8} {k c p : Nat} {w : World} (hG : rNum bs.length (bs.drop k) = .error (c, p)) (hR : RAt w b ao ca bs k) :
    Calls Tryd.prog 68 #[.pointer (some ⟨b, 0, none⟩)] w fun e w' => e = .panicked [{ v := faultV c p, recovered := false }] ∧ w.grownBy w' (some b) := by
  refine (rnumber_any b ao ca bs k w hR).mono ?_
  rintro e w' (⟨u', k', hG', rfl, hR', hg'⟩ | ⟨c, p, hG', rfl, hg'⟩)
  · rw [hG] at hG'; cases hG'
  · rw [hG] at hG'
    cases hG'
    exact ⟨rfl, hg'⟩
theorem own_mono {B B' : Nat} {e : TypeId} {sz : Nat} {v : Value} {n : Nat} {xs : List Value} (h : w.ownsRow B e sz v n xs) (hB : B' ≤ B) : w.ownsRow B' e sz v n xs := by
  refine ⟨h.1, ?_⟩
  rcases h.2 with hn | ⟨g, cap, cur, hv, hb, rest⟩
  · exact .inl hn
  · exact .inr ⟨g, cap, cur, hv, Nat.le_trans hB hb, rest⟩
theorem POwn.stay {B : Nat} {s : Spots} {P : Prg} (h : POwn w B s P) (hs : ∀ j, B ≤ j → w'.heap[j]? = w.heap[j]?) (hz : w.heap.size ≤ w'.heap.size) : POwn w' B s P := by
  obtain ⟨B1, B2, B3, B4, B5, h1, h2, h3, h4, h5, h6, f0, f1, f2, f3, f4⟩ := h
  exact ⟨B1, B2, B3, B4, B5, h1, h2, h3, h4, h5, Nat.le_trans h6 hz, f0.stay hs, f1.stay (fun j hj => hs j (by omega)), f2.stay (fun j hj => hs j (by omega)), f3.stay (fun j hj => hs j (by omega)), f4.stay (fun j hj => hs j (by omega))⟩
theorem POwn.mono {B B' : Nat} {s : Spots} {P : Prg} (h : POwn w B s P) (hB : B' ≤ B) : POwn w B' s P := by
  obtain ⟨B1, B2, B3, B4, B5, h1, h2, h3, h4, h5, h6, f0, f1, f2, f3, f4⟩ := h
  exact ⟨B1, B2, B3, B4, B5, by omega, h2, h3, h4, h5, h6, ⟨own_mono f0.1 hB, f0.2⟩, f1, f2, f3, f4⟩
theorem ins_err {N k : Nat} {bs : List UInt8} {e : Nat × Nat} (h : rNum N (bs.drop k) = .error e) : rIns N (bs.drop k) = .error e := by unfold rIns placed; exact andThen_err h
theorem ins_big {N k op : Nat} {bs r' : List UInt8} (hN : N = bs.length) (hk : k ≤ bs.length) (h : rNum N (bs.drop k) = .ok (op, r')) (ho : 42 ≤ op) : rIns N (bs.drop k) = .error (91, k) := by
  unfold rIns
  rw [placed_at _ hN hk, andThen_ok h, if_pos ho]; rfl
theorem ins_op {N k op : Nat} {bs r' : List UInt8} (hN : N = bs.length) (hk : k ≤ bs.length) (h : rNum N (bs.drop k) = .ok (op, r')) (ho : op < 42) :
    rIns N (bs.drop k) = andThen (rOpnds N (kindsOf (op : Int)) []) (fun l => told (insOf op l)) r' := by
  unfold rIns
  rw [placed_at _ hN hk, andThen_ok h, if_neg (by omega)]
/-- The cells of an instruction whose operands are being read. -/
theorem ins_set (op : Nat) (l : List Int) (n : Int) (h : l.length < 4) : (ins5 (insOf op l)).toArray.setIfInBounds (l.length + 1) (.int .i64 n) = (ins5 (insOf op (l ++ [n]))).toArray := by
  match l, h with
  | [], _ => rfl
  | [_], _ => rfl
  | [_, _], _ => rfl
  | [_, _, _], _ => rfl
theorem info4' : (Tryd.prog.info? 4).map (fun i => (i.zero, i.size, i.bytes)) = some (some (.bool false), 1, 1) := by kernel_rfl
end Go.Proofs.YtfjiikadnlhekaaDoor
