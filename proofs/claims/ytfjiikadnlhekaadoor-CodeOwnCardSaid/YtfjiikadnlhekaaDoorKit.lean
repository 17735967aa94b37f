/-
  What is proved here: the frame of this seat's rows: how arguments are opened, what a law's end gives, a world that holds the listed tables. Conditions: none beyond each lemma's own.
-/
import Derived.Test.YtfjiikadnlhekaaDoorCards
import Derived.Test.YtfjiikadnlhekaaDoorTie
import Derived.Test.YtfjiikadnlhekaaDoorBase
import Derived.Test.YtfjiikadnlhekaaDoorList1
import Derived.OpenShut
import Derived.Deep.DeepHandedRow
import Derived.Lib.LaidTab
import Derived.Stop.LaidErr
namespace Go.Proofs.YtfjiikadnlhekaaDoor
open Go.RowKit Go.ChangeShapes Go.WideShapes Go.ChangeAt

theorem own : ownKnob Tryd.prog.godebug = none := by kernel_rfl
theorem cells5 : Tryd.prog.cellsOf 5 = 1 := by kernel_rfl
theorem cells3 : Tryd.prog.cellsOf 3 = 1 := by kernel_rfl
theorem laidOut : laidOutB Tryd.prog = true := by kernel_rfl

/-- Arguments that nothing has written read as they did. -/
theorem args_stay {H : Type} {enc : TypeId × Value → H} {W W' : World} (hb : Below W.heap.size W W') :
    ∀ (ts : List TypeId) (vs : List Value) (ds : List (DataW H)) (ps : List MemPlace), (∀ t ∈ ts, Tryd.prog.readableRec t = true ∧ t < Tryd.prog.types.size) →
      DataW.TrodAll enc Tryd.prog W 0 (fun _ => true) true ts vs ds ps → (∀ x ∈ ps, x.block < W.heap.size) → DataW.TrodAll enc Tryd.prog W' 0 (fun b => decide (b < W.heap.size)) true ts vs ds ps
  | [], vs, ds, ps, _, h, _ => by
    obtain ⟨rfl, rfl, rfl⟩ := trodAll_nil h
    exact trodAll_mk0
  | t :: ts, vs, ds, ps, hr, h, hlt => by
    obtain ⟨v, vs', d, ds', p, q, rfl, rfl, rfl, h1, h2⟩ := trodAll_cons h
    exact trodAll_cons_mk (Below.trod laidOut (hr t (by simp)).1 (hr t (by simp)).2 h1 hb (fun x hx => hlt x (by simp [hx])))
      (args_stay hb ts vs' ds' q (fun t ht => hr t (by simp [ht])) h2 (fun x hx => hlt x (by simp [hx])))

/-- A law's end: it has answered true and only made memory. -/
theorem law_done {H : Type} {enc : TypeId × Value → H} {f : Func} {s : ChangeSpec} {W W' : World} {args : Array Value} {ds gs : List (DataW H)} {before : List MemPlace}
    (hr : ∀ t ∈ f.params.toList, Tryd.prog.readableRec t = true ∧ t < Tryd.prog.types.size) (hres : f.resultTypes = #[4]) (hvars : s.vars = [])
    (hfn : ∀ gs : List (DataW H), gs = [] → s.fn H (ds ++ gs) = { results := [.lit (.bool true)], args := ds })
    (hW : DataW.Whole enc Tryd.prog f.params.toList s.vars false W args.toList ds gs before) (hb : Below W.heap.size W W') :
    s.post enc Tryd.prog f false true false false W args (.bool true) W' := by
  have hW' := hW
  obtain ⟨p, q, hA, hV, rfl, hfz, hnd⟩ := hW
  rw [hvars] at hV
  obtain ⟨rfl, rfl⟩ := trodVars_none hV
  have e := hfn [] rfl
  refine ⟨ds, [], p ++ [], [], p, [], hW', ?_, ?_, ?_, hb.frame _, fun h => by cases h⟩
  · rw [e, hres]
    exact trodAll_cons_mk (shut_bool Tryd.underlying4 _) trodAll_mk0
  · rw [e]
    exact args_stay hb _ _ _ _ hr hA (fun x hx => by simpa using hW'.lt x (by simp [hx]))
  · rw [e, hvars]
    rfl

set_option maxRecDepth 100000 in
/-- Where a slice that came in points at is a block of the world's. -/
theorem slice_block {W : World} {base : Nat} {t e : TypeId} {ao : Option Addr} {len cap : Nat} (ht : Tryd.prog.underlying t = some (.slice e)) (hv : Cell.okWide Tryd.prog W .any base t (.slice ao len cap)) :
    ∀ a, ao = some a → a.block < W.heap.size := by
  rintro a rfl
  simp only [Cell.okWide, ht, Cell.ok] at hv
  obtain ⟨_, _, _, _, row, cells, hs, _⟩ := hv
  rcases Nat.lt_or_ge a.block W.heap.size with h1 | h1
  · exact h1
  · unfold World.shape? at hs
    rw [Array.getElem?_eq_none h1] at hs
    cases hs

set_option maxRecDepth 100000 in
/-- A slice of bytes that came in. -/
theorem open_bytes {H : Type} {enc : TypeId × Value → H} {W : World} {base : Nat} {v : Value} {d : DataW H} {ps : List MemPlace} (hv : Value.okWide Tryd.prog W .any base 32 v)
    (h : DataW.Trod enc Tryd.prog W 0 (fun _ => true) true 32 v d ps) :
    ∃ ao cap bs, v = .slice ao (List.length bs) cap ∧ Lies W ao (bcells bs) ∧ (∀ a, ao = some a → a.block < W.heap.size) := by
  obtain ⟨a0, len, cap, rfl⟩ := okWide_slice Tryd.underlying32 hv
  have hbl := slice_block (ao := a0) (len := len) (cap := cap) Tryd.underlying32 (by simpa [Value.okWide, Tryd.underlying32] using hv)
  obtain ⟨fuel, hf⟩ := h
  rcases open_ints Tryd.underlying32 Tryd.underlying5 cells5 hf with ⟨hcs, hx⟩ | ⟨a, len', cap', zs, hcs, _, hl, hm, hz, hx, hcell, hwz⟩
  · simp [Value.cells] at hcs
    obtain ⟨rfl, rfl, rfl⟩ := hcs
    exact ⟨none, 0, [], rfl, fun i c hc => by simp [bcells] at hc, hbl⟩
  · simp [Value.cells] at hcs
    obtain ⟨rfl, rfl, rfl⟩ := hcs
    simp only [if_true] at hz
    have hlen : ((zs.take len).map fun n => UInt8.ofNat n.toNat).length = len := by simp; omega
    refine ⟨some a, cap, (zs.take len).map fun n => UInt8.ofNat n.toNat, by rw [hlen], fun i c hc => ?_, hbl⟩
    have hi : i < len := by
      rcases Nat.lt_or_ge i len with h1 | h1
      · exact h1
      · rw [List.getElem?_eq_none (by simp [bcells]; omega)] at hc; cases hc
    have hiz : i < zs.length := by omega
    have hw := hwz (zs[i]) (List.getElem_mem hiz)
    have hbd : 0 ≤ zs[i] ∧ zs[i] ≤ 255 := by simpa [Lit.wf, IntKind.min, IntKind.max, IntKind.signed, IntKind.bits] using hw
    refine ⟨a, rfl, ?_⟩
    rw [hcell i hiz]
    unfold bcells at hc
    rw [List.getElem?_map, List.getElem?_map, List.getElem?_take, if_pos hi, List.getElem?_eq_getElem hiz] at hc
    simp only [Option.map_some, Option.some.injEq] at hc
    subst hc
    simp only [List.getD_eq_getElem?_getD, List.getElem?_eq_getElem hiz, Option.getD_some]
    congr 2
    rw [UInt8.toNat_ofNat_of_lt' (by show zs[i].toNat < 256; omega)]
    omega

theorem gPow : Tryd.prog.globalNamed "internal/strconv.uint64pow10" = some 0 := by kernel_rfl
theorem gPowType : (Tryd.prog.globals[0]?).map (·.type) = some 143 := by kernel_rfl
/-- The row's premise gives the table of powers of ten. -/
theorem tab_of_laid {W : World} (h : laidMetH Tryd.prog Rows.codeOtherRow.laid W) : Tab W := by
  have h1 : laidMet Tryd.prog Rows.codeOtherRow.laid W := h
  exact Lib.tabIs_of_head gPow gPowType Tryd.underlying143 Tryd.underlying89 (by kernel_rfl) (by kernel_rfl) h1.tail.tail

def relay (cs : Array Value) : Obj → Obj
  | .cells _ t frozen => .cells cs t frozen
  | o => o
def deb32Z : List Nat := [0, 1, 28, 2, 29, 14, 24, 3, 30, 22, 20, 15, 25, 17, 4, 8, 31, 27, 13, 23, 21, 19, 16, 7, 26, 12, 18, 6, 11, 5, 10, 9]
def deb64Z : List Nat := [0, 1, 56, 2, 57, 49, 28, 3, 61, 58, 42, 50, 38, 29, 17, 4, 62, 47, 59, 36, 45, 43, 51, 22, 53, 39, 33, 30, 24, 18, 12, 5, 63, 55, 48, 27, 60, 41, 37, 16, 46, 35, 44, 21, 52, 32, 23, 11, 54, 26, 40, 15, 34, 20, 31, 10, 25, 14, 19, 9, 13, 8, 7, 6]

/-- A world for the witnesses: the settled one, the listed tables holding what they start as. -/
noncomputable def laidWorld (os : Os) : World :=
  { World.holding Tryd.prog os ⟨#[], #[], []⟩ with heap := (((World.holding Tryd.prog os ⟨#[], #[], []⟩).heap.modify 0 (relay (Lib.pow10Tab.map fun n : Int => Value.int .u64 n).toArray)).modify 1 (relay (deb32Z.map fun n : Nat => Value.int .u8 (n : Int)).toArray)).modify 2 (relay (deb64Z.map fun n : Nat => Value.int .u8 (n : Int)).toArray) }
end Go.Proofs.YtfjiikadnlhekaaDoor
