/-
  What is proved here: how long a program's form is; how bytes are appended to the call's own. Conditions: none beyond each lemma's own.
-/
import Derived.Test.YtfjiikadnlhekaaDoorKnown
import Derived.Test.YtfjiikadnlhekaaDoorPlain2
import Derived.Test.YtfjiikadnlhekaaDoorNum
namespace Go.Proofs.YtfjiikadnlhekaaDoor
open Go.RowKit

theorem flat_short {α : Type} (f : α → List UInt8) (k : Nat) (h : ∀ x, (f x).length ≤ k) : ∀ l : List α, (l.flatMap f).length ≤ l.length * k
  | [] => by simp
  | x :: l => by
    have := flat_short f k h l
    have := h x
    simp only [List.flatMap_cons, List.length_append, List.length_cons, Nat.add_mul]
    omega
theorem var_short (v : Var3) : (encVar v).length ≤ 33 := by
  unfold encVar
  have h1 := num_short (sgn v.1)
  have h2 := num_short (sgn v.2.1)
  have h3 := num_short (sgn v.2.2)
  simp only [List.length_append]
  omega
theorem ins_short (x : Ins5) : (encIns x).length ≤ 55 := by
  unfold encIns
  have h1 := num_short x.1.toNat
  have h2 := flat_short encOpnd 11 opnd_short ((kindsOf x.1).zip (opnds x))
  have h3 : ((kindsOf x.1).zip (opnds x)).length ≤ 4 := by rw [List.length_zip]; have := kinds_short x.1; omega
  simp only [List.length_append]
  omega
theorem enc_short (P : Prg) (h : checkErr P = 0) : (encB P).length ≤ 67108864 ∧ 1 ≤ (encB P).length := by
  obtain ⟨l1, l2, l3, l4, l5⟩ := (ok_of P h).lens
  unfold encB
  have h1 := num_short P.ghost.length
  have h2 := num_short P.vars.length
  have h3 := num_short P.tags.length
  have h4 := num_short (P.miss + 1).toNat
  have h5 := num_short P.code.length
  have h6 := flat_short encVar 33 var_short P.vars
  have h7 := flat_short (fun t : Int => num t.toNat) 11 (fun t => num_short _) P.tags
  have h8 := flat_short (fun t : Int => num (t + 1).toNat) 11 (fun t => num_short _) P.on
  have h9 := flat_short encIns 55 ins_short P.code
  simp only [List.length_append, List.length_map, List.length_cons, List.length_nil]
  omega
theorem bcells_two (a b : List UInt8) : bcells a ++ bcells b = bcells (a ++ b) := by simp [bcells]
theorem bcells_len (a : List UInt8) : (bcells a).length = a.length := by simp [bcells]

/-- The law on 'append(v, x...)', v the call's own and not nil, bytes. -/
theorem wpList_bytes {w : World} {ops : Array Oper} {rest : List Oper} {o : Oper} {a : Act} {Q : Exit → Act → World → Prop} (hgd : o.guard = none) (s x : Operand)
    (ho : o.op = .call { callee := .builtin .append, args := #[s, x], argTypes := #[32, 32] })
    (base : Nat) (i : TypeInfo) (hi : Tryd.prog.info? 5 = some i) (hz : i.zero = some (.int .u8 0)) (hsize : i.size = 1) (hby : i.bytes = 1)
    (g0 n c0 : Nat) (xs bs : List UInt8) (hs : a.eval s = .slice (some ⟨g0, 0, none⟩) n c0) (hown : w.ownsRow base 5 1 (.slice (some ⟨g0, 0, none⟩) n c0) n (bcells xs))
    (ao : Option Addr) (ad : Addr) (hao : ao = some ad) (m c : Nat) (hm : m = bs.length) (hx : a.eval x = .slice ao m c) (hL : Lies w ao (bcells bs)) (h63 : n + m ≤ 1099511627776) (hbase : base ≤ w.heap.size)
    (h : ∀ g cap w', w'.ownsRow base 5 1 (.slice (some ⟨g, 0, none⟩) (n + m) cap) (n + m) (bcells (xs ++ bs)) → Below base w w' → g < w'.heap.size → wpList Tryd.prog ops Q rest (a.put o.dst (.slice (some ⟨g, 0, none⟩) (n + m) cap)) w') :
    wpList Tryd.prog ops Q (o :: rest) a w := by
  subst hao
  subst hm
  have hg0 : base ≤ g0 := by
    rcases hown.2 with ⟨h1, _⟩ | ⟨g, cap, cur, h1, h2, _⟩
    · cases h1
    · cases h1; exact h2
  refine wpList_append_own_at _ hgd s x 32 ho base 5 i (.int .u8 0) 1 1 Tryd.underlying32 hi hz hsize hby rfl (by omega) _ n (bcells xs) hs hown ad bs.length c (bcells bs) hx (by simp [bcells]) (fun j u hu => ?_) (bcells_one bs) (by unfold maxLen; omega) (by omega) hbase ?_
  · obtain ⟨a', ha', hc⟩ := hL j u hu
    cases ha'
    exact hc
  · intro v' w' hown' hgrow hnil _
    rw [bcells_two] at hown'
    rcases hown'.2 with ⟨h1, _⟩ | ⟨g, cap, cur, rfl, h2, h3, _⟩
    · have := hnil.1 h1
      cases this.1
    · exact h g cap w' hown' ⟨hgrow.os, hgrow.tape, hgrow.output, hgrow.size, fun k hk => hgrow.block k (by omega) (by simp [Value.ownBlock]; omega)⟩ (Array.getElem?_eq_some_iff.1 h3).1
/-- A slice literal without elements is the call's own. -/
theorem own_empty (w : World) : (w.alloc (.cells #[] 5)).ownsRow w.heap.size 5 1 (.slice (some ⟨w.heap.size, 0, none⟩) 0 0) 0 (bcells []) :=
  ⟨rfl, Or.inr ⟨_, 0, #[], rfl, Nat.le_refl _, (MapKept.heap_alloc w (.cells #[] 5)).1, Nat.le_refl _, Nat.zero_le _, rfl, rfl⟩⟩
end Go.Proofs.YtfjiikadnlhekaaDoor
