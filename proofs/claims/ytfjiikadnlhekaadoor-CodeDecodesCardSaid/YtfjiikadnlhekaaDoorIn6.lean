/-
  What is proved here: the reference's reader, whatever its state: a fault sticks ('Sticks'), what is still to be told stays the same. Conditions: the reader lies in memory.
-/
import Derived.Test.YtfjiikadnlhekaaDoorIn5
import Derived.Test.YtfjiikadnlhekaaDoorMid
namespace Go.Proofs.YtfjiikadnlhekaaDoor
open Go.RowKit

/-- What is told in the end is G: m goes on at place k, or a fault sticks. -/
def Sticks {β : Type} (bs : List UInt8) (m : Rd β) (G : Got β) (k : Nat) (c p : Int) : Prop :=
  (c = 0 ∧ p = 0 ∧ G = m (bs.drop k)) ∨ (∃ c' p' : Nat, c' ≠ 0 ∧ c = (c' : Int) ∧ p = (p' : Int) ∧ G = .error (c', p'))

theorem Sticks.to {β : Type} {bs : List UInt8} {m m' : Rd β} {G : Got β} {k : Nat} {c p : Int} (h : Sticks bs m G k c p) (e : c = 0 → m (bs.drop k) = m' (bs.drop k)) : Sticks bs m' G k c p := by
  rcases h with ⟨h1, h2, h3⟩ | h
  · exact Or.inl ⟨h1, h2, h3.trans (e h1)⟩
  · exact Or.inr h
theorem Sticks.bad {β : Type} {bs : List UInt8} {m : Rd β} {m' : Rd β} {G : Got β} {k k' : Nat} {c p : Int} (h : Sticks bs m G k c p) (hc : c ≠ 0) : Sticks bs m' G k' c p := by
  rcases h with ⟨h1, _⟩ | h
  · exact absurd h1 hc
  · exact Or.inr h
theorem Sticks.good {β : Type} {bs : List UInt8} {m : Rd β} {G : Got β} {k : Nat} {c p : Int} (h : Sticks bs m G k c p) (hc : c = 0) : p = 0 ∧ G = m (bs.drop k) := by
  rcases h with ⟨_, h2, h3⟩ | ⟨c', p', h1, h2, _⟩
  · exact ⟨h2, h3⟩
  · omega
theorem Sticks.err {β : Type} {bs : List UInt8} {m : Rd β} {G : Got β} {k : Nat} {c p : Int} (h : Sticks bs m G k c p) (hc : c ≠ 0) : ∃ c' p' : Nat, c' ≠ 0 ∧ c = (c' : Int) ∧ p = (p' : Int) ∧ G = .error (c', p') := by
  rcases h with ⟨h1, _⟩ | h
  · exact absurd h1 hc
  · exact h
/-- A fault that has just been told. -/
theorem Sticks.fault {β : Type} {bs : List UInt8} {m : Rd β} {G : Got β} {k : Nat} (c p : Nat) (hc : c ≠ 0) (h : G = .error (c, p)) : Sticks bs m G k (c : Int) (p : Int) := Or.inr ⟨c, p, hc, rfl, rfl, h⟩

/-- What a reader's method leaves, whatever its state. -/
def SPost {α β : Type} (V : α → Value) (R : α → Prop) (f : α → Rd β) (G : Got β) (w : World) (b : Nat) (ao : Option Addr) (ca : Nat) (bs : List UInt8) (e : Ending) (w' : World) : Prop :=
  ∃ a k' c' p', e = .returned (V a) ∧ R a ∧ IAt w' b ao ca bs k' c' p' ∧ But w w' b ∧ Sticks bs (f a) G k' c' p'

theorem spost_of {α β : Type} {V : α → Value} {Z : Value → Prop} {R : α → Prop} {m : Rd α} {f : α → Rd β} {G : Got β} {w : World} {b : Nat} {ao : Option Addr} {ca : Nat} {bs : List UInt8} {k : Nat} {e : Ending} {w' : World} (z : α) (hz : R z) (hZ : ∀ v, Z v → v = V z)
    (hR : ∀ a r, m (bs.drop k) = .ok (a, r) → R a) (hS : G = andThen m f (bs.drop k)) (h : IPost V Z (m (bs.drop k)) w b ao ca bs e w') : SPost V R f G w b ao ca bs e w' := by
  rcases h with ⟨a, k', hG, he, hI, hB⟩ | ⟨c, p, k', v, hG, hc, he, hv, hI, hB⟩
  · exact ⟨a, k', 0, 0, he, hR a _ hG, hI, hB, Or.inl ⟨rfl, rfl, hS.trans (andThen_ok hG)⟩⟩
  · exact ⟨z, k', c, p, by rw [he, hZ v hv], hz, hI, hB, Sticks.fault c p hc (hS.trans (andThen_err hG))⟩
theorem spost_bad {α β : Type} {V : α → Value} {R : α → Prop} {m : Rd β} {f : α → Rd β} {G : Got β} {w : World} {b : Nat} {ao : Option Addr} {ca : Nat} {bs : List UInt8} {k : Nat} {c p : Int} (z : α) (hz : R z) (hI : IAt w b ao ca bs k c p) (hS : Sticks bs m G k c p) (hc : c ≠ 0) :
    SPost V R f G w b ao ca bs (.returned (V z)) w := ⟨z, k, c, p, rfl, hz, hI, But.refl _ _, hS.bad hc⟩

theorem inum_st {β : Type} (f : Nat → Rd β) (G : Got β) (b : Nat) (ao : Option Addr) (ca : Nat) (bs : List UInt8) (k : Nat) (c p : Int) (w : World) (hI : IAt w b ao ca bs k c p) (hS : Sticks bs (andThen (rNum bs.length) f) G k c p) :
    Calls Tryd.prog 57 #[.pointer (some ⟨b, 0, none⟩)] w (SPost (fun u : Nat => .tuple #[.int .u64 (u : Int), .int .i64 (k : Int)]) (fun u => u < 9223372036854775808) f G w b ao ca bs) := by
  by_cases hc : c = 0
  · obtain ⟨rfl, hG⟩ := hS.good hc
    subst hc
    exact (inum_any b ao ca bs k w hI).mono fun e w' h => spost_of (z := 0) (by omega) (fun v hv => hv) (fun a r hr => (num_wrote _ _ _ _ hr).1) hG h
  · exact (inum_bad b ao ca bs k c p hc w hI).mono fun e w' ⟨he, hw⟩ => by rw [he, hw]; exact spost_bad (z := 0) (by omega) hI hS hc

theorem iint_st {β : Type} (f : Int → Rd β) (G : Got β) (b : Nat) (ao : Option Addr) (ca : Nat) (bs : List UInt8) (k : Nat) (c p : Int) (w : World) (hI : IAt w b ao ca bs k c p) (hS : Sticks bs (andThen (rInt bs.length) f) G k c p) :
    Calls Tryd.prog 56 #[.pointer (some ⟨b, 0, none⟩)] w (SPost (fun n : Int => .int .i64 n) (fun _ => True) f G w b ao ca bs) := by
  by_cases hc : c = 0
  · obtain ⟨rfl, hG⟩ := hS.good hc
    subst hc
    exact (iint_any b ao ca bs k w hI).mono fun e w' h => spost_of (z := 0) trivial (fun v hv => hv) (fun a r hr => trivial) hG h
  · exact (iint_bad b ao ca bs k c p hc w hI).mono fun e w' ⟨he, hw⟩ => by rw [he, hw]; exact spost_bad (z := 0) trivial hI hS hc

theorem imany_st {β : Type} (most : Nat) (hmost : most ≤ 1073741824) (f : Nat → Rd β) (G : Got β) (b : Nat) (ao : Option Addr) (ca : Nat) (bs : List UInt8) (k : Nat) (c p : Int) (w : World) (hI : IAt w b ao ca bs k c p) (hS : Sticks bs (andThen (rMany bs.length most) f) G k c p) :
    Calls Tryd.prog 55 #[.pointer (some ⟨b, 0, none⟩), .int .i64 (most : Int)] w (SPost (fun u : Nat => .int .i64 (u : Int)) (fun u => u ≤ most) f G w b ao ca bs) := by
  by_cases hc : c = 0
  · obtain ⟨rfl, hG⟩ := hS.good hc
    subst hc
    exact (imany_any b ao ca bs k most hmost w hI).mono fun e w' h => spost_of (z := 0) (by omega) (fun v hv => hv) (fun a r hr => many_le hr) hG h
  · exact (imany_bad b ao ca bs k most c p hc w hI).mono fun e w' ⟨he, hw⟩ => by rw [he, hw]; exact spost_bad (z := 0) (by omega) hI hS hc

theorem ibyte_st {β : Type} (f : UInt8 → Rd β) (G : Got β) (b : Nat) (ao : Option Addr) (ca : Nat) (bs : List UInt8) (k : Nat) (c p : Int) (w : World) (hI : IAt w b ao ca bs k c p) (hS : Sticks bs (andThen (rByte bs.length) f) G k c p) :
    Calls Tryd.prog 52 #[.pointer (some ⟨b, 0, none⟩)] w (SPost (fun x : UInt8 => .int .i64 (x.toNat : Int)) (fun _ => True) f G w b ao ca bs) := by
  by_cases hc : c = 0
  · obtain ⟨rfl, hG⟩ := hS.good hc
    subst hc
    by_cases hk : k < bs.length
    · exact (ibyte_ok b ao ca bs k hk 0 w hI).mono fun e w' ⟨he, hI', hB⟩ => ⟨bs[k], k + 1, 0, 0, he, trivial, hI', hB, Or.inl ⟨rfl, rfl, hG.trans (andThen_ok (rByte_in _ _ _ hk))⟩⟩
    · obtain rfl : k = bs.length := by have := hI.2.2.2.2; omega
      exact (ibyte_end b ao ca bs 0 w hI).mono fun e w' ⟨he, hI', hB⟩ => ⟨0, bs.length, 81, bs.length, he, trivial, hI', hB, Sticks.fault 81 bs.length (by decide) (hG.trans (andThen_err (rByte_out _ _)))⟩
  · exact (ibyte_bad b ao ca bs k c p hc w hI).mono fun e w' ⟨he, hw⟩ => by rw [he, hw]; exact spost_bad (z := 0) trivial hI hS hc

/-- A world in which the reader has turned, and one other block of the call's own. -/
theorem IAt.stay {w w' : World} {b : Nat} {ao : Option Addr} {ca : Nat} {bs : List UInt8} {k : Nat} {c p : Int} (h : IAt w b ao ca bs k c p) (hb : w'.heap[b]? = w.heap[b]?) (ha : ∀ a, ao = some a → w'.heap[a.block]? = w.heap[a.block]?) : IAt w' b ao ca bs k c p :=
  ⟨hb.trans h.1, h.2.1.kept ha, h.2.2.1, h.2.2.2.1, h.2.2.2.2⟩
/-! The spec's phases, one step each. -/
theorem reps_eq {α β : Type} {m : Rd α} {n : Nat} {l : List α} {f : List α → Rd β} : andThen (rReps m (n + 1) l) f = andThen m fun a => andThen (rReps m n (l ++ [a])) f := by
  funext r
  show andThen (andThen m fun a => rReps m n (l ++ [a])) f r = _
  cases h : m r with
  | error e => rw [andThen_two_err h, andThen_err h]
  | ok x => obtain ⟨a, r'⟩ := x; rw [andThen_two h, andThen_ok h]
theorem andThen_assoc {α β γ : Type} (m : Rd α) (g : α → Rd γ) (f : γ → Rd β) : andThen (andThen m g) f = andThen m fun a => andThen (g a) f := by
  funext r
  cases h : m r with
  | error e => rw [andThen_two_err h, andThen_err h]
  | ok x => obtain ⟨a, r'⟩ := x; rw [andThen_two h, andThen_ok h]
theorem andThen_told {α β : Type} (a : α) (f : α → Rd β) : andThen (told a) f = f a := rfl
theorem andThen_flaw {α β : Type} (e k : Nat) (f : α → Rd β) : andThen (flaw (α := α) e k) f = flaw e k := rfl
end Go.Proofs.YtfjiikadnlhekaaDoor
